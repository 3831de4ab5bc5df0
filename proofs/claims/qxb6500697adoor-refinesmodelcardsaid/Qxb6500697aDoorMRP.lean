/-
  PLAIN: rows as an object deals them; lists of shards alike.
-/
import Derived.Test.Qxb6500697aDoorMRG
namespace Go.Proofs.Qxb6500697aDoor
open Go.RowKit

theorem norm_aux {g k n : Nat} {l : List Sd} {D : Nat → Nat → Nat} (hk : 1 ≤ k) (hb : BytD k (psize g k n) D) (hf : Fits g k (psize g k n) l D) (hp : PadZ k (punit g k n) (psize g k n) n D) :
    (BytD k (psize g k n) (sprd k (punit g k n) n (col k (punit g k n) D)) ∧ Fits g k (psize g k n) l (sprd k (punit g k n) n (col k (punit g k n) D)) ∧ PadZ k (punit g k n) (psize g k n) n (sprd k (punit g k n) n (col k (punit g k n) D))) ∧ (∀ p, p < n → col k (punit g k n) D p < 256) ∧ ∀ j, j < k → ∀ c, c < psize g k n → sprd k (punit g k n) n (col k (punit g k n) D) j c = D j c := by
  obtain ⟨hp1, ⟨r, hr⟩, hfit⟩ := plan_fits g k n hk
  have hcb : ∀ p, p < n → col k (punit g k n) D p < 256 := fun p hp => by
    obtain ⟨h1, h2⟩ := col_bound (k := k) (u := punit g k n) (by omega) hr (Nat.lt_of_lt_of_le hp hfit)
    exact hb _ h1 _ h2
  have he : ∀ j, j < k → ∀ c, c < psize g k n → sprd k (punit g k n) n (col k (punit g k n) D) j c = D j c := fun j hj c hc => by
    have hu : 0 < punit g k n := by
      rcases Nat.eq_zero_or_pos (punit g k n) with h | h
      · rw [hr, h, Nat.mul_zero] at hc; omega
      · exact h
    have hlt : pos k (punit g k n) j c < k * psize g k n := by rw [hr] at hc ⊢; exact pos_lt hj hc
    unfold sprd
    split
    · exact col_pos D hu hj
    · rw [← col_pos D hu hj]; exact (hp _ (by omega) hlt).symm
  refine ⟨⟨fun j hj c hc => ?_, fun x hx c hc => ?_, fun p h1 h2 => ?_⟩, hcb, he⟩
  · rw [he j hj c hc]; exact hb j hj c hc
  · rw [gdot_congr (fun _ _ => rfl) (fun j hj => he j hj c hc)]; exact hf x hx c hc
  · rw [col_congr (by omega) hr he h2]; exact hp p h1 h2
/-- The same rows, dealt from the object that they hold. -/
theorem RowsOk.norm {k N : Nat} {l : List Sd} {D : Nat → Nat → Nat} (h : RowsOk k N l D) (hk : 1 ≤ k) :
    RowsOk k N l (sprd k (punit (g0of l) k (ol0of l).toNat) (ol0of l).toNat (objOf k l D)) ∧ (∀ p, p < (ol0of l).toNat → objOf k l D p < 256) ∧ ∀ j, j < k → ∀ c, c < psize (g0of l) k (ol0of l).toNat → sprd k (punit (g0of l) k (ol0of l).toNat) (ol0of l).toNat (objOf k l D) j c = D j c := by
  obtain ⟨⟨h1, h2, h3⟩, h4⟩ := norm_aux hk h.byt h.fits h.pad
  exact ⟨⟨h.good, h1, h2, h3⟩, h4⟩

theorem Refu.lt {k N i : Nat} {l : List Sd} (h : Refu k N l i) : i < 9 := by
  rcases h with h | ⟨_, _, rfl⟩
  · have := gcls_lt8 h; omega
  · omega
/-- A list like the wanted one. -/
theorem Alike.sl {ts : List Sd} {l : List Nat} {g n size : Nat} {P : Nat → Nat → Nat} (h : Alike ts l g n size P) : SL ts (l.map (sdOf g n size P)) := by
  refine ⟨by rw [List.length_map]; exact h.1, fun j hj => ?_⟩
  have hj' : j < l.length := by rw [← h.1]; exact hj
  have e : (l.map (sdOf g n size P)).getD j Sd.zero = sdOf g n size P (l.getD j 0) := by
    rw [getD_lt (by simpa using hj'), List.getElem_map, getD_lt hj']
  rw [e]
  exact h.2 j hj'
theorem Alike.pl {ts : List Sd} {l : List Nat} {g n size : Nat} {P : Nat → Nat → Nat} (h : Alike ts l g n size P) : ∀ s ∈ ts, s.pl = size := by
  intro s hs
  obtain ⟨j, hj, rfl⟩ := List.mem_iff_getElem.1 hs
  have := (h.2 j (by rw [← h.1]; exact hj))
  rw [getD_lt hj] at this
  exact this.2.2.2.1
theorem shL_sl (k m g n : Nat) (pb po : Nat → Nat) (f : Nat → Nat) : SL (shL (k + m) g n (psize g k n) pb po (pay g k n f)) (encL k m g n f) := by
  unfold shL encL
  exact SL.ofMap (fun i _ => ⟨rfl, rfl, rfl, rfl, fun _ _ => rfl⟩)
/-- An answer of shards. -/
theorem AnsOk.shards {w : World} {er : Nat} {ao : Option Addr} {c : Nat} {l : List Sd} (h : SdRow w ao l) (hl : l.length ≤ 65536) (hp : ∀ s ∈ l, s.pl ≤ 65536) : AnsOk w (.agg #[.int .u8 (er : Int), .slice none 0 0, .slice ao l.length c, .slice none 0 0, .int .i64 0]) { ansE er with sh := l } :=
  ⟨none, 0, ao, c, none, 0, rfl, FRow.nil _ _ _, h.o, ZRow.nil _ _ _, Nat.zero_le _, hl, Nat.zero_le _, hp⟩
/-- An answer of bytes. -/
theorem AnsOk.bytes {w : World} {er : Nat} {ao : Option Addr} {n c : Nat} {f : Nat → Nat} (h : FRow w ao n f) (hn : n ≤ 65536) : AnsOk w (.agg #[.int .u8 (er : Int), .slice ao n c, .slice none 0 0, .slice none 0 0, .int .i64 0]) { ansE er with D := n, df := f } :=
  ⟨ao, c, none, 0, none, 0, rfl, h, (SdRow.nil _ _).o, ZRow.nil _ _ _, hn, Nat.zero_le _, Nat.zero_le _, by intro s hs; cases hs⟩
/-- An answer of numbers in a row. -/
theorem AnsOk.list {w : World} {er : Nat} {ao : Option Addr} {n c : Nat} {f : Nat → Int} (h : ZRow w ao n f) (hn : n ≤ 65536) : AnsOk w (.agg #[.int .u8 (er : Int), .slice none 0 0, .slice none 0 0, .slice ao n c, .int .i64 0]) { ansE er with M := n, lf := f } :=
  ⟨none, 0, none, 0, ao, c, rfl, FRow.nil _ _ _, (SdRow.nil _ _).o, h, Nat.zero_le _, Nat.zero_le _, hn, by intro s hs; cases hs⟩
theorem Stay.refl (k m : Nat) (ss : List Sd) : Stay k m ss k m ss := ⟨rfl, rfl, SL.refl _⟩
theorem Spec.k3 {k m : Nat} {ss : List Sd} {o : KOp} {A : Ans} {k' m' : Nat} {ss' : List Sd} (h0 : o.kind = 3) (h : Spec3 k m ss o A k' m' ss') : Spec k m ss o A k' m' ss' := by
  unfold Spec; rw [if_neg (by omega), if_neg (by omega), if_pos h0]; exact h
theorem Spec.k4 {k m : Nat} {ss : List Sd} {o : KOp} {A : Ans} {k' m' : Nat} {ss' : List Sd} (h0 : o.kind = 4) (h : Spec4 k m ss o A k' m' ss') : Spec k m ss o A k' m' ss' := by
  unfold Spec; rw [if_neg (by omega), if_neg (by omega), if_neg (by omega), if_pos h0]; exact h
theorem Spec.k5 {k m : Nat} {ss : List Sd} {o : KOp} {A : Ans} {k' m' : Nat} {ss' : List Sd} (h0 : o.kind = 5) (h : Spec5 k m ss o A k' m' ss') : Spec k m ss o A k' m' ss' := by
  unfold Spec; rw [if_neg (by omega), if_neg (by omega), if_neg (by omega), if_neg (by omega), if_pos h0]; exact h
theorem Spec.k6 {k m : Nat} {ss : List Sd} {o : KOp} {A : Ans} {k' m' : Nat} {ss' : List Sd} (h0 : o.kind = 6) (h : Spec6 k m ss o A k' m' ss') : Spec k m ss o A k' m' ss' := by
  unfold Spec; rw [if_neg (by omega), if_neg (by omega), if_neg (by omega), if_neg (by omega), if_neg (by omega), if_pos h0]; exact h
theorem Spec.k7 {k m : Nat} {ss : List Sd} {o : KOp} {A : Ans} {k' m' : Nat} {ss' : List Sd} (h0 : o.kind = 7) (h : Spec7 k m ss o A k' m' ss') : Spec k m ss o A k' m' ss' := by
  unfold Spec; rw [if_neg (by omega), if_neg (by omega), if_neg (by omega), if_neg (by omega), if_neg (by omega), if_neg (by omega), if_pos h0]; exact h
theorem Spec.k8 {k m : Nat} {ss : List Sd} {o : KOp} {A : Ans} {k' m' : Nat} {ss' : List Sd} (h0 : o.kind = 8) (h : Spec8 k m ss o A k' m' ss') : Spec k m ss o A k' m' ss' := by
  unfold Spec; rw [if_neg (by omega), if_neg (by omega), if_neg (by omega), if_neg (by omega), if_neg (by omega), if_neg (by omega), if_neg (by omega), if_pos h0]; exact h
theorem Spec.k9 {k m : Nat} {ss : List Sd} {o : KOp} {A : Ans} {k' m' : Nat} {ss' : List Sd} (h0 : o.kind = 9) (h : Spec9 k m ss o A k' m' ss') : Spec k m ss o A k' m' ss' := by
  unfold Spec; rw [if_neg (by omega), if_neg (by omega), if_neg (by omega), if_neg (by omega), if_neg (by omega), if_neg (by omega), if_neg (by omega), if_neg (by omega), if_pos h0]; exact h
theorem Spec.k10 {k m : Nat} {ss : List Sd} {o : KOp} (h0 : 9 < o.kind) : Spec k m ss o (ansE 0) k m ss := by
  unfold Spec; rw [if_neg (by omega), if_neg (by omega), if_neg (by omega), if_neg (by omega), if_neg (by omega), if_neg (by omega), if_neg (by omega), if_neg (by omega), if_neg (by omega)]; exact ⟨AnsEq.refl _, Stay.refl _ _ _⟩
theorem Spec.k1 {k m : Nat} {ss : List Sd} {o : KOp} {A : Ans} {k' m' : Nat} {ss' : List Sd} (h0 : o.kind = 1 ∨ o.kind = 2) (h : Spec1 k m ss o A k' m' ss') : Spec k m ss o A k' m' ss' := by
  unfold Spec; rw [if_neg (by omega), if_pos h0]; exact h
end Go.Proofs.Qxb6500697aDoor
