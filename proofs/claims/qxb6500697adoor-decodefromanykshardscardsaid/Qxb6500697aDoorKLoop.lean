/-
  WHAT A LAW KEEPS FROM TRIAL TO TRIAL; ENCODED SHARDS AS A LIST; WHAT RESTORES THEM.
-/
import Derived.Test.Qxb6500697aDoorKReb2
import Derived.Test.Qxb6500697aDoorKChoose
import Derived.Test.Qxb6500697aDoorKSame
import Derived.Test.Qxb6500697aDoorLawShape
namespace Go.Proofs.Qxb6500697aDoor
open Go.RowKit

theorem BRow.keeps {w w' : World} {ao : Option Addr} {bs : List Nat} (h : BRow w ao bs) (k : Keeps w w') : BRow w' ao bs :=
  ⟨h.lt, fun hn => by
    obtain ⟨b, o, ha, hc⟩ := h.row hn
    exact ⟨b, o, ha, fun i hi => k _ _ _ (hc i hi)⟩⟩
theorem NRow.keeps {w w' : World} {F : Nat → Prop} {ao : Option Addr} {ns : List Nat} (h : NRow w F ao ns) (k : Keeps w w') : NRow w' F ao ns := fun hn => by
  obtain ⟨b, o, ha, hF, hc⟩ := h hn
  exact ⟨b, o, ha, hF, fun i hi => k _ _ _ (hc i hi)⟩
theorem TrOk.keeps {w w' : World} {B : Nat} {F : Nat → Prop} {t : Tr} (h : TrOk w B F t) (k : Keeps w w') : TrOk w' B F t :=
  { h with codec := h.codec.keeps k, obj := h.obj.keeps k, sub := h.sub.keeps k }
theorem Gens.keeps {w w' : World} (h : Gens w) (k : Keeps w w') : Gens w' := by
  obtain ⟨b, o, c, h1, h2, h3⟩ := h
  exact ⟨b, o, c, k _ _ _ h1, h2, fun i hi => k _ _ _ (h3 i hi)⟩

abbrev NoX : Nat → Prop := fun _ => False

/-- From the trials' making (w1) on: the codecs' maps alone have changed, and they are sound. -/
structure TW (X : Nat → Prop) (w1 wr : World) (ts : List Tr) : Prop where
  os : wr.os = w1.os
  tape : wr.tape = w1.tape
  output : wr.output = w1.output
  size : w1.heap.size ≤ wr.heap.size
  block : ∀ b, b < w1.heap.size → (∀ t ∈ ts, b ≠ t.mb) → wr.heap[b]? = w1.heap[b]?
  cache : ∀ t ∈ ts, Cache X wr t.mb t.k (t.k + t.m)

theorem TW.start {X : Nat → Prop} {w0 w1 : World} {v : Value} {ts : List Tr} (h : TOut w0 w1 v ts) : TW X w1 w1 ts :=
  ⟨rfl, rfl, rfl, Nat.le_refl _, fun _ _ _ => rfl, fun t ht => Cache.empty _ _ (h.map t ht).1⟩
theorem TW.keeps {X : Nat → Prop} {w0 w1 wr : World} {v : Value} {ts : List Tr} (h : TW X w1 wr ts) (hT : TOut w0 w1 v ts) : Keeps w1 wr := fun b o _ hv =>
  (World.cell?_of_block (a := ⟨b, o, none⟩) (h.block b (cell_lt hv) (fun t ht => map_cell (hT.map t ht).1 hv))).trans hv
theorem TW.step {X : Nat → Prop} {w0 w1 wr wr' : World} {v : Value} {ts : List Tr} {t : Tr} (h : TW X w1 wr ts) (hT : TOut w0 w1 v ts) (ht : t ∈ ts) (hm : Mut t.mb wr wr') (hc : Cache X wr' t.mb t.k (t.k + t.m)) : TW X w1 wr' ts := by
  refine ⟨hm.os.trans h.os, hm.tape.trans h.tape, hm.output.trans h.output, Nat.le_trans h.size hm.size, fun b hb hne => (hm.block b (Nat.lt_of_lt_of_le hb h.size) (hne t ht)).trans (h.block b hb hne), fun t' ht' => ?_⟩
  by_cases e : t'.mb = t.mb
  · obtain ⟨_, h2, h3⟩ := hT.same t' ht' t ht e
    rw [e, h2, h3]; exact hc
  · have hc' := h.cache t' ht'
    exact hc'.keep (hm.keepsC (h.cache t ht)) (hm.block _ hc'.lt e)
theorem TW.belowStep {X : Nat → Prop} {w1 wr wr' : World} {ts : List Tr} (h : TW X w1 wr ts) (hb : Below wr.heap.size wr wr') : TW X w1 wr' ts :=
  ⟨hb.os.trans h.os, hb.tape.trans h.tape, hb.output.trans h.output, Nat.le_trans h.size hb.size, fun b hlt hne => (hb.block b (Nat.lt_of_lt_of_le hlt h.size)).trans (h.block b hlt hne), fun t ht => (h.cache t ht).below hb⟩
theorem TW.addX {X X' : Nat → Prop} {w1 wr wr' : World} {ts : List Tr} (h : TW X w1 wr ts) (hb : Below wr.heap.size wr wr') (hX : ∀ b, X' b → X b ∨ wr.heap.size ≤ b) : TW X' w1 wr' ts :=
  ⟨hb.os.trans h.os, hb.tape.trans h.tape, hb.output.trans h.output, Nat.le_trans h.size hb.size, fun b hlt hne => (hb.block b (Nat.lt_of_lt_of_le hlt h.size)).trans (h.block b hlt hne), fun t ht => (h.cache t ht).addX hb hX⟩
theorem TW.weak {X X' : Nat → Prop} {w1 wr : World} {ts : List Tr} (h : TW X w1 wr ts) (hX : ∀ b, X' b → X b) : TW X' w1 wr ts := h.addX (Below.refl _ _) (fun b hb => .inl (hX b hb))
/-- Only blocks of X written, all of them younger than the trials. -/
theorem TW.keepX {X : Nat → Prop} {w0 w1 wr wr' : World} {v : Value} {ts : List Tr} (h : TW X w1 wr ts) (hT : TOut w0 w1 v ts) (hX : ∀ b, X b → w1.heap.size ≤ b) (hb : Below w1.heap.size wr wr') (hk : ∀ b, ¬ X b → wr'.heap[b]? = wr.heap[b]?) : TW X w1 wr' ts := by
  refine ⟨hb.os.trans h.os, hb.tape.trans h.tape, hb.output.trans h.output, Nat.le_trans h.size hb.size, fun b hlt hne => (hb.block b hlt).trans (h.block b hlt hne), fun t ht => (h.cache t ht).keepX (fun hx => ?_) (fun b hn _ => hk b hn)⟩
  have h1 := hX _ hx
  have h2 := heap_lt (hT.map t ht).1
  omega
theorem TW.fin {X : Nat → Prop} {w0 w1 wr : World} {v : Value} {ts : List Tr} (h : TW X w1 wr ts) (hT : TOut w0 w1 v ts) : Below w0.heap.size w0 wr :=
  ⟨h.os.trans hT.bel.os, h.tape.trans hT.bel.tape, h.output.trans hT.bel.output, Nat.le_trans hT.bel.size h.size, fun b hb =>
    (h.block b (Nat.lt_of_lt_of_le hb hT.bel.size) (fun t ht e => by have := (hT.map t ht).2.1; omega)).trans (hT.bel.block b hb)⟩
theorem TW.errs {X : Nat → Prop} {n : Nat} {w0 w1 wr : World} {v : Value} {ts : List Tr} {e : Nat → Addr} (h : TW X w1 wr ts) (hT : TOut w0 w1 v ts) (E : KErrs n w1 e) : KErrs n wr e :=
  E.keeps (h.keeps hT) (fun b hb ⟨c, t, f, hc⟩ => h.block b hb (fun x hx e => by rw [e, (hT.map x hx).1] at hc; cases hc))

/-! ### Encoded shards -/
def mkSd (g n size : Nat) (pb po : Nat → Nat) (P : Nat → Nat → Nat) (i : Nat) : Sd := ⟨g, (i : Int), (n : Int), some ⟨pb i, po i, none⟩, size, size, P i⟩
def shL (N g n size : Nat) (pb po : Nat → Nat) (P : Nat → Nat → Nat) : List Sd := (List.range N).map (mkSd g n size pb po P)
theorem shL_len (N g n size : Nat) (pb po : Nat → Nat) (P : Nat → Nat → Nat) : (shL N g n size pb po P).length = N := by simp [shL]
theorem shL_get {N g n size : Nat} {pb po : Nat → Nat} {P : Nat → Nat → Nat} {i : Nat} (h : i < N) : (shL N g n size pb po P).getD i Sd.zero = mkSd g n size pb po P i := by
  rw [getD_lt (by rw [shL_len]; exact h)]; simp [shL]
theorem ShardsAt.sdrow {w : World} {HS N g n size : Nat} {pb po : Nat → Nat} {P : Nat → Nat → Nat} (h : ShardsAt w HS N g n size pb po P) (hg : g < 256) (hN : N ≤ 4096) (hn : n ≤ 4096) (hs : size ≤ 4096) : SdRow w (some ⟨HS, 0, none⟩) (shL N g n size pb po P) := by
  refine SdRow.of_rowIs (f := mkSd g n size pb po P) ?_ (fun j hj => by simp [shL]) (fun s hs' => ?_)
  · rw [shL_len]
    refine h.row.congr (fun p _ => ?_)
    unfold shc sdc mkSd
    by_cases h0 : p % 4 = 0
    · simp only [if_pos h0]
    · by_cases h1 : p % 4 = 1
      · simp only [if_neg h0, if_pos h1]
      · by_cases h2 : p % 4 = 2
        · simp only [if_neg h0, if_neg h1, if_pos h2]
        · simp only [if_neg h0, if_neg h1, if_neg h2]
  · obtain ⟨i, hi, rfl⟩ := List.mem_map.1 hs'
    have hi' := List.mem_range.1 hi
    exact ⟨hg, by show -9223372036854775808 ≤ ((i : Nat) : Int) ∧ ((i : Nat) : Int) ≤ 9223372036854775807; omega, by show -9223372036854775808 ≤ ((n : Nat) : Int) ∧ ((n : Nat) : Int) ≤ 9223372036854775807; omega, h.pay i hi', Nat.le_refl _, by show size ≤ 9223372036854775807; omega⟩

theorem sprd_lt (k u n : Nat) (f : Nat → Nat) (hf : ∀ i, i < n → f i < 256) (j c : Nat) : sprd k u n f j c < 256 := by
  unfold sprd
  split
  · rename_i h2; exact hf _ h2
  · decide
/-- Every shard of an object out of its rows. -/
theorem pay_dot (g k n : Nat) (f : Nat → Nat) (hk : k ≤ 16) (hf : ∀ i, i < n → f i < 256) (i c : Nat) : pay g k n f i c = gdot (genr g k i) (fun j => sprd k (punit g k n) n f j c) k := by
  unfold pay
  split
  · rename_i h
    rw [genr_top g k i hk h (fun j => sprd k (punit g k n) n f j c) (fun j _ => sprd_lt _ _ _ _ hf _ _)]
  · rfl
/-- The padded object out of its rows. -/
theorem col_sprd (k u n : Nat) (f : Nat → Nat) (p : Nat) (hu : 0 < u) : col k u (sprd k u n f) p = if p < n then f p else 0 := by
  unfold col sprd
  have h := pos_of_turn k u (p / u) (p % u) (Nat.mod_lt _ hu)
  have h2 : p / u * u + p % u = p := by rw [Nat.mul_comm]; exact Nat.div_add_mod p u
  rw [h, h2]

/-- A list of encoded shards, chosen by numbers. -/
def chosen (ns : List Nat) (N g n size : Nat) (pb po : Nat → Nat) (P : Nat → Nat → Nat) : List Sd := ns.map fun i => (shL N g n size pb po P).getD i Sd.zero
theorem chosen_mem {ns : List Nat} {N g n size : Nat} {pb po : Nat → Nat} {P : Nat → Nat → Nat} (h : ∀ i ∈ ns, i < N) {x : Sd} (hx : x ∈ chosen ns N g n size pb po P) : ∃ i ∈ ns, x = mkSd g n size pb po P i := by
  obtain ⟨i, hi, rfl⟩ := List.mem_map.1 hx
  exact ⟨i, hi, shL_get (h i hi)⟩
theorem chosen_ix {ns : List Nat} {N g n size : Nat} {pb po : Nat → Nat} {P : Nat → Nat → Nat} (h : ∀ i ∈ ns, i < N) : (chosen ns N g n size pb po P).map (fun x => x.ix.toNat) = ns := by
  unfold chosen
  rw [List.map_map]
  have : ∀ i ∈ ns, ((fun x : Sd => x.ix.toNat) ∘ fun i => (shL N g n size pb po P).getD i Sd.zero) i = id i := by
    intro i hi
    show ((shL N g n size pb po P).getD i Sd.zero).ix.toNat = i
    rw [shL_get (h i hi)]; rfl
  rw [List.map_congr_left this, List.map_id]
theorem g0of_all {ss : List Sd} {g : Nat} (hne : ss ≠ []) (h : ∀ x ∈ ss, x.g = g) : g0of ss = g := by
  cases ss with
  | nil => exact absurd rfl hne
  | cons x l => exact h x List.mem_cons_self
theorem ol0of_all {ss : List Sd} {n : Int} (hne : ss ≠ []) (h : ∀ x ∈ ss, x.ol = n) : ol0of ss = n := by
  cases ss with
  | nil => exact absurd rfl hne
  | cons x l => exact h x List.mem_cons_self

/-- Such a list is good, and the object's rows give it. -/
theorem chosen_good {ns : List Nat} {k N g n : Nat} {pb po : Nat → Nat} {f : Nat → Nat} (hk : 1 ≤ k) (hk16 : k ≤ 16) (hg : g = 1 ∨ g = 2 ∨ g = 3) (hn : n ≤ 256) (hf : ∀ i, i < n → f i < 256) (hlt : ∀ i ∈ ns, i < N) (hnd : ns.Nodup) (hl : k ≤ ns.length) :
    Good k N (chosen ns N g n (psize g k n) pb po (pay g k n f)) ∧ g0of (chosen ns N g n (psize g k n) pb po (pay g k n f)) = g ∧ ol0of (chosen ns N g n (psize g k n) pb po (pay g k n f)) = (n : Int) ∧
      BytD k (psize g k n) (sprd k (punit g k n) n f) ∧ Fits g k (psize g k n) (chosen ns N g n (psize g k n) pb po (pay g k n f)) (sprd k (punit g k n) n f) ∧ PadZ k (punit g k n) (psize g k n) n (sprd k (punit g k n) n f) := by
  have hne : chosen ns N g n (psize g k n) pb po (pay g k n f) ≠ [] := by
    intro h
    have h2 := congrArg List.length h
    simp [chosen] at h2
    rw [h2] at hl
    simp at hl
    omega
  have hmem : ∀ x ∈ chosen ns N g n (psize g k n) pb po (pay g k n f), ∃ i ∈ ns, x = mkSd g n (psize g k n) pb po (pay g k n f) i := fun x hx => chosen_mem hlt hx
  have hg0 := g0of_all hne (g := g) (fun x hx => by obtain ⟨i, _, rfl⟩ := hmem x hx; rfl)
  have ho0 := ol0of_all hne (n := (n : Int)) (fun x hx => by obtain ⟨i, _, rfl⟩ := hmem x hx; rfl)
  refine ⟨⟨hne, fun x hx => ?_, by rw [chosen_ix hlt]; exact hnd, by rw [ho0]; omega, fun x hx => ?_, by simpa [chosen] using hl⟩, hg0, ho0, fun j _ c _ => sprd_lt _ _ _ _ hf _ _, fun x hx c hc => ?_, fun p hp1 hp2 => ?_⟩
  · obtain ⟨i, hi, rfl⟩ := hmem x hx
    have := hlt i hi
    exact ⟨hg, by show 0 ≤ ((i : Nat) : Int) ∧ ((i : Nat) : Int) < (N : Int); omega, by rw [hg0]; rfl⟩
  · obtain ⟨i, hi, rfl⟩ := hmem x hx
    rw [hg0, ho0]
    exact ⟨rfl, rfl⟩
  · obtain ⟨i, hi, rfl⟩ := hmem x hx
    exact (pay_dot g k n f hk16 hf i c).symm
  · have hu : 0 < punit g k n := by
      obtain ⟨h1, ⟨r, h2⟩, _⟩ := plan_fits g k n hk
      rcases Nat.eq_zero_or_pos (punit g k n) with h0 | h0
      · rw [h0, Nat.mul_zero] at h2; rw [h2, Nat.mul_zero] at hp2; omega
      · exact h0
    rw [col_sprd k (punit g k n) n f p hu, if_neg (by omega)]

/-- Two lists of rows that give the same list are the same. -/
theorem fits_uniq {k N g size : Nat} {ss : List Sd} {D D' : Nat → Nat → Nat} (hk : k ≤ 16) (hN : N ≤ 16) (hG : Good k N ss) (hb : BytD k size D) (hb' : BytD k size D') (hf : Fits g k size ss D) (hf' : Fits g k size ss D') : ∀ j, j < k → ∀ c, c < size → D j c = D' j c := by
  intro j hj c hc
  have hlen := hG.len
  have hi := genr_mds g k hk (fun t => (ss.getD t Sd.zero).ix.toNat) (fun t ht => by
      have hm : ss.getD t Sd.zero ∈ ss := getD_mem (by omega)
      have := (hG.fit _ hm).ix
      omega) (fun s t hs ht e => by
      have hnd := hG.nodup
      have e1 : (ss.map fun x => x.ix.toNat)[s]'(by simp; omega) = (ss.map fun x => x.ix.toNat)[t]'(by simp; omega) := by
        rw [List.getElem_map, List.getElem_map, ← getD_lt (d := Sd.zero), ← getD_lt (d := Sd.zero)]
        exact e
      exact (List.getElem_inj hnd).1 e1)
  have h0 := hi (fun j => D j c ^^^ D' j c) (fun j hj => xor8n _ _ (hb j hj c hc) (hb' j hj c hc)) (fun t ht => by
    have hm : ss.getD t Sd.zero ∈ ss := getD_mem (by omega)
    rw [gdot_xor_right, hf _ hm c hc, hf' _ hm c hc, Nat.xor_self]) j hj
  exact Classical.byContradiction fun hne => xor_ne_zero hne h0
end Go.Proofs.Qxb6500697aDoor
