/-
  THE WALKS OF Vandermonde AND Cauchy.
-/
import Derived.Test.Qxb6500697aDoorKInvW
import Derived.Test.Qxb6500697aDoorKPoly
import Derived.Maps.AppendAt
namespace Go.Proofs.Qxb6500697aDoor
open Go.RowKit

/-- A matrix that is only read, all of its blocks in F. -/
def RMatF (w : World) (F : Nat → Prop) (ao : Option Addr) (n m : Nat) (A : Nat → Nat → Nat) : Prop :=
  0 < n → ∃ b o, ao = some ⟨b, o, none⟩ ∧ F b ∧ ∀ r, r < n → ∃ so c, w.cell? ⟨b, o + r, none⟩ = some (.slice so m c) ∧ m ≤ c ∧ c ≤ 9223372036854775807 ∧ FRow w so m (A r) ∧ (0 < m → ∀ b o, so = some ⟨b, o, none⟩ → F b)

theorem RMatF.rmat {w : World} {F : Nat → Prop} {ao : Option Addr} {n m : Nat} {A : Nat → Nat → Nat} (h : RMatF w F ao n m A) : RMat w ao n m A := fun h0 => by
  obtain ⟨b, o, ha, _, hr⟩ := h h0
  refine ⟨b, o, ha, fun r hrn => ?_⟩
  obtain ⟨so, c, h1, h2, h3, h4, _⟩ := hr r hrn
  exact ⟨so, c, h1, h2, h3, h4⟩
theorem RMatF.keep {w w' : World} {F : Nat → Prop} {ao : Option Addr} {n m : Nat} {A : Nat → Nat → Nat} (h : RMatF w F ao n m A) (hk : ∀ b, F b → b < w.heap.size → w'.heap[b]? = w.heap[b]?) : RMatF w' F ao n m A := fun h0 => by
  obtain ⟨b, o, ha, hF, hr⟩ := h h0
  refine ⟨b, o, ha, hF, fun r hrn => ?_⟩
  obtain ⟨so, c, h1, h2, h3, h4, h5⟩ := hr r hrn
  refine ⟨so, c, (World.cell?_of_block (a := ⟨b, o + r, none⟩) (hk b hF (cell_lt h1))).trans h1, h2, h3, ?_, h5⟩
  rcases Nat.eq_zero_or_pos m with h6 | h6
  · exact ⟨h4.1, fun h7 => by omega⟩
  · exact h4.same fun b o hb hlt => hk b (h5 h6 b o hb) hlt
theorem RMatF.mono {w : World} {F F' : Nat → Prop} {ao : Option Addr} {n m : Nat} {A : Nat → Nat → Nat} (h : RMatF w F ao n m A) (hF : ∀ b, b < w.heap.size → F b → F' b) : RMatF w F' ao n m A := fun h0 => by
  obtain ⟨b, o, ha, hb, hr⟩ := h h0
  obtain ⟨so0, c0, h01, _⟩ := hr 0 h0
  refine ⟨b, o, ha, hF b (cell_lt h01) hb, fun r hrn => ?_⟩
  obtain ⟨so, c, h1, h2, h3, h4, h5⟩ := hr r hrn
  refine ⟨so, c, h1, h2, h3, h4, fun h6 b o hb => ?_⟩
  obtain ⟨b', o', hb', hc'⟩ := h4.2 h6
  rw [hb] at hb'
  obtain ⟨rfl, rfl⟩ : b = b' ∧ o = o' := by simpa using hb'
  exact hF b (cell_lt (hc' 0 h6)) (h5 h6 b o hb)
theorem MatAt.rmatF {w : World} {F : Nat → Prop} {H n m : Nat} {gs : Nat → Nat} {A : Nat → Nat → Nat} (h : MatAt w H n m gs A) (hm : m ≤ 65536) (hH : F H) (hg : ∀ r, r < n → F (gs r)) : RMatF w F (some ⟨H, 0, none⟩) n m A := fun _ =>
  ⟨H, 0, rfl, hH, fun r hr => ⟨_, m, by rw [Nat.zero_add]; exact h.hdr.cell hr, Nat.le_refl _, by omega, (h.row r hr).frow, fun _ b o he => by
    have : b = gs r := by
      have h2 := congrArg (fun x : Option Addr => (x.getD ⟨0, 0, none⟩).block) he
      exact h2.symm
    rw [this]; exact hg r hr⟩⟩

/-- The inverse of the top of the powers. -/
def vtop (k : Nat) : Nat → Nat → Nat := ((gjS k gpow k).getD (gone, gone)).2
/-- The Vandermonde generator: the powers times the inverse of their top. -/
def vand (k r c : Nat) : Nat := gdot (gpow r) (fun t => vtop k t c) k
theorem vand_lt (k r c : Nat) : vand k r c < 256 := gdot_lt _ _ _

/-- The powers, rows below r0 whole, row r0 up to j0. -/
def powTo (r0 j0 r c : Nat) : Nat := if r < r0 ∨ (r = r0 ∧ c < j0) then gpow r c else 0

set_option maxRecDepth 100000 in
set_option maxHeartbeats 2000000 in
theorem vandermonde_any (k m : Nat) (w : World) (hk : 1 ≤ k) (hn : k + m ≤ 16) :
    Calls Tryd.prog 59 #[.int .i64 k, .int .i64 m] w fun e w' => Below w.heap.size w w' ∧ ∃ H c, e = .returned (.slice (some ⟨H, 0, none⟩) ((k + m : Nat)) c) ∧ k + m ≤ c ∧ c ≤ 9223372036854775807 ∧ RMatF w' (fun b => w.heap.size ≤ b) (some ⟨H, 0, none⟩) (k + m) k (vand k) := by
  have HG : Hid (∃ s, gjS k gpow k = some s ∧ s.2 = vtop k) := by
    obtain ⟨s, hs, _⟩ := vand_top k (by omega)
    exact ⟨s, hs, by unfold vtop; rw [hs]; rfl⟩
  have HZ : Hid _ := zero_any (k + m) k w (by omega) (by omega)
  rw [Int.natCast_add] at HZ
  go_enter Tryd.func59, Tryd.ntmps59
  go_wp2_with fail
  refine Calls.mono HZ.out ?_
  rintro r w1 ⟨rfl, hM, hb, hsz⟩
  have HM : Hid (MatAt w1 w.heap.size (k + m) k (fun r => w.heap.size + 1 + r) (fun _ _ => 0)) := hM
  have HB : Hid (Below w.heap.size w w1) := hb
  clear hM hb HZ hsz
  obtain ⟨n, hkm⟩ : ∃ n, k + m = n := ⟨_, rfl⟩
  rw [hkm] at HM ⊢
  have hni : (k : Int) + (m : Int) = (n : Int) := by omega
  have hn16 : n ≤ 16 := by omega
  have hkn : k ≤ n := by omega
  have HKM : Hid (k + m = n) := hkm
  clear hkm
  go_wp2
  go_loopw [18] (fun i wr => ∃ r0 : Nat, r0 ≤ n ∧ i = .int .i64 r0 ∧ MatAt wr w.heap.size n k (fun r => w.heap.size + 1 + r) (powTo r0 0) ∧ Below w.heap.size w wr) (fun i _ => n - (intOf i).toNat)
  case atStart => exact ⟨0, Nat.zero_le _, rfl, MatAt.congr HM.out (fun r _ c _ => by simp [powTo]), HB.out⟩
  case round =>
    obtain ⟨r0, hr0, rfl, hM, hb⟩ := hrel
    clear HM HB
    by_cases hlt : r0 < n
    · have HM : Hid (MatAt wr w.heap.size n k (fun r => w.heap.size + 1 + r) (powTo r0 0)) := hM
      have HB : Hid (Below w.heap.size w wr) := hb
      have hlt' : (r0 : Int) < (n : Int) := by omega
      clear hM hb
      go_wp2
      go_loopw [7, 8] (fun e j wr => ∃ j0 : Nat, j0 ≤ k ∧ j = .int .i64 j0 ∧ e = .int .u8 ((gpow r0 j0 : Nat) : Int) ∧ MatAt wr w.heap.size n k (fun r => w.heap.size + 1 + r) (powTo r0 j0) ∧ Below w.heap.size w wr) (fun _ j _ => k - (intOf j).toNat)
      case atStart => exact ⟨0, Nat.zero_le _, rfl, rfl, HM.out, HB.out⟩
      case round =>
        obtain ⟨j0, hj0, rfl, rfl, hM, hb⟩ := hrel
        clear HM HB
        by_cases hjk : j0 < k
        · have c1 := hM.hdr.cell hlt
          have hrow := hM.row r0 hlt
          have c2 := hrow.cell hjk
          have fr := hrow.2.frozen j0
          have hp8 := gpow_lt r0 j0
          have hO : Only (w.heap.size + 1 + r0) wr (wr.setCell ⟨w.heap.size + 1 + r0, j0, none⟩ (.int .u8 ((gpow r0 j0 : Nat) : Int))) := (Only.refl _ _).setCell _ _
          have HF : Hid (MatAt (wr.setCell ⟨w.heap.size + 1 + r0, j0, none⟩ (.int .u8 ((gpow r0 j0 : Nat) : Int))) w.heap.size n k (fun r => w.heap.size + 1 + r) (powTo r0 (j0 + 1)) ∧ Below w.heap.size w (wr.setCell ⟨w.heap.size + 1 + r0, j0, none⟩ (.int .u8 ((gpow r0 j0 : Nat) : Int)))) := by
            refine ⟨(hM.rowSet hlt hO (hrow.set j0 _ hp8)).congr fun r hr c hc => ?_, hb.trans (hO.below (by omega))⟩
            by_cases e : r = r0
            · subst e
              rw [if_pos rfl]
              unfold powTo
              by_cases e2 : c = j0
              · subst e2; simp
              · rw [if_neg e2]
                by_cases h3 : c < j0
                · simp [h3, show c < j0 + 1 by omega]
                · simp [h3, show ¬ c < j0 + 1 by omega]
            · rw [if_neg e]
              unfold powTo
              simp [e]
          have HMu : Hid _ := mul_any (gpow r0 j0) r0 (wr.setCell ⟨w.heap.size + 1 + r0, j0, none⟩ (.int .u8 ((gpow r0 j0 : Nat) : Int))) hp8 (by omega)
          have HPs : Hid (gmul (gpow r0 j0) r0 = gpow r0 (j0 + 1)) := rfl
          have hjk' : (j0 : Int) < (k : Int) := by omega
          have hr256 : (r0 : Int) < 256 := by omega
          clear hM hb hrow hO
          obtain ⟨q, hq⟩ : ∃ q, gpow r0 j0 = q := ⟨_, rfl⟩
          rw [hq] at HF HMu HPs hp8 ⊢
          clear hq
          go_wp2_with fail
          refine Calls.mono HMu.out ?_
          rintro r w' ⟨rfl, hw⟩
          have hw := hw.symm; subst hw
          rw [HPs.out]
          go_wp2
          go_roundw
          case rel => exact ⟨j0 + 1, by omega, by go_num, rfl, HF.out⟩
          case measure => simp [intOf]; omega
        · have hjj : j0 = k := by omega
          subst hjj
          have HF : Hid (MatAt wr w.heap.size n j0 (fun r => w.heap.size + 1 + r) (powTo (r0 + 1) 0) ∧ Below w.heap.size w wr) := by
            refine ⟨hM.congr fun r hr c hc => ?_, hb⟩
            unfold powTo
            by_cases e : r < r0 + 1
            · rw [if_pos (by omega), if_pos (.inl e)]
            · rw [if_neg (by omega), if_neg (by omega)]
          clear hM hb
          go_wp2
          go_roundw
          case rel => exact ⟨r0 + 1, by omega, by go_num, HF.out⟩
          case measure => simp [intOf]; omega
    · have hrn : r0 = n := by omega
      subst hrn
      have hR : RMat wr (some ⟨w.heap.size, 0, none⟩) r0 k gpow := (hM.rmat (by omega)).congr fun r hr c _ => by simp [powTo, hr]
      have HR : Hid (RMat wr (some ⟨w.heap.size, 0, none⟩) r0 k gpow) := hR
      have HB : Hid (Below w.heap.size w wr) := hb
      have HI : Hid _ := invert_any (some ⟨w.heap.size, 0, none⟩) r0 k gpow wr (hR.take hkn) (by omega)
      have hkn' : (k : Int) ≤ (r0 : Int) := by omega
      clear hM hb hR
      go_wp2_with fail
      refine Calls.mono HI.out ?_
      intro r w4 hpost
      obtain ⟨s, hs, hst⟩ := HG.out
      unfold invPost at hpost
      rw [hs] at hpost
      obtain ⟨hb4, rfl, gs, hgs, hM4⟩ := hpost
      rw [hst] at hM4
      have HT : Hid _ := times_any (some ⟨w.heap.size, 0, none⟩) (some ⟨wr.heap.size + 1 + k, 0, none⟩) r0 k r0 k k gpow (vtop k) w4 (HR.out.below hb4) (hM4.rmat (by omega)) (by omega) (by omega) hk (by omega)
      have HB4 : Hid (Below w.heap.size w w4) := HB.out.trans (hb4.mono HB.out.size)
      clear hM4 hb4 hgs hs hst HI
      go_wp2_with fail
      refine Calls.mono HT.out ?_
      rintro r w5 ⟨rfl, hM5, hb5, _⟩
      have HM5 : Hid _ := hM5
      have HB5 : Hid (Below w.heap.size w w5) := HB4.out.trans (hb5.mono HB4.out.size)
      have hs4 := HB4.out.size
      clear hM5 hb5 HT
      go_wp2
      go_ret
      refine ⟨HB5.out, w4.heap.size, r0, ?_, by have := HKM.out; omega, by omega, ?_⟩
      · rw [HKM.out]; rfl
      · rw [HKM.out]; exact MatAt.rmatF HM5.out (by omega) hs4 (fun r _ => by show w.heap.size ≤ w4.heap.size + 1 + r; omega)

/-! ### Cauchy -/
/-- The Cauchy generator. -/
def cauchy (k r c : Nat) : Nat := if r < k then gone r c else ginv (r ^^^ c)
theorem cauchy_lt (k r c : Nat) : cauchy k r c < 256 := by
  unfold cauchy
  split
  · exact gone_lt _ _
  · exact ginv_lt _

/-- The Cauchy matrix in the making: a slice v that the call owns, with the headers xs; each row lies alone in a block. -/
structure COut (w0 w : World) (v : Value) (xs : List Value) (k : Nat) (A : Nat → Nat → Nat) : Prop where
  own : w.ownsRow w0.heap.size 30 1 v xs.length xs
  row : ∀ r, r < xs.length → ∃ g, xs[r]? = some (.slice (some ⟨g, 0, none⟩) k k) ∧ Row w g k (A r) ∧ v.ownBlock ≠ some g ∧ w0.heap.size ≤ g
  bel : Below w0.heap.size w0 w

theorem COut.below {w0 w w' : World} {v : Value} {xs : List Value} {k : Nat} {A : Nat → Nat → Nat} (h : COut w0 w v xs k A) (hb : Below w.heap.size w w') : COut w0 w' v xs k A := by
  have hlt := h.own.lt
  refine ⟨?_, fun r hr => ?_, h.bel.trans (hb.mono h.bel.size)⟩
  · refine ⟨h.own.1, ?_⟩
    rcases h.own.2 with h1 | ⟨g, cap, cur, hv, hbg, hg, h2⟩
    · exact .inl h1
    · exact .inr ⟨g, cap, cur, hv, hbg, (hb.block g (hlt g (by rw [hv]; rfl)).2).trans hg, h2⟩
  · obtain ⟨g, h1, h2, h3⟩ := h.row r hr
    exact ⟨g, h1, h2.below hb, h3⟩

theorem COut.start {w0 w : World} {H n k : Nat} {gs : Nat → Nat} {A : Nat → Nat → Nat} (h : MatAt w H n k gs A) (hH : w0.heap.size ≤ H) (hgs : ∀ r, r < n → w0.heap.size ≤ gs r) (hn : n ≤ 4096) (hb : Below w0.heap.size w0 w) :
    COut w0 w (.slice (some ⟨H, 0, none⟩) n n) ((List.range n).map fun r => .slice (some ⟨gs r, 0, none⟩) k k) k A := by
  obtain ⟨c, hc1, hc2, hc3⟩ := h.hdr
  refine ⟨⟨by simp, .inr ⟨H, n, c, by simp, hH, hc1, by simp, by unfold maxLen; omega, by simpa using hc2, ?_⟩⟩, fun r hr => ?_, hb⟩
  · apply List.ext_getElem?
    intro i
    simp only [List.length_map, List.length_range, Nat.mul_one, List.getElem?_take, List.getElem?_map]
    by_cases hi : i < n
    · have := hc3 i hi
      simp [hi]
      simpa using this
    · simp [hi]
  · simp at hr
    exact ⟨gs r, by simp [hr], h.row r hr, by simp [Value.ownBlock]; exact fun e => h.off r hr e.symm, hgs r hr⟩

theorem COut.push {w0 W w' : World} {v v' : Value} {xs : List Value} {k g : Nat} {A : Nat → Nat → Nat} (h : COut w0 W v xs k A) (hrow : Row W g k (A xs.length)) (hv : v.ownBlock ≠ some g) (hge : w0.heap.size ≤ g)
    (h2 : w'.ownsRow w0.heap.size 30 1 v' (xs.length + 1) (xs ++ [.slice (some ⟨g, 0, none⟩) k k])) (h3 : W.grownBy w' v.ownBlock) (h5 : v'.ownBlock = v.ownBlock ∨ v'.ownBlock = some W.heap.size) : COut w0 w' v' (xs ++ [.slice (some ⟨g, 0, none⟩) k k]) k A := by
  have keep : ∀ g f, Row W g k f → v.ownBlock ≠ some g → Row w' g k f ∧ v'.ownBlock ≠ some g := by
    intro g f hr hne
    refine ⟨hr.of_block (h3.block g hr.lt (fun e => hne e.symm)), ?_⟩
    rcases h5 with h5 | h5
    · rw [h5]; exact hne
    · rw [h5]; intro e; have := hr.lt; simp at e; omega
  refine ⟨by simpa using h2, fun r hr => ?_, h.bel.grown h3 h.bel.size (fun k hk => (h.own.lt k hk).1)⟩
  simp at hr
  rcases Nat.lt_or_ge r xs.length with hl | hl
  · obtain ⟨g', e1, e2, e3, e4⟩ := h.row r hl
    have := keep g' _ e2 e3
    exact ⟨g', by rw [List.getElem?_append_left hl]; exact e1, this.1, this.2, e4⟩
  · have hr' : r = xs.length := by omega
    subst hr'
    have := keep g _ hrow hv
    exact ⟨g, by simp, this.1, this.2, hge⟩

theorem COut.rmatF {w0 w : World} {v : Value} {xs : List Value} {k : Nat} {A : Nat → Nat → Nat} (h : COut w0 w v xs k A) (hk : k ≤ 65536) (h0 : 0 < xs.length) :
    ∃ H c, v = .slice (some ⟨H, 0, none⟩) xs.length c ∧ xs.length ≤ c ∧ c ≤ 9223372036854775807 ∧ RMatF w (fun b => w0.heap.size ≤ b) (some ⟨H, 0, none⟩) xs.length k A := by
  rcases h.own.2 with ⟨_, h1⟩ | ⟨g, cap, cur, hv, hbg, hg, hle, hm, hs, ht⟩
  · omega
  · refine ⟨g, cap, hv, hle, by unfold maxLen at hm; omega, fun _ => ⟨g, 0, rfl, hbg, fun r hr => ?_⟩⟩
    obtain ⟨g', e1, e2, _, e4⟩ := h.row r hr
    refine ⟨_, k, ?_, Nat.le_refl _, by omega, e2.frow, fun _ b o he => ?_⟩
    · have := h.own.cells (g := g) (by rw [hv]; rfl) r _ e1
      have e : (⟨g, 0, none⟩ : Addr).add r = ⟨g, 0 + r, none⟩ := by unfold Addr.add; split <;> simp_all
      rwa [e] at this
    · have : b = g' := (congrArg (fun x : Option Addr => (x.getD ⟨0, 0, none⟩).block) he).symm
      show w0.heap.size ≤ b
      rw [this]; exact e4

section
variable (W : World)
theorem wpList_append_hdr {ops : Array Oper} {rest : List Oper} {o : Oper} {a : Act} {Q : Exit → Act → World → Prop} (hgd : o.guard = none) (s x : Operand) (T : TypeId) (hT : Tryd.prog.underlying T = some (.slice 30))
    (ho : o.op = .call { callee := .builtin .append, args := #[s, x], argTypes := #[T, T] })
    (w0 : World) (v : Value) (xs : List Value) (k : Nat) (A : Nat → Nat → Nat) (hs : a.eval s = v) (hrel : COut w0 W v xs k A) (hxs : xs.length ≤ 65536)
    (h c : Nat) (hx : a.eval x = .slice (some ⟨h, 0, none⟩) 1 c) (g : Nat) (hcell : W.cell? ⟨h, 0, none⟩ = some (.slice (some ⟨g, 0, none⟩) k k)) (hrow : Row W g k (A xs.length)) (hvg : v.ownBlock ≠ some g) (hge : w0.heap.size ≤ g)
    (hK : ∀ v' w', COut w0 w' v' (xs ++ [.slice (some ⟨g, 0, none⟩) k k]) k A → wpList Tryd.prog ops Q rest (a.put o.dst v') w') : wpList Tryd.prog ops Q (o :: rest) a W := by
  obtain ⟨i0, hi, hzz⟩ := Option.map_eq_some_iff.1 Tryd.info30
  simp only [Prod.mk.injEq] at hzz
  obtain ⟨hz0, hz1, hz2⟩ := hzz
  refine wpList_append_own_at W hgd s x T ho w0.heap.size 30 i0 (.slice none 0 0) 1 24 hT hi hz0 hz1 hz2 rfl (by decide) v xs.length xs hs hrel.own ⟨h, 0, none⟩ 1 c [.slice (some ⟨g, 0, none⟩) k k] hx (by simp)
    (by intro j y hj; match j, hj with | 0, hj => simp at hj; subst hj; simpa [Addr.add] using hcell) (by intro y hy; simp at hy; subst hy; rfl) (by unfold maxLen; omega) (by omega) hrel.bel.size ?_
  intro v' w' h2 h3 _ h5
  exact hK v' w' (hrel.push hrow hvg hge h2 h3 h5)
end

set_option maxRecDepth 100000 in
set_option maxHeartbeats 2000000 in
theorem cauchy_any (k m : Nat) (w : World) (hk : 1 ≤ k) (hn : k + m ≤ 16) :
    Calls Tryd.prog 60 #[.int .i64 k, .int .i64 m] w fun e w' => Below w.heap.size w w' ∧ ∃ H c, e = .returned (.slice (some ⟨H, 0, none⟩) ((k + m : Nat)) c) ∧ k + m ≤ c ∧ c ≤ 9223372036854775807 ∧ RMatF w' (fun b => w.heap.size ≤ b) (some ⟨H, 0, none⟩) (k + m) k (cauchy k) := by
  have HId : Hid _ := identity_any k w (by omega)
  go_enter Tryd.func60, Tryd.ntmps60
  go_wp2_with fail
  refine Calls.mono HId.out ?_
  rintro r w1 ⟨rfl, hM, hb, hsz⟩
  have HC0 : Hid (COut w w1 (.slice (some ⟨w.heap.size, 0, none⟩) k k) ((List.range k).map fun r => .slice (some ⟨w.heap.size + 1 + r, 0, none⟩) k k) k (cauchy k)) :=
    COut.start (hM.congr fun r hr c _ => by unfold cauchy; rw [if_pos hr]) (Nat.le_refl _) (fun r _ => by show w.heap.size ≤ w.heap.size + 1 + r; omega) (by omega) hb
  clear hM hb hsz HId
  obtain ⟨n, hkm⟩ : ∃ n, k + m = n := ⟨_, rfl⟩
  have hni : (k : Int) + (m : Int) = (n : Int) := by omega
  have hn16 : n ≤ 16 := by omega
  have hkn : k ≤ n := by omega
  have HKM : Hid (k + m = n) := hkm
  clear hkm
  go_wp2
  go_loopw [5, 6] (fun v i wr => ∃ (i0 : Nat) (xs : List Value), k ≤ i0 ∧ i0 ≤ n ∧ i = .int .i64 i0 ∧ xs.length = i0 ∧ COut w wr v xs k (cauchy k)) (fun _ i _ => n - (intOf i).toNat)
  case atStart => exact ⟨k, _, Nat.le_refl _, hkn, rfl, by simp, HC0.out⟩
  case round =>
    obtain ⟨i0, xs, hi1, hi2, rfl, hxl, hC⟩ := hrel
    clear HC0
    by_cases hlt : i0 < n
    · have hlt' : (i0 : Int) < (n : Int) := by omega
      have hmk := run_make_row' (P := Tryd.prog) 30 5 (.int .u8 0) 1 Tryd.underlying30 Tryd.info5 rfl .i64 .i64 k (by omega) (by omega)
      obtain ⟨W, hW⟩ : ∃ W, wr.alloc (.cells (madeCells #[.int .u8 0] k) 5) = W := ⟨_, rfl⟩
      have hCW : COut w W u5 xs k (cauchy k) := hC.below (by rw [← hW]; exact (Below.refl _ _).alloc (Nat.le_refl _) _)
      have hRW : Row W wr.heap.size k (fun _ => 0) := by
        refine ⟨fun _ _ => (by decide : (0 : Nat) < 256), ?_⟩
        rw [← hW]; exact World.rowIs_made wr (.int .u8 0) k 5
      have hvg : u5.ownBlock ≠ some wr.heap.size := fun e => by have := (hC.own.lt _ e).2; omega
      have hsw := hC.bel.size
      have hxg : ∀ r g, r < xs.length → xs[r]? = some (.slice (some ⟨g, 0, none⟩) k k) → g ≠ wr.heap.size := by
        intro r g hr hx e
        obtain ⟨g', e1, e2, _⟩ := hC.row r hr
        rw [hx] at e1
        have e4 := e2.lt
        have e3 : g = g' := congrArg (fun o : Option Value => match o with | some (.slice (some a) _ _) => a.block | _ => 0) e1
        omega
      have HXG : Hid _ := hxg
      have HCW : Hid (COut w W u5 xs k (cauchy k)) := hCW
      have HRW : Hid (Row W wr.heap.size k (fun _ => 0)) := hRW
      clear hC hCW hRW hxg
      go_wp2
      clear hmk hW
      obtain ⟨G, hG⟩ : ∃ G, wr.heap.size = G := ⟨_, rfl⟩
      rw [hG] at HXG HRW hvg hsw ⊢
      clear hG
      go_loopw [23] (fun j wr => ∃ j0 : Nat, j0 ≤ k ∧ j = .int .i64 j0 ∧ COut w wr u5 xs k (cauchy k) ∧ Row wr G k (fun c => if c < j0 then ginv (i0 ^^^ c) else 0)) (fun j _ => k - (intOf j).toNat)
      case atStart => exact ⟨0, Nat.zero_le _, rfl, HCW.out, Row.congr HRW.out (fun i _ => by simp)⟩
      case round =>
        obtain ⟨j0, hj0, rfl, hC, hR⟩ := hrel
        clear HCW HRW
        by_cases hjk : j0 < k
        · have hjk' : (j0 : Int) < (k : Int) := by omega
          have c2 := hR.cell hjk
          have fr := hR.2.frozen j0
          have hxor := i64_xor_nat i0 j0 (by omega) (by omega)
          have hz : i0 ^^^ j0 < 256 := xor8n _ _ (by omega) (by omega)
          have hO : Only G wr (wr.setCell ⟨G, j0, none⟩ (.int .u8 ((ginv (i0 ^^^ j0) : Nat) : Int))) := (Only.refl _ _).setCell _ _
          have HF : Hid (COut w (wr.setCell ⟨G, j0, none⟩ (.int .u8 ((ginv (i0 ^^^ j0) : Nat) : Int))) u5 xs k (cauchy k) ∧ Row (wr.setCell ⟨G, j0, none⟩ (.int .u8 ((ginv (i0 ^^^ j0) : Nat) : Int))) G k (fun c => if c < j0 + 1 then ginv (i0 ^^^ c) else 0)) := by
            refine ⟨⟨?_, fun r hr => ?_, hC.bel.trans (hO.below hsw)⟩, (hR.set j0 _ (ginv_lt _)).congr fun c _ => ?_⟩
            · refine ⟨hC.own.1, ?_⟩
              rcases hC.own.2 with h1 | ⟨g, cap, cur, hv, hbg, hg, h2⟩
              · exact .inl h1
              · exact .inr ⟨g, cap, cur, hv, hbg, (hO.block g (fun e => hvg (by rw [hv, e]; rfl))).trans hg, h2⟩
            · obtain ⟨g, h1, h2, h3⟩ := hC.row r hr
              exact ⟨g, h1, h2.only hO (HXG.out r g hr h1), h3⟩
            · by_cases e : c = j0
              · subst e; simp
              · simp only [if_neg e]
                by_cases h2 : c < j0
                · rw [if_pos h2, if_pos (by omega)]
                · rw [if_neg h2, if_neg (by omega)]
          have HIv : Hid _ := inv_any (i0 ^^^ j0) wr hz
          clear hC hR hO
          obtain ⟨z, hzz⟩ : ∃ z, i0 ^^^ j0 = z := ⟨_, rfl⟩
          rw [hzz] at hxor hz HF HIv
          clear hzz
          have hz' : (z : Int) < 256 := by omega
          go_wp2_with fail
          refine Calls.mono HIv.out ?_
          rintro r w' ⟨rfl, hw⟩
          have hw := hw.symm; subst hw
          go_wp2
          go_roundw
          case rel => exact ⟨j0 + 1, by omega, by go_num, HF.out⟩
          case measure => simp [intOf]; omega
        · have hjj : j0 = k := by omega
          subst hjj
          have HC : Hid (∀ o, COut w (wr.alloc o) u5 xs j0 (cauchy j0)) := fun o => hC.below ((Below.refl _ _).alloc (Nat.le_refl _) o)
          have HR : Hid (∀ o, Row (wr.alloc o) G j0 (cauchy j0 xs.length)) := fun o => (hR.congr (f' := cauchy j0 xs.length) (fun c hc => by unfold cauchy; rw [if_pos hc, if_neg (by omega), hxl])).below ((Below.refl _ _).alloc (Nat.le_refl _) o)
          clear hC hR
          go_wp2_with (at_builtin; refine wpList_append_hdr _ rfl _ _ 100 Tryd.underlying100 rfl w u5 xs j0 (cauchy j0) rfl (HC.out _) (by omega) wr.heap.size 1 rfl G (by simp) (HR.out _) hvg hsw ?_; intro v' w' hC'; have HC' : Hid _ := hC'; clear hC')
          go_roundw
          case rel => exact ⟨i0 + 1, _, by omega, by omega, by go_num, by simp [hxl], HC'.out⟩
          case measure => simp [intOf]; omega
    · have hin : i0 = n := by omega
      subst hin
      have hlt' : ¬ (i0 : Int) < (i0 : Int) := by omega
      obtain ⟨H, c, rfl, hc1, hc2, hR⟩ := hC.rmatF (by omega) (by omega)
      have HB : Hid _ := hC.bel
      have HR : Hid _ := hR
      rw [hxl] at HR hc1 ⊢
      clear hC hR hxl
      go_wp2
      go_ret
      refine ⟨HB.out, H, c, ?_, by have := HKM.out; omega, hc2, ?_⟩
      · rw [HKM.out]; rfl
      · rw [HKM.out]; exact HR.out
end Go.Proofs.Qxb6500697aDoor
