/-
  blindSpot, and the plain law on small changes.
-/
import Derived.Test.Qxb6500698aOwn
import Derived.Test.Qxb6500698aCrcC
import Derived.Test.Qxb6500698aFltW
namespace Go.Proofs.Qxb6500698a
open Go.RowKit

/-- What blindSpot answers. -/
def blind (a b : List Nat) (i j : Nat) : Bool :=
  if i = j ∨ i / 2 ≠ j / 2 then false
  else (decide (a.getD i 0 = 0) && decide (a.getD j 0 = 0) && decide (b.getD i 0 = 255) && decide (b.getD j 0 = 255)) || (decide (a.getD i 0 = 255) && decide (a.getD j 0 = 255) && decide (b.getD i 0 = 0) && decide (b.getD j 0 = 0))

set_option maxRecDepth 100000 in
set_option maxHeartbeats 2000000 in
theorem blind_any (a b : List Nat) (ao bo : Option Addr) (c d i j : Nat) (w : World) (ha : BRow w ao a) (hb : BRow w bo b) (hi : i < a.length) (hj : j < a.length) (hl : b.length = a.length) (hm : a.length ≤ 1000) :
    Calls Try.prog 30 #[.slice ao a.length c, .slice bo b.length d, .int .i64 i, .int .i64 j] w fun e w' => e = .returned (.bool (blind a b i j)) ∧ w' = w := by
  obtain ⟨ab, aoff, rfl, hca⟩ := ha.row (ne_nil_of_lt hi)
  obtain ⟨bb, boff, rfl, hcb⟩ := hb.row (ne_nil_of_lt (i := i) (by omega))
  have ai := hca i hi
  have aj := hca j hj
  have bi := hcb i (by omega)
  have bj := hcb j (by omega)
  have hi' : (i : Int) < (a.length : Int) := by omega
  have hj' : (j : Int) < (a.length : Int) := by omega
  rw [hl]
  unfold blind
  clear ha hb hca hcb
  generalize a.getD i 0 = x at *
  generalize a.getD j 0 = y at *
  generalize b.getD i 0 = p at *
  generalize b.getD j 0 = q at *
  generalize a.length = L at *
  by_cases h1 : i = j ∨ i / 2 ≠ j / 2
  · rw [if_pos h1]
    by_cases hij : i = j
    · have h2 : ((i : Int) == (j : Int)) = true := by simp; omega
      clear h1 hij
      go_enter Try.func30, Try.ntmps30
      go_wp2
      go_ret
      exact ⟨rfl, rfl⟩
    · have h2 : ((i : Int) == (j : Int)) = false := by simp; omega
      have h3 : ((i : Int) / 2 != (j : Int) / 2) = true := by
        rw [bne_iff_ne]; intro h
        rcases h1 with h1 | h1
        · exact hij h1
        · apply h1; omega
      clear h1 hij
      go_enter Try.func30, Try.ntmps30
      go_wp2
      go_ret
      exact ⟨rfl, rfl⟩
  · rw [if_neg h1]
    have h2 : ((i : Int) == (j : Int)) = false := by simp; omega
    have h3 : ((i : Int) / 2 != (j : Int) / 2) = false := by
      rw [bne_eq_false_iff_eq]; omega
    clear h1
    go_enter Try.func30, Try.ntmps30
    go_wp2
    all_goals go_ret
    all_goals refine ⟨ret_bool ?_, rfl⟩
    all_goals (rw [Bool.eq_iff_iff]; simp; omega)
theorem set_same (l : List Nat) (i x : Nat) (h : i < l.length) (e : x = l.getD i 0) : l.set i x = l := by
  rw [e]
  apply List.ext_getElem?
  intro k
  rw [List.getElem?_set]
  split
  · rename_i hk; subst hk; simp [List.getD_eq_getElem?_getD, h]
  · rfl

/-- THE PLAIN LAW: two bytes xored: Fletcher-32 sees it, but for the blind spot. -/
theorem catches (W : List Nat) (i j p q : Nat) (hW : ∀ x ∈ W, x < 256) (hi : i < W.length) (hj : j < W.length) (hl : W.length ≤ 514) (hp : p < 256) (hq : q < 256)
    (hne : ¬ (W.set i (W.getD i 0 ^^^ p)).set j ((W.set i (W.getD i 0 ^^^ p)).getD j 0 ^^^ q) = W) (hb : blind W ((W.set i (W.getD i 0 ^^^ p)).set j ((W.set i (W.getD i 0 ^^^ p)).getD j 0 ^^^ q)) i j = false) :
    ¬ Flt.fl ((W.set i (W.getD i 0 ^^^ p)).set j ((W.set i (W.getD i 0 ^^^ p)).getD j 0 ^^^ q)) = Flt.fl W := by
  have bi := hW _ (getD_mem (d := 0) hi)
  have bj := hW _ (getD_mem (d := 0) hj)
  intro he
  by_cases hij : i = j
  · subst hij
    have hg : (W.set i (W.getD i 0 ^^^ p)).getD i 0 = W.getD i 0 ^^^ p := by simp [List.getD_eq_getElem?_getD, hi]
    rw [hg, List.set_set] at he hne
    have := Flt.one_byte hi bi (Crc.xor_lt8 (Crc.xor_lt8 bi hp) hq) he
    exact hne (set_same W i _ hi this)
  · have hg : (W.set i (W.getD i 0 ^^^ p)).getD j 0 = W.getD j 0 := by simp [List.getD_eq_getElem?_getD, hij]
    rw [hg] at he hne hb
    have h2 := Flt.two_bytes hij hi hj hl bi bj (Crc.xor_lt8 bi hp) (Crc.xor_lt8 bj hq) he
    rcases h2 with ⟨e1, e2⟩ | ⟨hs, h3⟩
    · apply hne
      rw [set_same W i _ hi e1, set_same W j _ hj e2]
    · unfold blind at hb
      have hnot : ¬ (i = j ∨ i / 2 ≠ j / 2) := by omega
      rw [if_neg hnot] at hb
      have gi : ((W.set i (W.getD i 0 ^^^ p)).set j (W.getD j 0 ^^^ q)).getD i 0 = W.getD i 0 ^^^ p := by
        simp [List.getD_eq_getElem?_getD, hi, Ne.symm hij]
      have gj : ((W.set i (W.getD i 0 ^^^ p)).set j (W.getD j 0 ^^^ q)).getD j 0 = W.getD j 0 ^^^ q := by
        simp [List.getD_eq_getElem?_getD, hj]
      rw [gi, gj] at hb
      generalize W.getD i 0 ^^^ p = x at *
      generalize W.getD j 0 ^^^ q = y at *
      rcases h3 with ⟨a1, a2, a3, a4⟩ | ⟨a1, a2, a3, a4⟩ <;> rw [a1, a2, a3, a4] at hb <;> exact absurd hb (by decide)

end Go.Proofs.Qxb6500698a
