/-
  slices.Sort AT []int, OFF THE SHELF, ON A SLICE OF ONE'S OWN.
-/
import Derived.Test.Qxb6500697aDoorKMulAdd
import Derived.Shelf.Lay
import Derived.Shelf.Sort.Plain
import Derived.Ground.Names2Prog
import Derived.Shelf.Slices.In.SortNone
import Derived.Sort.OwnSortedInts
namespace Go.Proofs.Qxb6500697aDoor
open Go.RowKit Go.Shelf Go.Sort

shelf_lay Lays.n189 Nm 189 at Tryd as Tryd.lays189

def sortZ (zs : List Int) : List Int := zs.mergeSort fun x y => decide (x ≤ y)
theorem sortZ_len (zs : List Int) : (sortZ zs).length = zs.length := List.length_mergeSort _
theorem sortZ_one (z : Int) : sortZ [z] = [z] := List.mergeSort_singleton z

theorem sort_own {B : Nat} {v : Value} {zs : List Int} {w : World} (h : w.ownsRow B 3 1 v zs.length (zs.map (Value.int .i64))) (hl : zs.length ≤ 65536) :
    Calls Tryd.prog 57 #[v] w fun e w' => e = .returned (.tuple #[]) ∧ w'.ownsRow B 3 1 v zs.length ((sortZ zs).map (Value.int .i64)) ∧ w.grownBy w' v.ownBlock := by
  rcases h.2 with ⟨rfl, h0⟩ | ⟨g, cap, cur, rfl, hb, hg, hle, hm, hs, ht⟩
  · have hz : zs = [] := List.eq_nil_of_length_eq_zero h0
    subst hz
    refine (Any.slices_Sort_int_none Tryd.lays189 none 0 w).mono ?_
    rintro e w' ⟨rfl, rfl⟩
    have e0 : sortZ [] = [] := List.eq_nil_of_length_eq_zero (sortZ_len [])
    exact ⟨rfl, by rw [e0]; exact h, ⟨rfl, rfl, rfl, Nat.le_refl _, fun _ _ _ => rfl⟩⟩
  · rw [Nat.mul_one] at ht
    refine (Any.slices_Sort_int Tryd.lays189 g 0 cap zs w (holds_of_blockI hg ht) (Array.getElem?_eq_some_iff.1 hg).1 (by omega)).mono ?_
    rintro e w' ⟨rfl, n, os, rfl⟩
    exact ⟨rfl, ownsRow_sortedI (sortZ_len zs) hb hg hle hm hs, grownBy_sortedI _⟩
end Go.Proofs.Qxb6500697aDoor
