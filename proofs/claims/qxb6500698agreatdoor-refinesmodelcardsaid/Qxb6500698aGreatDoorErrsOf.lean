/-
  FROM THE ROWS' LIST TO THE SIX SENTINELS; A WORLD THAT MEETS THE LIST.
-/
import Derived.Test.Qxb6500698aGreatDoorRows
import Derived.Test.Qxb6500698aGreatDoorErrs
import Derived.Test.Qxb6500698aGreatDoorLaid
import Derived.LaidMore
namespace Go.Proofs.Qxb6500698aGreatDoor
open Go.RowKit

def textOf : DataW Unit → List UInt8
  | .iface _ (.ptr (.agg [.lit (.string s)])) => s
  | _ => []

def sumLaid : List (String × DataW Unit) := [("e2e/sum.ErrShort", Rows.laid_e2e_sum_ErrShort), ("e2e/sum.ErrWidth", Rows.laid_e2e_sum_ErrWidth), ("e2e/sum.ErrRange", Rows.laid_e2e_sum_ErrRange), ("e2e/sum.ErrFull", Rows.laid_e2e_sum_ErrFull), ("e2e/sum.ErrTrailing", Rows.laid_e2e_sum_ErrTrailing), ("e2e/sum.ErrMismatch", Rows.laid_e2e_sum_ErrMismatch)]

def sumSents : List Sent := [⟨"e2e/sum.ErrShort", 0, textOf Rows.laid_e2e_sum_ErrShort⟩, ⟨"e2e/sum.ErrWidth", 1, textOf Rows.laid_e2e_sum_ErrWidth⟩, ⟨"e2e/sum.ErrRange", 2, textOf Rows.laid_e2e_sum_ErrRange⟩, ⟨"e2e/sum.ErrFull", 3, textOf Rows.laid_e2e_sum_ErrFull⟩, ⟨"e2e/sum.ErrTrailing", 4, textOf Rows.laid_e2e_sum_ErrTrailing⟩, ⟨"e2e/sum.ErrMismatch", 5, textOf Rows.laid_e2e_sum_ErrMismatch⟩]

theorem Tryz.star : "*" ++ "errors.errorString" = "*errors.errorString" := by decide
theorem Tryz.rowErr (u : TypeId) (h : Tryz.prog.typeName? 3 u = some "*errors.errorString") : u = 146 :=
  typeName_ptr_named (nm := "errors.errorString") (by rw [Tryz.star]; kernel_rfl) (by kernel_rfl) (by decide) u (by rw [Tryz.star]; exact h)
theorem Tryz.cellsErr : Tryz.prog.cellsOf 171 = 1 := by kernel_rfl
theorem Tryz.cellsStr : Tryz.prog.cellsOf 9 = 1 := by kernel_rfl

theorem sumSents_facts : ∀ x ∈ sumSents, Tryz.prog.globalNamed x.name = some x.num ∧ (Tryz.prog.globals[x.num]?).map (·.type) = some 71 := by
  intro x hx
  simp only [sumSents, List.mem_cons, List.not_mem_nil, or_false] at hx
  rcases hx with rfl | rfl | rfl | rfl | rfl | rfl <;> exact ⟨by kernel_rfl, by kernel_rfl⟩

theorem errs_of_laid {W : World} (h : laidMetH Tryz.prog sumLaid W) : ∃ e, Errs W e := by
  rw [MakeChecks.laidMetH_plain _ _ _ (by kernel_rfl)] at h
  obtain ⟨ps, hL, hnd, hr⟩ := h
  have hL' : DataW.LaidVars Tryz.prog W (sumSents.map Sent.datum ++ []) ps := hL
  obtain ⟨e, q, _, _, hsub, hcell⟩ := laid_list Tryz.underlying71 Tryz.rowErr Tryz.underlying146 Tryz.underlying171 rfl rfl Tryz.underlying9 Tryz.cellsErr Tryz.cellsStr [] sumSents ps sumSents_facts hL' hr
  have hnd' := hnd.sublist hsub
  refine ⟨e, ?_, ?_, ?_⟩
  · intro i hi
    have hx : sumSents[i]? = some sumSents[i] := List.getElem?_eq_getElem hi
    have := hcell i _ hx
    have hn : (sumSents[i]'hi).num = i := by
      match i, hi with
      | 0, _ => rfl
      | 1, _ => rfl
      | 2, _ => rfl
      | 3, _ => rfl
      | 4, _ => rfl
      | 5, _ => rfl
    rwa [hn] at this
  · intro i hi
    have hm : placeOf (e i) ∈ ps := hsub.subset (List.mem_map.2 ⟨i, List.mem_range.2 hi, rfl⟩)
    exact (hr _ _ hm).1
  · intro i j hi hj hij heq
    have h1 := List.pairwise_map.1 hnd'
    rcases Nat.lt_or_gt_of_ne hij with h | h
    · exact (List.pairwise_iff_getElem.1 h1 i j (by simp only [List.length_range]; exact hi) (by simp only [List.length_range]; exact hj) h) (by simp [heq])
    · exact (List.pairwise_iff_getElem.1 h1 j i (by simp only [List.length_range]; exact hj) (by simp only [List.length_range]; exact hi) h) (by simp [heq])

/-- The door's own heap meets the list. -/
theorem door_met (os : Os) (args : Array Value) : laidMetH Tryz.prog sumLaid ((World.doorLaid Tryz.prog 400 os).forCall (fun _ _ => 0) ⟨#[], args, []⟩).memory :=
  laidMetH_of_parts3 (fuel := 8) (laidMet_of_run' 8 (by kernel_rfl) (by kernel_rfl)) (by kernel_rfl) (by kernel_rfl)

end Go.Proofs.Qxb6500698aGreatDoor
