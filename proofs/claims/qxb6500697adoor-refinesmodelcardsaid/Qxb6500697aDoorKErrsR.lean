/-
  THE TEN ERROR VARIABLES ALONE, as the card of RefinesModel lists them.
-/
import Derived.Test.Qxb6500697aDoorKErrsOf
namespace Go.Proofs.Qxb6500697aDoor
open Go.RowKit Go.ChangeShapes Go.WideShapes
def laidR : List (String × DataW Unit) := [("e2e/code.ErrGeometry", Rows.laid_e2e_code_ErrGeometry), ("e2e/code.ErrGeneration", Rows.laid_e2e_code_ErrGeneration), ("e2e/code.ErrTooLong", Rows.laid_e2e_code_ErrTooLong), ("e2e/code.ErrIndex", Rows.laid_e2e_code_ErrIndex), ("e2e/code.ErrMixed", Rows.laid_e2e_code_ErrMixed), ("e2e/code.ErrDuplicate", Rows.laid_e2e_code_ErrDuplicate), ("e2e/code.ErrShape", Rows.laid_e2e_code_ErrShape), ("e2e/code.ErrTooFew", Rows.laid_e2e_code_ErrTooFew), ("e2e/code.ErrInconsistent", Rows.laid_e2e_code_ErrInconsistent), ("e2e/code.errSingular", Rows.laid_e2e_code_errSingular)]
theorem of_sentsR {W : World} (laid : List (String × DataW Unit)) (he : laid = (allSents.take 10).map Sent.datum ++ []) (hpl : ∀ w, laidMetH Tryd.prog laid w → laidMet Tryd.prog laid w) (h : laidMetH Tryd.prog laid W) : ∃ e, KErrs 10 W e := by
  obtain ⟨ps, hL, hnd, hr⟩ := hpl W h
  rw [he] at hL
  obtain ⟨e, q, hq, _, hsub, hcell⟩ := laid_list Tryd.underlying48 Tryd.rowErr Tryd.underlying186 Tryd.underlying210 rfl rfl Tryd.underlying9 Tryd.cellsErr Tryd.cellsStr [] (allSents.take 10) ps (fun x hx => allSents_facts x (List.mem_of_mem_take hx)) hL hr
  have hl : (allSents.take 10).length = 10 := by rw [List.length_take]; show min 10 10 = 10; omega
  rw [hl] at hsub
  have hnd' := hnd.sublist hsub
  refine ⟨e, fun i hi => ?_, fun i hi => ?_, fun i j hi hj hij heq => ?_⟩
  · obtain ⟨x, hx, hxn⟩ := allSents_num i (by omega)
    have := hcell i x (by rw [List.getElem?_take, if_pos hi]; exact hx)
    rwa [hxn] at this
  · have hm : placeOf (e i) ∈ ps := hsub.subset (List.mem_map.2 ⟨i, List.mem_range.2 hi, rfl⟩)
    exact (hr _ _ hm).1
  · have h1 := List.pairwise_map.1 hnd'
    rcases Nat.lt_or_gt_of_ne hij with h | h
    · exact (List.pairwise_iff_getElem.1 h1 i j (by simp only [List.length_range]; exact hi) (by simp only [List.length_range]; exact hj) h) (by simp [heq])
    · exact (List.pairwise_iff_getElem.1 h1 j i (by simp only [List.length_range]; exact hj) (by simp only [List.length_range]; exact hi) h) (by simp [heq])
theorem of_laidR {W : World} (h : laidMetH Tryd.prog laidR W) : ∃ e, KErrs 10 W e :=
  of_sentsR laidR rfl (fun w hw => by rw [MakeChecks.laidMetH_plain _ _ _ (by kernel_rfl)] at hw; exact hw) h
theorem door_metR (os : Os) (args : Array Value) : laidMetH Tryd.prog laidR ((World.doorLaid Tryd.prog 400 os).forCall (fun _ _ => 0) ⟨#[], args, []⟩).memory :=
  laidMetH_of_parts3 (fuel := 8) (laidMet_of_run' 8 (by kernel_rfl) (by kernel_rfl)) (by kernel_rfl) (by kernel_rfl)
end Go.Proofs.Qxb6500697aDoor
