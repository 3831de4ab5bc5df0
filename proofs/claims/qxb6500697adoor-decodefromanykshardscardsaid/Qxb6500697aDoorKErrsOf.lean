/-
  FROM THE ROWS' LISTS TO THE SENTINELS AND THE THREE GENERATIONS; WORLDS THAT MEET THE LISTS.
-/
import Derived.Test.Qxb6500697aDoorRows
import Derived.Test.Qxb6500697aDoorKNew
import Derived.Test.Qxb6500697aDoorLaid
import Derived.LaidMore
import Derived.ChangeSlices
import Derived.SizedLaws
namespace Go.Proofs.Qxb6500697aDoor
open Go.RowKit Go.ChangeShapes Go.WideShapes

def textOf : DataW Unit → List UInt8
  | .iface _ (.ptr (.agg [.lit (.string s)])) => s
  | _ => []

def allSents : List Sent := [⟨"e2e/code.ErrGeometry", 1, textOf Rows.laid_e2e_code_ErrGeometry⟩, ⟨"e2e/code.ErrGeneration", 2, textOf Rows.laid_e2e_code_ErrGeneration⟩, ⟨"e2e/code.ErrTooLong", 3, textOf Rows.laid_e2e_code_ErrTooLong⟩, ⟨"e2e/code.ErrIndex", 4, textOf Rows.laid_e2e_code_ErrIndex⟩, ⟨"e2e/code.ErrMixed", 5, textOf Rows.laid_e2e_code_ErrMixed⟩, ⟨"e2e/code.ErrDuplicate", 6, textOf Rows.laid_e2e_code_ErrDuplicate⟩, ⟨"e2e/code.ErrShape", 7, textOf Rows.laid_e2e_code_ErrShape⟩, ⟨"e2e/code.ErrTooFew", 8, textOf Rows.laid_e2e_code_ErrTooFew⟩, ⟨"e2e/code.ErrInconsistent", 9, textOf Rows.laid_e2e_code_ErrInconsistent⟩, ⟨"e2e/code.errSingular", 10, textOf Rows.laid_e2e_code_errSingular⟩]

def gensLaid : List (String × DataW Unit) := [("e2e/codelaw.generations", Rows.laid_e2e_codelaw_generations)]
def laid3 : List (String × DataW Unit) := [("e2e/code.ErrGeometry", Rows.laid_e2e_code_ErrGeometry), ("e2e/code.ErrGeneration", Rows.laid_e2e_code_ErrGeneration), ("e2e/code.ErrTooLong", Rows.laid_e2e_code_ErrTooLong), ("e2e/codelaw.generations", Rows.laid_e2e_codelaw_generations)]
def laid10 : List (String × DataW Unit) := [("e2e/code.ErrGeometry", Rows.laid_e2e_code_ErrGeometry), ("e2e/code.ErrGeneration", Rows.laid_e2e_code_ErrGeneration), ("e2e/code.ErrTooLong", Rows.laid_e2e_code_ErrTooLong), ("e2e/code.ErrIndex", Rows.laid_e2e_code_ErrIndex), ("e2e/code.ErrMixed", Rows.laid_e2e_code_ErrMixed), ("e2e/code.ErrDuplicate", Rows.laid_e2e_code_ErrDuplicate), ("e2e/code.ErrShape", Rows.laid_e2e_code_ErrShape), ("e2e/code.ErrTooFew", Rows.laid_e2e_code_ErrTooFew), ("e2e/code.ErrInconsistent", Rows.laid_e2e_code_ErrInconsistent), ("e2e/code.errSingular", Rows.laid_e2e_code_errSingular), ("e2e/codelaw.generations", Rows.laid_e2e_codelaw_generations)]

/-- The variable 'generations' holds 1, 2, 3. -/
def Gens (w : World) : Prop := ∃ b o c, w.cell? ⟨0, 0, none⟩ = some (.slice (some ⟨b, o, none⟩) 3 c) ∧ 3 ≤ c ∧ ∀ i, i < 3 → w.cell? ⟨b, o + i, none⟩ = some (.int .u8 ((i + 1 : Nat) : Int))
theorem Gens.below {w w' : World} (h : Gens w) (hb : Below w.heap.size w w') : Gens w' := by
  obtain ⟨b, o, c, h1, h2, h3⟩ := h
  exact ⟨b, o, c, (hb.cell (p := ⟨0, 0, none⟩) (cell_lt h1)).trans h1, h2, fun i hi => (hb.cell (p := ⟨b, o + i, none⟩) (cell_lt (h3 i hi))).trans (h3 i hi)⟩

theorem Tryd.star : "*" ++ "errors.errorString" = "*errors.errorString" := by decide
theorem Tryd.rowErr (u : TypeId) (h : Tryd.prog.typeName? 3 u = some "*errors.errorString") : u = 186 :=
  typeName_ptr_named (nm := "errors.errorString") (by rw [Tryd.star]; kernel_rfl) (by kernel_rfl) (by decide) u (by rw [Tryd.star]; exact h)
theorem Tryd.cellsErr : Tryd.prog.cellsOf 210 = 1 := by kernel_rfl
theorem Tryd.cellsStr : Tryd.prog.cellsOf 9 = 1 := by kernel_rfl
theorem Tryd.cellsGen : Tryd.prog.cellsOf 29 = 1 := by kernel_rfl

theorem allSents_facts : ∀ x ∈ allSents, Tryd.prog.globalNamed x.name = some x.num ∧ (Tryd.prog.globals[x.num]?).map (·.type) = some 48 := by
  intro x hx
  simp only [allSents, List.mem_cons, List.not_mem_nil, or_false] at hx
  rcases hx with rfl | rfl | rfl | rfl | rfl | rfl | rfl | rfl | rfl | rfl <;> exact ⟨by kernel_rfl, by kernel_rfl⟩

theorem allSents_num (i : Nat) (hi : i < 10) : ∃ x, allSents[i]? = some x ∧ x.num = i + 1 := by
  match i, hi with
  | 0, _ => exact ⟨_, rfl, rfl⟩
  | 1, _ => exact ⟨_, rfl, rfl⟩
  | 2, _ => exact ⟨_, rfl, rfl⟩
  | 3, _ => exact ⟨_, rfl, rfl⟩
  | 4, _ => exact ⟨_, rfl, rfl⟩
  | 5, _ => exact ⟨_, rfl, rfl⟩
  | 6, _ => exact ⟨_, rfl, rfl⟩
  | 7, _ => exact ⟨_, rfl, rfl⟩
  | 8, _ => exact ⟨_, rfl, rfl⟩
  | 9, _ => exact ⟨_, rfl, rfl⟩

theorem gens_of {W : World} {q : List MemPlace} (h : DataW.LaidVars Tryd.prog W gensLaid q) : Gens W := by
  obtain ⟨g, t, cs, fu, p, q', hg, ht, hv, hd, hrest, e⟩ := h
  have hg' : Tryd.prog.globalNamed "e2e/codelaw.generations" = some 0 := by kernel_rfl
  have ht' : (Tryd.prog.globals[0]?).map (·.type) = some 46 := by kernel_rfl
  obtain rfl := Option.some.inj (hg'.symm.trans hg)
  obtain rfl := Option.some.inj (ht'.symm.trans ht)
  obtain ⟨l⟩ := cs
  rcases open_ints Tryd.underlying46 Tryd.underlying29 Tryd.cellsGen hd with ⟨_, h2⟩ | ⟨a, len, cap, zs, hcs, _, hl, hm, hz, hx, hcell, hwz⟩
  · simp [Rows.laid_e2e_codelaw_generations] at h2
  · have hcs' : l = [.slice (some a) len cap] := hcs
    subst hcs'
    simp only [Prod.mk.injEq, Rows.laid_e2e_codelaw_generations, DataW.slice.injEq] at hx
    obtain ⟨⟨hx1, hx2⟩, _⟩ := hx
    have hc0 : W.cell? ⟨0, 0, none⟩ = some (.slice (some a) len cap) := by simpa using World.var?_cell hg hv 0
    simp only [if_true] at hz
    have e1 : zs.take len = [1, 2, 3] := by
      have h3 : (lits .u8 (zs.take len) : List (DataW Unit)) = lits .u8 [1, 2, 3] := hx1.symm
      have h4 := congrArg (List.map fun d : DataW Unit => match d with | .lit (.int _ z) => z | _ => 0) h3
      simpa [lits, Function.comp_def] using h4
    have e2 : zs.drop len = [] := by
      have h3 : (lits .u8 (zs.drop len) : List (DataW Unit)) = [] := hx2.symm
      simpa [lits] using h3
    have hlen : len = 3 := by
      have h5 := congrArg List.length e1
      simp at h5
      omega
    subst hlen
    have hzs : zs = [1, 2, 3] := by rw [← List.take_append_drop 3 zs, e1, e2]; rfl
    subst hzs
    obtain ⟨b, o, spot⟩ := a
    have hspot : spot = none := by simpa [Addr.add] using World.cell?_spot (hcell 0 (by simp))
    subst hspot
    refine ⟨b, o, cap, hc0, hl, fun i hi => ?_⟩
    have hc := hcell i (by simpa using hi)
    have e : (⟨b, o, none⟩ : Addr).add i = ⟨b, o + i, none⟩ := by unfold Addr.add; split <;> simp_all
    rw [e] at hc
    rw [hc]
    match i, hi with
    | 0, _ => rfl
    | 1, _ => rfl
    | 2, _ => rfl

theorem of_sents {W : World} (n : Nat) (hn : n ≤ 10) (laid : List (String × DataW Unit)) (he : laid = (allSents.take n).map Sent.datum ++ gensLaid) (hpl : ∀ w, laidMetH Tryd.prog laid w → laidMet Tryd.prog laid w) (h : laidMetH Tryd.prog laid W) : (∃ e, KErrs n W e) ∧ Gens W := by
  obtain ⟨ps, hL, hnd, hr⟩ := hpl W h
  rw [he] at hL
  obtain ⟨e, q, hq, _, hsub, hcell⟩ := laid_list Tryd.underlying48 Tryd.rowErr Tryd.underlying186 Tryd.underlying210 rfl rfl Tryd.underlying9 Tryd.cellsErr Tryd.cellsStr gensLaid (allSents.take n) ps (fun x hx => allSents_facts x (List.mem_of_mem_take hx)) hL hr
  have hl : (allSents.take n).length = n := by rw [List.length_take]; show min n 10 = n; omega
  rw [hl] at hsub
  have hnd' := hnd.sublist hsub
  refine ⟨⟨e, fun i hi => ?_, fun i hi => ?_, fun i j hi hj hij heq => ?_⟩, gens_of hq⟩
  · obtain ⟨x, hx, hxn⟩ := allSents_num i (by omega)
    have := hcell i x (by rw [List.getElem?_take, if_pos hi]; exact hx)
    rwa [hxn] at this
  · have hm : placeOf (e i) ∈ ps := hsub.subset (List.mem_map.2 ⟨i, List.mem_range.2 hi, rfl⟩)
    exact (hr _ _ hm).1
  · have h1 := List.pairwise_map.1 hnd'
    rcases Nat.lt_or_gt_of_ne hij with h | h
    · exact (List.pairwise_iff_getElem.1 h1 i j (by simp only [List.length_range]; exact hi) (by simp only [List.length_range]; exact hj) h) (by simp [heq])
    · exact (List.pairwise_iff_getElem.1 h1 j i (by simp only [List.length_range]; exact hj) (by simp only [List.length_range]; exact hi) h) (by simp [heq])

theorem of_laid3 {W : World} (h : laidMetH Tryd.prog laid3 W) : (∃ e, KErrs 3 W e) ∧ Gens W :=
  of_sents 3 (by omega) laid3 rfl (fun w hw => by rw [MakeChecks.laidMetH_plain _ _ _ (by kernel_rfl)] at hw; exact hw) h
theorem of_laid10 {W : World} (h : laidMetH Tryd.prog laid10 W) : (∃ e, KErrs 10 W e) ∧ Gens W :=
  of_sents 10 (by omega) laid10 rfl (fun w hw => by rw [MakeChecks.laidMetH_plain _ _ _ (by kernel_rfl)] at hw; exact hw) h

/-- The door's own heap meets the lists. -/
theorem door_met3 (os : Os) (args : Array Value) : laidMetH Tryd.prog laid3 ((World.doorLaid Tryd.prog 400 os).forCall (fun _ _ => 0) ⟨#[], args, []⟩).memory :=
  laidMetH_of_parts3 (fuel := 8) (laidMet_of_run' 8 (by kernel_rfl) (by kernel_rfl)) (by kernel_rfl) (by kernel_rfl)
theorem door_met10 (os : Os) (args : Array Value) : laidMetH Tryd.prog laid10 ((World.doorLaid Tryd.prog 400 os).forCall (fun _ _ => 0) ⟨#[], args, []⟩).memory :=
  laidMetH_of_parts3 (fuel := 8) (laidMet_of_run' 8 (by kernel_rfl) (by kernel_rfl)) (by kernel_rfl) (by kernel_rfl)
end Go.Proofs.Qxb6500697aDoor
