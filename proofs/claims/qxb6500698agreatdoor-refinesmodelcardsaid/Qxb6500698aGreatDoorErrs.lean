/-
  THE SIX SENTINELS OF PACKAGE sum, AND THE WALK OF 'code'.
-/
import Derived.Test.Qxb6500698aGreatDoorProg
import Derived.Test.Qxb6500698aGreatDoorMem
import Derived.Test.Qxb6500698aGreatDoorIs
import Derived.WalkKit
import Derived.Stop.IfaceNil
namespace Go.Proofs.Qxb6500698aGreatDoor
open Go.RowKit

/-- The six variables hold six different errors of errors.New's make. -/
structure Errs (w : World) (e : Nat → Addr) : Prop where
  cell : ∀ i, i < 6 → w.cell? ⟨i, 0, none⟩ = some (.iface 146 (.pointer (some (e i))))
  row : ∀ i, i < 6 → ∃ c t, w.heap[(e i).block]? = some (.cells c t (0, 0))
  apart : ∀ i j, i < 6 → j < 6 → i ≠ j → e i ≠ e j

theorem Errs.lt {w : World} {e : Nat → Addr} (h : Errs w e) {i : Nat} (hi : i < 6) : i < w.heap.size := cell_lt (h.cell i hi)
theorem Errs.below {w w' : World} {e : Nat → Addr} (h : Errs w e) (hb : Below w.heap.size w w') : Errs w' e :=
  ⟨fun i hi => (hb.cell (p := ⟨i, 0, none⟩) (h.lt hi)).trans (h.cell i hi),
   fun i hi => by
    obtain ⟨c, t, hc⟩ := h.row i hi
    exact ⟨c, t, (hb.block _ (Array.getElem?_eq_some_iff.1 hc).1).trans hc⟩,
   h.apart⟩

/-- An error of this package: none, or one of the six. -/
def errV (e : Nat → Addr) : Option Nat → Value
  | none => .nilIface
  | some i => .iface 146 (.pointer (some (e i)))

def errCode : Option Nat → Nat
  | none => 0
  | some i => i + 1

set_option maxRecDepth 100000 in
set_option maxHeartbeats 1000000 in
theorem code_any (w : World) (e : Nat → Addr) (E : Errs w e) (x : Option Nat) (hx : ∀ i, x = some i → i < 6) :
    Calls Tryz.prog 37 #[errV e x] w fun r w' => r = .returned (.int .u8 ((errCode x : Nat) : Int)) ∧ w' = w := by
  have hI : Tryz.prog.isIface 71 = true := by kernel_rfl
  have k0 := E.cell 0 (by omega)
  obtain ⟨c0, t0, b0⟩ := E.row 0 (by omega)
  have k1 := E.cell 1 (by omega)
  obtain ⟨c1, t1, b1⟩ := E.row 1 (by omega)
  have k2 := E.cell 2 (by omega)
  obtain ⟨c2, t2, b2⟩ := E.row 2 (by omega)
  have k3 := E.cell 3 (by omega)
  obtain ⟨c3, t3, b3⟩ := E.row 3 (by omega)
  have k4 := E.cell 4 (by omega)
  obtain ⟨c4, t4, b4⟩ := E.row 4 (by omega)
  have k5 := E.cell 5 (by omega)
  obtain ⟨c5, t5, b5⟩ := E.row 5 (by omega)
  have n10 := E.apart 1 0 (by omega) (by omega) (by omega)
  have n20 := E.apart 2 0 (by omega) (by omega) (by omega)
  have n21 := E.apart 2 1 (by omega) (by omega) (by omega)
  have n30 := E.apart 3 0 (by omega) (by omega) (by omega)
  have n31 := E.apart 3 1 (by omega) (by omega) (by omega)
  have n32 := E.apart 3 2 (by omega) (by omega) (by omega)
  have n40 := E.apart 4 0 (by omega) (by omega) (by omega)
  have n41 := E.apart 4 1 (by omega) (by omega) (by omega)
  have n42 := E.apart 4 2 (by omega) (by omega) (by omega)
  have n43 := E.apart 4 3 (by omega) (by omega) (by omega)
  have n50 := E.apart 5 0 (by omega) (by omega) (by omega)
  have n51 := E.apart 5 1 (by omega) (by omega) (by omega)
  have n52 := E.apart 5 2 (by omega) (by omega) (by omega)
  have n53 := E.apart 5 3 (by omega) (by omega) (by omega)
  have n54 := E.apart 5 4 (by omega) (by omega) (by omega)
  match x, hx with
  | none, _ =>
    unfold errV errCode
    clear E hx
    go_enter Tryz.func37, Tryz.ntmps37
    go_wp2
    go_ret
    exact ⟨rfl, rfl⟩
  | some 0, _ =>
    unfold errV errCode
    clear E hx
    go_enter Tryz.func37, Tryz.ntmps37
    go_wp2_with fail
    refine Calls.mono (is_same (e 0) w) ?_
    rintro r w' ⟨rfl, hw⟩
    have hw := hw.symm; subst hw
    go_wp2
    go_ret
    exact ⟨rfl, rfl⟩
  | some 1, _ =>
    unfold errV errCode
    clear E hx
    go_enter Tryz.func37, Tryz.ntmps37
    go_wp2_with fail
    refine Calls.mono (is_other (e 1) (e 0) c1 c0 t1 t0 w n10 b1 b0) ?_
    rintro r w' ⟨rfl, hw⟩
    have hw := hw.symm; subst hw
    go_wp2_with fail
    refine Calls.mono (is_same (e 1) w) ?_
    rintro r w' ⟨rfl, hw⟩
    have hw := hw.symm; subst hw
    go_wp2
    go_ret
    exact ⟨rfl, rfl⟩
  | some 2, _ =>
    unfold errV errCode
    clear E hx
    go_enter Tryz.func37, Tryz.ntmps37
    go_wp2_with fail
    refine Calls.mono (is_other (e 2) (e 0) c2 c0 t2 t0 w n20 b2 b0) ?_
    rintro r w' ⟨rfl, hw⟩
    have hw := hw.symm; subst hw
    go_wp2_with fail
    refine Calls.mono (is_other (e 2) (e 1) c2 c1 t2 t1 w n21 b2 b1) ?_
    rintro r w' ⟨rfl, hw⟩
    have hw := hw.symm; subst hw
    go_wp2_with fail
    refine Calls.mono (is_same (e 2) w) ?_
    rintro r w' ⟨rfl, hw⟩
    have hw := hw.symm; subst hw
    go_wp2
    go_ret
    exact ⟨rfl, rfl⟩
  | some 3, _ =>
    unfold errV errCode
    clear E hx
    go_enter Tryz.func37, Tryz.ntmps37
    go_wp2_with fail
    refine Calls.mono (is_other (e 3) (e 0) c3 c0 t3 t0 w n30 b3 b0) ?_
    rintro r w' ⟨rfl, hw⟩
    have hw := hw.symm; subst hw
    go_wp2_with fail
    refine Calls.mono (is_other (e 3) (e 1) c3 c1 t3 t1 w n31 b3 b1) ?_
    rintro r w' ⟨rfl, hw⟩
    have hw := hw.symm; subst hw
    go_wp2_with fail
    refine Calls.mono (is_other (e 3) (e 2) c3 c2 t3 t2 w n32 b3 b2) ?_
    rintro r w' ⟨rfl, hw⟩
    have hw := hw.symm; subst hw
    go_wp2_with fail
    refine Calls.mono (is_same (e 3) w) ?_
    rintro r w' ⟨rfl, hw⟩
    have hw := hw.symm; subst hw
    go_wp2
    go_ret
    exact ⟨rfl, rfl⟩
  | some 4, _ =>
    unfold errV errCode
    clear E hx
    go_enter Tryz.func37, Tryz.ntmps37
    go_wp2_with fail
    refine Calls.mono (is_other (e 4) (e 0) c4 c0 t4 t0 w n40 b4 b0) ?_
    rintro r w' ⟨rfl, hw⟩
    have hw := hw.symm; subst hw
    go_wp2_with fail
    refine Calls.mono (is_other (e 4) (e 1) c4 c1 t4 t1 w n41 b4 b1) ?_
    rintro r w' ⟨rfl, hw⟩
    have hw := hw.symm; subst hw
    go_wp2_with fail
    refine Calls.mono (is_other (e 4) (e 2) c4 c2 t4 t2 w n42 b4 b2) ?_
    rintro r w' ⟨rfl, hw⟩
    have hw := hw.symm; subst hw
    go_wp2_with fail
    refine Calls.mono (is_other (e 4) (e 3) c4 c3 t4 t3 w n43 b4 b3) ?_
    rintro r w' ⟨rfl, hw⟩
    have hw := hw.symm; subst hw
    go_wp2_with fail
    refine Calls.mono (is_same (e 4) w) ?_
    rintro r w' ⟨rfl, hw⟩
    have hw := hw.symm; subst hw
    go_wp2
    go_ret
    exact ⟨rfl, rfl⟩
  | some 5, _ =>
    unfold errV errCode
    clear E hx
    go_enter Tryz.func37, Tryz.ntmps37
    go_wp2_with fail
    refine Calls.mono (is_other (e 5) (e 0) c5 c0 t5 t0 w n50 b5 b0) ?_
    rintro r w' ⟨rfl, hw⟩
    have hw := hw.symm; subst hw
    go_wp2_with fail
    refine Calls.mono (is_other (e 5) (e 1) c5 c1 t5 t1 w n51 b5 b1) ?_
    rintro r w' ⟨rfl, hw⟩
    have hw := hw.symm; subst hw
    go_wp2_with fail
    refine Calls.mono (is_other (e 5) (e 2) c5 c2 t5 t2 w n52 b5 b2) ?_
    rintro r w' ⟨rfl, hw⟩
    have hw := hw.symm; subst hw
    go_wp2_with fail
    refine Calls.mono (is_other (e 5) (e 3) c5 c3 t5 t3 w n53 b5 b3) ?_
    rintro r w' ⟨rfl, hw⟩
    have hw := hw.symm; subst hw
    go_wp2_with fail
    refine Calls.mono (is_other (e 5) (e 4) c5 c4 t5 t4 w n54 b5 b4) ?_
    rintro r w' ⟨rfl, hw⟩
    have hw := hw.symm; subst hw
    go_wp2_with fail
    refine Calls.mono (is_same (e 5) w) ?_
    rintro r w' ⟨rfl, hw⟩
    have hw := hw.symm; subst hw
    go_wp2
    go_ret
    exact ⟨rfl, rfl⟩
  | some (i + 6), hx => have := hx (i + 6) rfl; omega

end Go.Proofs.Qxb6500698aGreatDoor
