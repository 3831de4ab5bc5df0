/-
  THE WALK OF class.
-/
import Derived.Test.Qxb6500697aDoorIs
import Derived.Test.Qxb6500697aDoorKNew
namespace Go.Proofs.Qxb6500697aDoor
open Go.RowKit

/-- The table's cells. -/
def clsTab (e : Nat → Addr) : Array Value := #[.iface 186 (.pointer (some (e 0))), .int .u8 1, .iface 186 (.pointer (some (e 1))), .int .u8 2, .iface 186 (.pointer (some (e 2))), .int .u8 3, .iface 186 (.pointer (some (e 3))), .int .u8 4, .iface 186 (.pointer (some (e 4))), .int .u8 5, .iface 186 (.pointer (some (e 5))), .int .u8 6, .iface 186 (.pointer (some (e 6))), .int .u8 7, .iface 186 (.pointer (some (e 7))), .int .u8 8, .iface 186 (.pointer (some (e 8))), .int .u8 9]
theorem clsTab_get (e : Nat → Addr) (j : Nat) (hj : j < 9) : (clsTab e)[j * 2]? = some (.iface 186 (.pointer (some (e j)))) ∧ (clsTab e)[j * 2 + 1]? = some (.int .u8 ((j + 1 : Nat) : Int)) := by
  have : j = 0 ∨ j = 1 ∨ j = 2 ∨ j = 3 ∨ j = 4 ∨ j = 5 ∨ j = 6 ∨ j = 7 ∨ j = 8 := by omega
  rcases this with rfl | rfl | rfl | rfl | rfl | rfl | rfl | rfl | rfl <;> exact ⟨rfl, rfl⟩

set_option maxRecDepth 100000 in
set_option maxHeartbeats 2000000 in
theorem class_any (w : World) (e : Nat → Addr) (E : KErrs 10 w e) (i : Nat) (hi : i < 9) :
    Calls Tryd.prog 25 #[errV e (some i)] w fun r w' => r = .returned (.int .u8 ((i + 1 : Nat) : Int)) ∧ Below w.heap.size w w' := by
  have hI : Tryd.prog.isIface 48 = true := by kernel_rfl
  have HE : Hid (KErrs 10 w e) := E
  have k0 := E.cell 0 (by omega)
  have k1 := E.cell 1 (by omega)
  have k2 := E.cell 2 (by omega)
  have k3 := E.cell 3 (by omega)
  have k4 := E.cell 4 (by omega)
  have k5 := E.cell 5 (by omega)
  have k6 := E.cell 6 (by omega)
  have k7 := E.cell 7 (by omega)
  have k8 := E.cell 8 (by omega)
  obtain ⟨W1, hW1⟩ : ∃ W1, w.alloc (.cells (clsTab e) 110) = W1 := ⟨_, rfl⟩
  have hb1 : Below w.heap.size w W1 := by rw [← hW1]; exact (Below.refl _ _).alloc (Nat.le_refl _) _
  have HB1 : Hid (Below w.heap.size w W1) := hb1
  have hz1 : w.heap.size < W1.heap.size := by rw [← hW1]; simp
  have HT : Hid (∀ j v, (clsTab e)[j]? = some v → W1.cell? ⟨w.heap.size, j, none⟩ = some v) := by
    intro j v hv
    have h2 : W1.heap[w.heap.size]? = some (.cells (clsTab e) 110 (0, 0)) := by rw [← hW1]; exact heap_alloc_new w _
    simp [World.cell?, h2, hv]
  unfold clsTab at hW1
  unfold errV
  clear E hb1
  go_enter Tryd.func25, Tryd.ntmps25
  go_wp2
  go_loopw [29] (fun iv wr => ∃ j : Nat, j ≤ i ∧ iv = .int .i64 j ∧ Below W1.heap.size W1 wr) (fun iv _ => i + 1 - (intOf iv).toNat)
  case atStart => exact ⟨0, Nat.zero_le _, rfl, Below.refl _ _⟩
  case round =>
    obtain ⟨j, hj, rfl, hbr⟩ := hrel
    have hj9 : (j : Int) < 9 := by omega
    obtain ⟨t0, t1⟩ := clsTab_get e j (by omega)
    obtain ⟨c, hc⟩ : ∃ c, j + 1 = c := ⟨_, rfl⟩
    rw [hc] at t1
    have Hc : Hid (j + 1 = c) := hc
    clear hc
    have c0 := (hbr.cell (p := ⟨w.heap.size, j * 2, none⟩) hz1).trans (HT.out _ _ t0)
    have c1 := (hbr.cell (p := ⟨w.heap.size, j * 2 + 1, none⟩) hz1).trans (HT.out _ _ t1)
    have hEr := (HE.out.below HB1.out).below hbr
    have HBr : Hid (Below W1.heap.size W1 wr) := hbr
    obtain ⟨W, hW⟩ : ∃ W, wr.alloc (.cells #[.iface 186 (.pointer (some (e j))), .int .u8 (c : Int)] 110) = W := ⟨_, rfl⟩
    have hBW : Below wr.heap.size wr W := by rw [← hW]; exact (Below.refl _ _).alloc (Nat.le_refl _) _
    have HBW : Hid (Below W1.heap.size W1 W) := hbr.trans (hBW.mono hbr.size)
    have d0 : W.cell? ⟨wr.heap.size, 0, none⟩ = some (.iface 186 (.pointer (some (e j)))) := by rw [← hW]; simp
    have d1 : W.cell? ⟨wr.heap.size, 1, none⟩ = some (.int .u8 (c : Int)) := by rw [← hW]; simp
    have hEW := hEr.below hBW
    by_cases hji : j = i
    · subst hji
      have HIs : Hid _ := is_same (e j) W
      clear hEr hEW hbr hBW t0 t1
      go_wp2_with fail
      refine Calls.mono HIs.out ?_
      rintro r w' ⟨rfl, hw⟩
      have hw := hw.symm
      subst hw
      go_wp2
      go_ret
      exact ⟨by rw [Hc.out]; rfl, HB1.out.trans (HBW.out.mono HB1.out.size)⟩
    · obtain ⟨ci, ti, bi⟩ := hEW.row i (by omega)
      obtain ⟨cj, tj, bj⟩ := hEW.row j (by omega)
      have HIs : Hid _ := is_other (e i) (e j) ci cj ti tj W (hEW.apart i j (by omega) (by omega) (fun h => hji h.symm)) bi bj
      clear hEr hEW hbr hBW t0 t1 bi bj
      go_wp2_with fail
      refine Calls.mono HIs.out ?_
      rintro r w' ⟨rfl, hw⟩
      have hw := hw.symm
      subst hw
      go_wp2
      go_roundw
      case rel => exact ⟨j + 1, by omega, by go_num, HBW.out⟩
      case measure => simp [intOf]; omega
end Go.Proofs.Qxb6500697aDoor
