/-
  THE WALKS OF THE RUNNING CRC: NewDigest, Write, Sum32, Len.
-/
import Derived.Test.Qxb6500698aGreatDoorCrcU
import Derived.Deep.RegionWith
import Derived.Deep.DrawnRows
namespace Go.Proofs.Qxb6500698aGreatDoor
open Go.RowKit
attribute [local go_sem ↓] Go.wp_at_zero Go.wp_at_succ

/-- The running checksum in block d: the engine's tables in block tb, the checksum c so far, n bytes so far. -/
def DigAt (w : World) (d tb c n : Nat) : Prop := w.heap[d]? = some (.cells #[.pointer (some ⟨tb, 0, none⟩), .int .u32 c, .int .u64 n] 88 (0, 0))

theorem DigAt.c0 {w : World} {d tb c n : Nat} (h : DigAt w d tb c n) : w.cell? ⟨d, 0, none⟩ = some (.pointer (some ⟨tb, 0, none⟩)) := by unfold DigAt at h; simp [World.cell?, h]
theorem DigAt.c1 {w : World} {d tb c n : Nat} (h : DigAt w d tb c n) : w.cell? ⟨d, 1, none⟩ = some (.int .u32 c) := by unfold DigAt at h; simp [World.cell?, h]
theorem DigAt.c2 {w : World} {d tb c n : Nat} (h : DigAt w d tb c n) : w.cell? ⟨d, 2, none⟩ = some (.int .u64 n) := by unfold DigAt at h; simp [World.cell?, h]
theorem DigAt.fr {w : World} {d tb c n : Nat} (h : DigAt w d tb c n) (i : Nat) : w.frozen? ⟨d, i, none⟩ = false := by unfold DigAt at h; simp [World.frozen?, h]
theorem DigAt.lt {w : World} {d tb c n : Nat} (h : DigAt w d tb c n) : d < w.heap.size := cell_lt h.c0
theorem DigAt.set {w : World} {d tb c n : Nat} (h : DigAt w d tb c n) (c' n' m : Nat) : DigAt (((w.setCell ⟨d, 1, none⟩ (.int .u32 (c' : Int))).setCell ⟨d, 2, none⟩ (.int .u64 (n' : Int))).drewN m) d tb c' n' := by
  unfold DigAt at *
  simp [World.setCell, Array.getElem?_modify, h]
theorem DigAt.of_block {w w' : World} {d tb c n : Nat} (h : DigAt w d tb c n) (e : w'.heap[d]? = w.heap[d]?) : DigAt w' d tb c n := e.trans h

set_option maxHeartbeats 400000 in
theorem newDigest_any (tb : Nat) (w : World) :
    Calls Tryz.prog 11 #[.pointer (some ⟨tb, 0, none⟩)] w fun e w' => e = .returned (.pointer (some ⟨w.heap.size, 0, none⟩)) ∧ Below w.heap.size w w' ∧ DigAt w' w.heap.size tb 0 0 := by
  go_enter Tryz.func11, Tryz.ntmps11
  go_wp2
  go_ret
  refine ⟨rfl, (Below.refl _ _).alloc (Nat.le_refl _) _, ?_⟩
  unfold DigAt
  exact heap_alloc_new w _

set_option maxHeartbeats 400000 in
theorem sum32_any (d tb c n : Nat) (w : World) (h : DigAt w d tb c n) :
    Calls Tryz.prog 21 #[.pointer (some ⟨d, 0, none⟩)] w fun e w' => e = .returned (.int .u32 c) ∧ w' = w := by
  have h1 := h.c1
  clear h
  go_enter Tryz.func21, Tryz.ntmps21
  go_wp2
  go_ret
  exact ⟨rfl, rfl⟩

set_option maxHeartbeats 400000 in
theorem len_any (d tb c n : Nat) (w : World) (h : DigAt w d tb c n) :
    Calls Tryz.prog 19 #[.pointer (some ⟨d, 0, none⟩)] w fun e w' => e = .returned (.int .u64 n) ∧ w' = w := by
  have h1 := h.c2
  clear h
  go_enter Tryz.func19, Tryz.ntmps19
  go_wp2
  go_ret
  exact ⟨rfl, rfl⟩

set_option maxRecDepth 100000 in
set_option maxHeartbeats 1000000 in
theorem write_any (bs : List Nat) (d tb c n cap : Nat) (ao : Option Addr) (w : World) (h : DigAt w d tb c n) (hT : Tabs w tb) (hrow : BRow w ao bs) (hc : c < 4294967296) (hcap : bs.length ≤ cap) (hcap2 : cap ≤ 9223372036854775807) (hn : n + bs.length < 18446744073709551616) :
    Calls Tryz.prog 50 #[.pointer (some ⟨d, 0, none⟩), .slice ao bs.length cap] w fun e w' => e = .returned (.tuple #[.int .i64 bs.length, .nilIface]) ∧
      ∃ m, w' = ((w.setCell ⟨d, 1, none⟩ (.int .u32 ((Crc.upd c bs : Nat) : Int))).setCell ⟨d, 2, none⟩ (.int .u64 ((n + bs.length : Nat) : Int))).drewN m := by
  have c0 := h.c0
  have c1 := h.c1
  have c2 := h.c2
  have f1 := h.fr 1
  have f2 := h.fr 2
  have HU : Hid (∀ W, (∀ b o, b < w.heap.size → W.cell? ⟨b, o, none⟩ = w.cell? ⟨b, o, none⟩) → Calls Tryz.prog 81 #[.pointer (some ⟨tb, 0, none⟩), .int .u32 c, .slice ao bs.length cap] W fun e w' => e = .returned (.int .u32 ((Crc.upd c bs : Nat) : Int)) ∧ ∃ n, w' = W.drewN n) :=
    fun W hW => update_any bs c hc tb cap ao W hcap2 hcap (hT.same hW) (hrow.same hW)
  have hul := Crc.upd_lt bs hc hrow.lt
  clear h hT hrow
  generalize Crc.upd c bs = u at *
  go_enter Tryz.func50, Tryz.ntmps50
  go_wp2
  go_region_with (go_at_call 81; refine Calls.mono (HU.out _ (fun _ _ _ => rfl)) ?_; rintro e w' ⟨rfl, m1, rfl⟩)
  all_goals go_wp2
  all_goals go_ret2
  all_goals (refine ⟨rfl, 1 + m1, ?_⟩; rw [Int.natCast_add]; rfl)

end Go.Proofs.Qxb6500698aGreatDoor
