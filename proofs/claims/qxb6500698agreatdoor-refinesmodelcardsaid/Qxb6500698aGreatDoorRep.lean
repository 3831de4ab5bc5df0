/-
  'repeat' FOR EVERY LENGTH THAT A SLICE MAY HAVE.
-/
import Derived.Test.Qxb6500698aGreatDoorSmall
namespace Go.Proofs.Qxb6500698aGreatDoor
open Go.RowKit

set_option maxHeartbeats 400000 in
theorem repeat_big (b n : Nat) (w : World) (hn : n ≤ 140737488355328) :
    Calls Tryz.prog 17 #[.int .u8 b, .int .i64 n] w fun e w' => e = .returned (.slice (some ⟨w.heap.size, 0, none⟩) n n) ∧
      w'.rowIs w.heap.size 5 n (fun _ => .int .u8 b) ∧ Below w.heap.size w w' ∧ w'.heap.size = w.heap.size + 1 := by
  have hmk := run_make_row' (P := Tryz.prog) 29 5 (.int .u8 0) 1 Tryz.underlying29 Tryz.info5 rfl .i64 .i64 n (by omega) (by omega)
  go_enter Tryz.func17, Tryz.ntmps17
  go_wp2
  clear hmk
  go_loopw [11] (fun i wr => ∃ k : Nat, k ≤ n ∧ i = .int .i64 k ∧ wr.rowIs w.heap.size 5 n (fun j => if j < k then .int .u8 b else .int .u8 0) ∧ Below w.heap.size w wr ∧ wr.heap.size = w.heap.size + 1) (fun i _ => n - (intOf i).toNat)
  case atStart =>
    refine ⟨0, Nat.zero_le _, rfl, ?_, (Below.refl _ _).alloc (Nat.le_refl _) _, by simp⟩
    exact (World.rowIs_made w (.int .u8 0) n 5).congr (by intro i _; simp)
  case round =>
    obtain ⟨k, hk, rfl, hrow, hbel, hsz⟩ := hrel
    by_cases hlt : k < n
    · have hc := hrow.cell hlt
      simp only [if_neg (Nat.lt_irrefl k)] at hc
      have hf := hrow.frozen k
      have hs := (hrow.set k (.int .u8 b)).congr (g := fun j => if j < k + 1 then .int .u8 b else .int .u8 0) (by
        intro j _
        by_cases e : j = k
        · subst e; simp
        · simp only [if_neg e]
          by_cases h2 : j < k
          · rw [if_pos h2, if_pos (by omega)]
          · rw [if_neg h2, if_neg (by omega)])
      have hb2 := hbel.setCell (p := ⟨w.heap.size, k, none⟩) (Nat.le_refl _) (.int .u8 b)
      have HS : Hid ((wr.setCell ⟨w.heap.size, k, none⟩ (.int .u8 b)).rowIs w.heap.size 5 n (fun j => if j < k + 1 then .int .u8 b else .int .u8 0) ∧ Below w.heap.size w (wr.setCell ⟨w.heap.size, k, none⟩ (.int .u8 b)) ∧ (wr.setCell ⟨w.heap.size, k, none⟩ (.int .u8 b)).heap.size = w.heap.size + 1) :=
        ⟨hs, hb2, by rw [← hsz]; simp [World.setCell]⟩
      clear hs hb2 hrow hbel hsz
      go_wp2
      go_roundw
      case rel => exact ⟨k + 1, by omega, by go_num, HS.out⟩
      case measure => simp [intOf]; omega
    · have : k = n := by omega
      subst this
      have HS : Hid (wr.rowIs w.heap.size 5 k (fun _ => .int .u8 b) ∧ Below w.heap.size w wr ∧ wr.heap.size = w.heap.size + 1) := ⟨hrow.congr (by intro i hi; rw [if_pos hi]), hbel, hsz⟩
      clear hrow hbel hsz
      go_wp2
      go_ret
      exact ⟨rfl, HS.out⟩

end Go.Proofs.Qxb6500698aGreatDoor
