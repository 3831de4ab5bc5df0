/-
  THE WALKS OF THE SMALL FUNCTIONS: wrap, FillCount, within, repeat, zzSmall1.
-/
import Derived.Test.Qxb6500698aGreatDoorProg
import Derived.Test.Qxb6500698aGreatDoorMem
import Derived.WalkKit
import Derived.WalkSpells
import Derived.WalkLawsBesides
namespace Go.Proofs.Qxb6500698aGreatDoor
open Go.RowKit

theorem ret_int {k : IntKind} {a b : Int} (h : a = b) : Ending.returned (.int k a) = .returned (.int k b) := by rw [h]
theorem ret_bool {a b : Bool} (h : a = b) : Ending.returned (.bool a) = .returned (.bool b) := by rw [h]

theorem tmod_neg (n m : Int) (hm : 0 < m) (h : n.tmod m < 0) : n.tmod m + m = n % m ∧ 0 ≤ n.tmod m + m := by
  have h1 : 0 ≤ n % m := Int.emod_nonneg _ (by omega)
  have h2 : n % m < m := Int.emod_lt_of_pos _ hm
  rw [Int.tmod_eq_emod] at h ⊢
  split at h
  · omega
  · rename_i hh
    rw [if_neg hh]
    have : (m.natAbs : Int) = m := by omega
    constructor <;> omega
theorem tmod_nonneg (n m : Int) (hm : 0 < m) (h : 0 ≤ n.tmod m) : n.tmod m = n % m := by
  have h1 : 0 ≤ n % m := Int.emod_nonneg _ (by omega)
  have h2 : n % m < m := Int.emod_lt_of_pos _ hm
  rw [Int.tmod_eq_emod] at h ⊢
  split at h
  · rename_i hh; rw [if_pos hh]; omega
  · omega

theorem tmod_lt (n m : Int) (hm : 0 < m) : -m < n.tmod m ∧ n.tmod m < m := by
  have h1 : 0 ≤ n % m := Int.emod_nonneg _ (by omega)
  have h2 : n % m < m := Int.emod_lt_of_pos _ hm
  rw [Int.tmod_eq_emod]
  split
  · omega
  · rename_i hh
    have hd : ¬ n % m = 0 := fun h0 => hh (.inr (Int.dvd_of_emod_eq_zero h0))
    have : (m.natAbs : Int) = m := by omega
    omega

set_option maxHeartbeats 400000 in
theorem wrap_any (n b : Int) (w : World) (h0 : 0 ≤ b) (h1 : b ≤ 1099511627776) (_hn : -9223372036854775808 ≤ n) (_hn2 : n ≤ 9223372036854775807) :
    Calls Tryz.prog 52 #[.int .i64 n, .int .i64 b] w fun e w' => e = .returned (.int .i64 (n % (b + 1))) ∧ w' = w := by
  have hb := tmod_lt n (b + 1) (by omega)
  go_enter Tryz.func52, Tryz.ntmps52
  go_wp2
  · go_ret
    have h : n.tmod (b + 1) < 0 := by assumption
    have := tmod_neg n (b + 1) (by omega) h
    refine ⟨ret_int ?_, rfl⟩
    first | exact this.1 | (rw [← this.1]; exact IntWalk.wrap64_in _ (by omega))
  · go_ret
    have h : 0 ≤ n.tmod (b + 1) := by assumption
    exact ⟨ret_int (tmod_nonneg n (b + 1) (by omega) h), rfl⟩

set_option maxHeartbeats 400000 in
theorem fillCount_any (n : Int) (w : World) (hn : -9223372036854775808 ≤ n) (hn2 : n ≤ 9223372036854775807) :
    Calls Tryz.prog 18 #[.int .i64 n] w fun e w' => e = .returned (.int .i64 (fill n)) ∧ w' = w := by
  have hf : (fill n : Int) = n % 65537 := by unfold fill; omega
  rw [hf]
  go_enter Tryz.func18, Tryz.ntmps18
  go_wp2_with (go_at_call 52; refine (wrap_any _ _ _ (by omega) (by omega) hn hn2).mono ?_; rintro e w' ⟨rfl, rfl⟩)
  go_ret
  exact ⟨rfl, rfl⟩

theorem Tryz.info5 : (Tryz.prog.info? 5).map (fun i => (i.zero, i.size, i.bytes)) = some (some (.int .u8 0), 1, 1) := by kernel_rfl

set_option maxHeartbeats 400000 in
theorem repeat_any (b n : Nat) (w : World) (hn : n ≤ 65536) :
    Calls Tryz.prog 17 #[.int .u8 b, .int .i64 n] w fun e w' => e = .returned (.slice (some ⟨w.heap.size, 0, none⟩) n n) ∧
      w'.rowIs w.heap.size 5 n (fun _ => .int .u8 b) ∧ Below w.heap.size w w' ∧ w'.heap.size = w.heap.size + 1 := by
  have hmk := run_make_row' (P := Tryz.prog) 29 5 (.int .u8 0) 1 Tryz.underlying29 Tryz.info5 rfl .i64 .i64 n (by omega) (by omega)
  go_enter Tryz.func17, Tryz.ntmps17
  go_wp2
  clear hmk
  go_loopw [11] (fun i wr => ∃ k : Nat, k ≤ n ∧ i = .int .i64 k ∧ wr.rowIs w.heap.size 5 n (fun j => if j < k then .int .u8 b else .int .u8 0) ∧ Below w.heap.size w wr ∧ wr.heap.size = w.heap.size + 1) (fun i _ => n - (intOf i).toNat)
  case atStart =>
    refine ⟨0, Nat.zero_le _, rfl, ?_, (Below.refl _ _).alloc (Nat.le_refl _) _, by simp⟩
    exact (World.rowIs_made w (.int .u8 0) n 5).congr (by intro i _; simp)
  case round =>
    obtain ⟨k, hk, rfl, hrow, hbel, hsz⟩ := hrel
    by_cases hlt : k < n
    · have hc := hrow.cell hlt
      simp only [if_neg (Nat.lt_irrefl k)] at hc
      have hf := hrow.frozen k
      have hs := (hrow.set k (.int .u8 b)).congr (g := fun j => if j < k + 1 then .int .u8 b else .int .u8 0) (by
        intro j _
        by_cases e : j = k
        · subst e; simp
        · simp only [if_neg e]
          by_cases h2 : j < k
          · rw [if_pos h2, if_pos (by omega)]
          · rw [if_neg h2, if_neg (by omega)])
      have hb2 := hbel.setCell (p := ⟨w.heap.size, k, none⟩) (Nat.le_refl _) (.int .u8 b)
      have HS : Hid ((wr.setCell ⟨w.heap.size, k, none⟩ (.int .u8 b)).rowIs w.heap.size 5 n (fun j => if j < k + 1 then .int .u8 b else .int .u8 0) ∧ Below w.heap.size w (wr.setCell ⟨w.heap.size, k, none⟩ (.int .u8 b)) ∧ (wr.setCell ⟨w.heap.size, k, none⟩ (.int .u8 b)).heap.size = w.heap.size + 1) :=
        ⟨hs, hb2, by rw [← hsz]; simp [World.setCell]⟩
      clear hs hb2 hrow hbel hsz
      go_wp2
      go_roundw
      case rel => exact ⟨k + 1, by omega, by go_num, HS.out⟩
      case measure => simp [intOf]; omega
    · have : k = n := by omega
      subst this
      have HS : Hid (wr.rowIs w.heap.size 5 k (fun _ => .int .u8 b) ∧ Below w.heap.size w wr ∧ wr.heap.size = w.heap.size + 1) := ⟨hrow.congr (by intro i hi; rw [if_pos hi]), hbel, hsz⟩
      clear hrow hbel hsz
      go_wp2
      go_ret
      exact ⟨rfl, HS.out⟩

set_option maxHeartbeats 400000 in
theorem small_any (ao : Option Addr) (ops : List OpD) (cap : Nat) (w : World) (hs : Script w ao ops) (hm : ops.length ≤ 140737488355328) (hb : ∀ x ∈ ops, x.bs.length ≤ 140737488355328) :
    Calls Tryz.prog 4 #[.slice ao ops.length cap] w fun e w' => e = .returned (.bool (small ops)) ∧ w' = w := by
  by_cases hbig : 65536 < ops.length
  · have hsm : small ops = false := by unfold small; simp; omega
    have hbig' : (65536 : Int) < (ops.length : Int) := by omega
    rw [hsm]
    go_enter Tryz.func4, Tryz.ntmps4
    go_wp2
    go_ret
    exact ⟨rfl, rfl⟩
  · have hbig' : (ops.length : Int) ≤ 65536 := by omega
    go_enter Tryz.func4, Tryz.ntmps4
    go_wp2
    go_loop [3, 4] (fun n i => ∃ k : Nat, k ≤ ops.length ∧ i = .int .i64 k ∧ n = .int .i64 ((ops.length + total (ops.take k) : Nat) : Int) ∧ ops.length + total (ops.take k) ≤ 65536) (fun _ i => ops.length - (intOf i).toNat)
    case atStart => exact ⟨0, Nat.zero_le _, rfl, by simp [total], by simp [total]; omega⟩
    case round =>
      obtain ⟨k, hk, rfl, rfl, hle⟩ := hrel
      by_cases hlt : k < ops.length
      · obtain ⟨b, o, rfl, hop⟩ := hs (ne_nil_of_lt hlt)
        have hx := hop k hlt
        have hxb := hb _ (getD_mem (d := OpD.zero) hlt)
        have ht := total_take_succ ops k hlt
        have htl := total_take_le ops (k + 1)
        have c1 := hx.c1
        clear hop hx
        generalize ops.getD k OpD.zero = x at *
        have hlt' : (k : Int) < (ops.length : Int) := by omega
        by_cases hin : ops.length + total (ops.take (k + 1)) ≤ 65536
        · have hin' : (((ops.length + total (ops.take k) : Nat) : Int) + (x.bs.length : Int)) ≤ 65536 := by omega
          have HT : Hid (total (ops.take (k + 1)) = total (ops.take k) + x.bs.length) := ht
          clear ht
          go_wp2
          go_round
          case rel =>
            refine ⟨k + 1, by omega, by go_num, ?_, hin⟩
            rw [HT.out]; congr 1; omega
          case measure => simp [intOf]; omega
        · have hsm : small ops = false := by unfold small; simp; omega
          have hin' : 65536 < (((ops.length + total (ops.take k) : Nat) : Int) + (x.bs.length : Int)) := by omega
          clear ht htl
          go_wp2
          go_ret
          exact ⟨rfl, rfl⟩
      · have hsm : small ops = true := by
          unfold small
          rw [List.take_of_length_le (by omega)] at hle
          simpa using hle
        have hlt' : (ops.length : Int) ≤ (k : Int) := by omega
        go_wp2
        go_ret
        exact ⟨rfl, rfl⟩

end Go.Proofs.Qxb6500698aGreatDoor
