/-
  THE WALKS OF ceilDiv, planFor, ShardLen.
-/
import Derived.Test.Qxb6500697aDoorKNew
import Derived.Deep.Cut
import Derived.Deep.CutRange
namespace Go.Proofs.Qxb6500697aDoor
open Go.RowKit

def ceil (a b : Nat) : Nat := (a + b - 1) / b

set_option maxRecDepth 100000 in
set_option maxHeartbeats 1000000 in
theorem ceil_any (a b : Nat) (w : World) (ha : a ≤ 1000000) (hb : 0 < b) (hb2 : b ≤ 1000000) :
    Calls Tryd.prog 66 #[.int .i64 a, .int .i64 b] w fun r w' => r = .returned (.int .i64 ((ceil a b : Nat) : Int)) ∧ w' = w := by
  have e : ((ceil a b : Nat) : Int) = ((a : Int) + (b : Int) - 1) / (b : Int) := by
    unfold ceil
    rw [Int.natCast_ediv]
    congr 1
    omega
  have hb0 : ¬ (b : Int) = 0 := by omega
  have e2 : ((a : Int) + (b : Int) - 1).tdiv (b : Int) = ((ceil a b : Nat) : Int) := by rw [e]; exact Int.tdiv_eq_ediv_of_nonneg (by omega)
  have hc : ceil a b ≤ 2000000 := by unfold ceil; exact Nat.le_trans (Nat.div_le_self _ _) (by omega)
  generalize ceil a b = q at *
  clear e
  go_enter Tryd.func66, Tryd.ntmps66
  go_wp2
  go_ret
  exact ⟨rfl, rfl⟩

/-- The plan of a generation: its family, the payload's length, the unit. -/
def pfam (g : Nat) : Nat := if g = 1 then 0 else 1
def psize (g k n : Nat) : Nat := if g = 3 then ceil (ceil n 8) k * 8 else ceil n k
def punit (g k n : Nat) : Nat := if g = 3 then 8 else ceil n k
def planV (g k n : Nat) : Value := .agg #[.int .u8 ((pfam g : Nat) : Int), .int .i64 ((psize g k n : Nat) : Int), .int .i64 ((punit g k n : Nat) : Int)]

theorem ceil_le (a b : Nat) (hb : 0 < b) : ceil a b ≤ a + b := by unfold ceil; exact Nat.le_trans (Nat.div_le_self _ _) (by omega)

set_option maxRecDepth 100000 in
set_option maxHeartbeats 1000000 in
theorem plan_ok (w : World) (F : Nat → Prop) (cb mb k m g n : Nat) (hC : CodecAt w F cb mb k m) (hg : g = 1 ∨ g = 2 ∨ g = 3) (hn : n ≤ 256) :
    Calls Tryd.prog 49 #[.pointer (some ⟨cb, 0, none⟩), .int .u8 g, .int .i64 n] w fun r w' => r = .returned (.tuple #[planV g k n, .nilIface]) ∧ Below w.heap.size w w' := by
  have c0 := hC.c0
  have hk := hC.hk
  have hkn := hC.hn
  have hcb := hC.lt
  clear hC
  obtain ⟨W, hW⟩ : ∃ W, w.alloc (.cells #[.int .u8 0, .int .i64 0, .int .i64 0] 95) = W := ⟨_, rfl⟩
  have hn' : ¬ (n : Int) < 0 := by omega
  have hn2 : ¬ (256 : Int) < (n : Int) := by omega
  rcases hg with rfl | rfl | rfl
  · have HC : Hid (∀ W, Calls Tryd.prog 66 #[.int .i64 n, .int .i64 k] W fun r w' => r = .returned (.int .i64 ((ceil n k : Nat) : Int)) ∧ w' = W) := fun W => ceil_any n k W (by omega) (by omega) (by omega)
    have HV : Hid (planV 1 k n = .agg #[.int .u8 0, .int .i64 ((ceil n k : Nat) : Int), .int .i64 ((ceil n k : Nat) : Int)]) := rfl
    rw [HV.out]
    clear hW
    generalize ceil n k = q at *
    go_enter Tryd.func49, Tryd.ntmps49
    go_wp2_with (go_at_call 66; refine (HC.out _).mono ?_; rintro r w1 ⟨rfl, hw⟩; subst hw)
    refine bodyPost_ret (v := .tuple #[.agg #[.int .u8 0, .int .i64 q, .int .i64 q], .nilIface]) (by simp [results, Tryd.results49, go_sem]) rfl ⟨rfl, (Below.refl _ _).alloc (Nat.le_refl _) _⟩
  · have HC : Hid (∀ W, Calls Tryd.prog 66 #[.int .i64 n, .int .i64 k] W fun r w' => r = .returned (.int .i64 ((ceil n k : Nat) : Int)) ∧ w' = W) := fun W => ceil_any n k W (by omega) (by omega) (by omega)
    have HV : Hid (planV 2 k n = .agg #[.int .u8 1, .int .i64 ((ceil n k : Nat) : Int), .int .i64 ((ceil n k : Nat) : Int)]) := rfl
    rw [HV.out]
    clear hW
    generalize ceil n k = q at *
    go_enter Tryd.func49, Tryd.ntmps49
    go_wp2_with (go_at_call 66; refine (HC.out _).mono ?_; rintro r w1 ⟨rfl, hw⟩; subst hw)
    refine bodyPost_ret (v := .tuple #[.agg #[.int .u8 1, .int .i64 q, .int .i64 q], .nilIface]) (by simp [results, Tryd.results49, go_sem]) rfl ⟨rfl, (Below.refl _ _).alloc (Nat.le_refl _) _⟩
  · have h8 := ceil_le n 8 (by omega)
    have HC1 : Hid (∀ W, Calls Tryd.prog 66 #[.int .i64 n, .int .i64 8] W fun r w' => r = .returned (.int .i64 ((ceil n 8 : Nat) : Int)) ∧ w' = W) := fun W => ceil_any n 8 W (by omega) (by omega) (by omega)
    have HC2 : Hid (∀ W, Calls Tryd.prog 66 #[.int .i64 ((ceil n 8 : Nat) : Int), .int .i64 k] W fun r w' => r = .returned (.int .i64 ((ceil (ceil n 8) k : Nat) : Int)) ∧ w' = W) := fun W => ceil_any (ceil n 8) k W (by omega) (by omega) (by omega)
    have hq := ceil_le (ceil n 8) k (by omega)
    have HV : Hid (planV 3 k n = .agg #[.int .u8 1, .int .i64 ((ceil (ceil n 8) k * 8 : Nat) : Int), .int .i64 8]) := rfl
    rw [HV.out]
    generalize ceil (ceil n 8) k = q at *
    generalize ceil n 8 = q1 at *
    have c0W : W.cell? ⟨cb, 0, none⟩ = some (.int .i64 k) := by rw [← hW]; exact (World.cell?_of_block (a := ⟨cb, 0, none⟩) (Below.heap_alloc _ _ _ hcb)).trans c0
    clear hW c0W
    go_enter Tryd.func49, Tryd.ntmps49
    go_wp2
    go_quiet (first | (go_at_call 66; with_reducible exact Calls.quiet_of_same (HC1.out _)) | (go_at_call 66; with_reducible exact Calls.quiet_of_same (HC2.out _)))
    go_wp2
    obtain ⟨W0, hW0⟩ : ∃ W0, (w.alloc (.cells #[.int .u8 0, .int .i64 0, .int .i64 0] 95)).drewN nq = W0 := ⟨_, rfl⟩
    rw [hW0]
    have hB0 : W0.heap[w.heap.size]? = some (.cells #[.int .u8 0, .int .i64 0, .int .i64 0] 95 (0, 0)) := by
      rw [← hW0, (World.drewN_alike _ _).1]; exact heap_alloc_new w _
    have hb0 : Below w.heap.size w W0 := by rw [← hW0]; exact ((Below.refl _ _).alloc (Nat.le_refl _) _).trans (drewN_below _ _ _)
    obtain ⟨W3, hW3⟩ : ∃ W3, ((W0.setCell ⟨w.heap.size, 0, none⟩ (.int .u8 1)).setCell ⟨w.heap.size, 1, none⟩ (.int .i64 ((q : Int) * 8))).setCell ⟨w.heap.size, 2, none⟩ (.int .i64 8) = W3 := ⟨_, rfl⟩
    rw [hW3]
    have hB3 : W3.heap[w.heap.size]? = some (.cells #[.int .u8 1, .int .i64 ((q : Int) * 8), .int .i64 8] 95 (0, 0)) := by
      rw [← hW3]; simp [World.setCell, Array.getElem?_modify, hB0]
    have hb3 : Below w.heap.size w W3 := by
      rw [← hW3]
      exact ((hb0.setCell (p := ⟨w.heap.size, 0, none⟩) (Nat.le_refl _) _).setCell (p := ⟨w.heap.size, 1, none⟩) (Nat.le_refl _) _).setCell (p := ⟨w.heap.size, 2, none⟩) (Nat.le_refl _) _
    have z0 : W3.cell? ⟨w.heap.size, 0, none⟩ = some (.int .u8 1) := by simp [World.cell?, hB3]
    have z1 : W3.cell? ⟨w.heap.size, 1, none⟩ = some (.int .i64 ((q : Int) * 8)) := by simp [World.cell?, hB3]
    have z2 : W3.cell? ⟨w.heap.size, 2, none⟩ = some (.int .i64 8) := by simp [World.cell?, hB3]
    refine bodyPost_ret (v := .tuple #[.agg #[.int .u8 1, .int .i64 ((q : Int) * 8), .int .i64 8], .nilIface]) (by simp [results, Tryd.results49, go_sem, z0, z1, z2]) rfl ⟨by go_num, hb3⟩

theorem psize_le (g k n : Nat) (hk : 1 ≤ k) (hn : n ≤ 256) : psize g k n ≤ 4096 := by
  have h1 := ceil_le n 8 (by omega)
  unfold psize
  split
  · have : ceil (ceil n 8) k ≤ ceil n 8 := by
      unfold ceil
      generalize (n + 8 - 1) / 8 = a
      exact Nat.le_of_lt_succ ((Nat.div_lt_iff_lt_mul (by omega)).2 (by have := Nat.mul_le_mul_left (a + 1) hk; rw [Nat.mul_one] at this; have h2 : (a + 1) * k = a * k + k := Nat.succ_mul a k; have h3 := Nat.le_mul_of_pos_right a (show 0 < k by omega); show a + k - 1 < (a + 1) * k; omega))
    omega
  · have h2 : ceil n k ≤ n + k := ceil_le n k (by omega)
    have : ceil n k ≤ n := by
      unfold ceil
      exact Nat.le_of_lt_succ ((Nat.div_lt_iff_lt_mul (by omega)).2 (by have h2 : (n + 1) * k = n * k + k := Nat.succ_mul n k; have h3 := Nat.le_mul_of_pos_right n (show 0 < k by omega); show n + k - 1 < (n + 1) * k; omega))
    omega

set_option maxRecDepth 100000 in
set_option maxHeartbeats 1000000 in
theorem shardLen_ok (w : World) (F : Nat → Prop) (cb mb k m g n : Nat) (hC : CodecAt w F cb mb k m) (hg : g = 1 ∨ g = 2 ∨ g = 3) (hn : n ≤ 256) :
    Calls Tryd.prog 30 #[.pointer (some ⟨cb, 0, none⟩), .int .u8 g, .int .i64 n] w fun r w' => r = .returned (.tuple #[.int .i64 ((psize g k n : Nat) : Int), .nilIface]) ∧ Below w.heap.size w w' := by
  have HP : Hid _ := plan_ok w F cb mb k m g n hC hg hn
  clear hC hg
  unfold planV at HP
  generalize psize g k n = q at *
  generalize punit g k n = u at *
  generalize pfam g = f at *
  go_enter Tryd.func30, Tryd.ntmps30
  go_wp2_with fail
  refine Calls.mono HP.out ?_
  rintro r w1 ⟨rfl, hb⟩
  have HB : Hid (∀ o, Below w.heap.size w (w1.alloc o)) := fun o => hb.alloc hb.size o
  clear hb
  go_wp2
  go_ret2
  exact ⟨rfl, HB.out _⟩
end Go.Proofs.Qxb6500697aDoor
