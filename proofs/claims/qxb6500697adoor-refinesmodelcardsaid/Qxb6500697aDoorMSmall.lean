/-
  THE MODEL's SMALL FUNCTIONS: GoodGeometry, GoodGen, ShardLen, Div, Coefficient, Weights.
-/
import Derived.Test.Qxb6500697aDoorMLag
import Derived.Test.Qxb6500697aDoorKPlan
namespace Go.Proofs.Qxb6500697aDoor
open Go.RowKit

set_option maxRecDepth 100000 in
set_option maxHeartbeats 1000000 in
theorem goodGeo_any (k m : Int) (w : World) (h1 : -9223372036854775808 ≤ k) (h2 : k ≤ 9223372036854775807) (h3 : -9223372036854775808 ≤ m) (h4 : m ≤ 9223372036854775807) :
    Calls Tryd.prog 42 #[.int .i64 k, .int .i64 m] w fun r w' => r = .returned (.bool (geo k m)) ∧ w' = w := by
  by_cases hg : 1 ≤ k ∧ 1 ≤ m ∧ k + m ≤ 16
  · have HG : Hid (geo k m = true) := decide_eq_true hg
    obtain ⟨a1, a2, a5⟩ := hg
    have a3 : k ≤ 16 := by omega
    have a4 : m ≤ 16 := by omega
    go_enter Tryd.func42, Tryd.ntmps42
    go_wp2
    go_ret
    exact ⟨by rw [HG.out]; rfl, rfl⟩
  · have HG : Hid (geo k m = false) := decide_eq_false hg
    by_cases a1 : 1 ≤ k
    · by_cases a2 : 1 ≤ m
      · by_cases a3 : k ≤ 16
        · by_cases a4 : m ≤ 16
          · have a5 : ¬ k + m ≤ 16 := fun h => hg ⟨a1, a2, h⟩
            clear hg
            go_enter Tryd.func42, Tryd.ntmps42
            go_wp2
            go_ret
            exact ⟨by rw [HG.out]; rfl, rfl⟩
          · clear hg
            go_enter Tryd.func42, Tryd.ntmps42
            go_wp2
            go_ret
            exact ⟨by rw [HG.out]; rfl, rfl⟩
        · clear hg
          go_enter Tryd.func42, Tryd.ntmps42
          go_wp2
          go_ret
          exact ⟨by rw [HG.out]; rfl, rfl⟩
      · clear hg
        go_enter Tryd.func42, Tryd.ntmps42
        go_wp2
        go_ret
        exact ⟨by rw [HG.out]; rfl, rfl⟩
    · clear hg
      go_enter Tryd.func42, Tryd.ntmps42
      go_wp2
      go_ret
      exact ⟨by rw [HG.out]; rfl, rfl⟩

/-- A generation, as a number. -/
def genOk (g : Nat) : Bool := decide (g = 1 ∨ g = 2 ∨ g = 3)

set_option maxRecDepth 100000 in
set_option maxHeartbeats 1000000 in
theorem goodGen_any (g : Nat) (w : World) (hg : g < 256) :
    Calls Tryd.prog 47 #[.int .u8 g] w fun r w' => r = .returned (.bool (genOk g)) ∧ w' = w := by
  by_cases h1 : g = 1
  · subst h1
    have HG : Hid (genOk 1 = true) := rfl
    go_enter Tryd.func47, Tryd.ntmps47
    go_wp2
    go_ret
    exact ⟨by rw [HG.out]; rfl, rfl⟩
  · by_cases h2 : g = 2
    · subst h2
      have HG : Hid (genOk 2 = true) := rfl
      go_enter Tryd.func47, Tryd.ntmps47
      go_wp2
      go_ret
      exact ⟨by rw [HG.out]; rfl, rfl⟩
    · by_cases h3 : g = 3
      · subst h3
        have HG : Hid (genOk 3 = true) := rfl
        go_enter Tryd.func47, Tryd.ntmps47
        go_wp2
        go_ret
        exact ⟨by rw [HG.out]; rfl, rfl⟩
      · have HG : Hid (genOk g = false) := decide_eq_false (by omega)
        have b1 : ((g : Int) == 1) = false := by simp; omega
        have b2 : ((g : Int) == 2) = false := by simp; omega
        have b3 : ((g : Int) == 3) = false := by simp; omega
        clear h1 h2 h3
        go_enter Tryd.func47, Tryd.ntmps47
        go_wp2
        go_ret
        exact ⟨by rw [HG.out]; rfl, rfl⟩

/-! ### ShardLen -/
theorem ceil_mul (a b q : Nat) (hb : 0 < b) : b * q < a ↔ q < ceil a b := by
  unfold ceil
  rw [Nat.lt_div_iff_mul_lt hb]
  rw [Nat.mul_comm q b]
  constructor <;> intro h <;> omega

theorem psize_unit (g k n j : Nat) (hk : 1 ≤ k) : (k * (j * (if g = 3 then 8 else 1)) < n) ↔ j * (if g = 3 then 8 else 1) < psize g k n := by
  unfold psize
  by_cases h : g = 3
  · rw [if_pos h, if_pos h, Nat.mul_lt_mul_right (by decide), ← ceil_mul (ceil n 8) k j (by omega), ← ceil_mul n 8 (k * j) (by decide)]
    rw [show k * (j * 8) = 8 * (k * j) by rw [Nat.mul_comm j 8, Nat.mul_left_comm]]
  · rw [if_neg h, if_neg h, Nat.mul_one, ← ceil_mul n k j (by omega)]
theorem psize_dvd (g k n : Nat) : ∃ q, psize g k n = q * (if g = 3 then 8 else 1) := by
  unfold psize
  by_cases h : g = 3
  · rw [if_pos h, if_pos h]; exact ⟨_, rfl⟩
  · rw [if_neg h, if_neg h]; exact ⟨_, (Nat.mul_one _).symm⟩

set_option maxRecDepth 100000 in
set_option maxHeartbeats 1000000 in
theorem mshardLen_any (g k n : Nat) (w : World) (hg : g < 256) (hk : 1 ≤ k) (hk16 : k ≤ 16) (hn : n ≤ 256) :
    Calls Tryd.prog 48 #[.int .u8 g, .int .i64 k, .int .i64 n] w fun r w' => r = .returned (.int .i64 ((psize g k n : Nat) : Int)) ∧ w' = w := by
  have hps := psize_le g k n hk hn
  have HU : Hid (∀ j, (k * (j * (if g = 3 then 8 else 1)) < n) ↔ j * (if g = 3 then 8 else 1) < psize g k n) := fun j => psize_unit g k n j hk
  have HD : Hid (∃ q, psize g k n = q * (if g = 3 then 8 else 1)) := psize_dvd g k n
  obtain ⟨S, hS⟩ : ∃ S, psize g k n = S := ⟨_, rfl⟩
  rw [hS] at hps HU HD ⊢
  clear hS
  by_cases h3 : g = 3
  · subst h3
    rw [if_pos rfl] at HU HD
    go_enter Tryd.func48, Tryd.ntmps48
    go_wp2
    go_loop [8] (fun i => ∃ j : Nat, j * 8 ≤ S ∧ i = .int .i64 ((j * 8 : Nat) : Int)) (fun i => S - (intOf i).toNat)
    case atStart => exact ⟨0, by omega, rfl⟩
    case round =>
      obtain ⟨j, hj, rfl⟩ := hrel
      obtain ⟨z, hz⟩ : ∃ z, j * 8 = z := ⟨_, rfl⟩
      have hu := HU.out j
      obtain ⟨q, hq⟩ := HD.out
      rw [hz] at hu hj ⊢
      obtain ⟨p, hp⟩ : ∃ p, k * z = p := ⟨_, rfl⟩
      rw [hp] at hu
      have hpi : (k : Int) * (z : Int) = (p : Int) := by rw [← hp]; exact (Int.natCast_mul _ _).symm
      have hpl : p ≤ 65536 := by rw [← hp]; exact Nat.le_trans (Nat.mul_le_mul hk16 (show z ≤ 4096 by omega)) (by decide)
      have hwp : IntKind.i64.wrap (p : Int) = (p : Int) := by simp [IntKind.wrap, IntKind.bits, IntKind.signed]; omega
      by_cases hlt : p < n
      · have hlt' : (p : Int) < (n : Int) := by omega
        have hzS := hu.1 hlt
        have HZ : Hid (z + 8 ≤ S ∧ j * 8 = z) := ⟨by omega, hz⟩
        have HM : Hid (S - (z + 8) < S - z) := by show S - (z + 8) < S - z; omega
        clear hu hq hz hp
        go_wp2
        go_round
        case rel => exact ⟨j + 1, by have := HZ.out; omega, by have := HZ.out.2; go_num⟩
        case measure => simp [intOf]; omega
      · have hlt' : ¬ (p : Int) < (n : Int) := by omega
        have HE : Hid (z = S) := by
          have : ¬ z < S := fun h => hlt (hu.2 h)
          show z = S
          omega
        clear hu hq hz hp
        go_wp2
        go_ret
        exact ⟨by rw [← HE.out]; rfl, rfl⟩
  · have hg' : ((g : Int) == 3) = false := by simp; omega
    rw [if_neg h3] at HU
    clear HD h3
    go_enter Tryd.func48, Tryd.ntmps48
    go_wp2
    go_loop [8] (fun i => ∃ z : Nat, z ≤ S ∧ i = .int .i64 (z : Int)) (fun i => S - (intOf i).toNat)
    case atStart => exact ⟨0, by omega, rfl⟩
    case round =>
      obtain ⟨z, hj, rfl⟩ := hrel
      have hu := HU.out z
      rw [Nat.mul_one] at hu
      obtain ⟨p, hp⟩ : ∃ p, k * z = p := ⟨_, rfl⟩
      rw [hp] at hu
      have hpi : (k : Int) * (z : Int) = (p : Int) := by rw [← hp]; exact (Int.natCast_mul _ _).symm
      have hpl : p ≤ 65536 := by rw [← hp]; exact Nat.le_trans (Nat.mul_le_mul hk16 (show z ≤ 4096 by omega)) (by decide)
      have hwp : IntKind.i64.wrap (p : Int) = (p : Int) := by simp [IntKind.wrap, IntKind.bits, IntKind.signed]; omega
      by_cases hlt : p < n
      · have hlt' : (p : Int) < (n : Int) := by omega
        have hzS := hu.1 hlt
        clear hu hp
        go_wp2
        go_round
        case rel => exact ⟨z + 1, by omega, by go_num⟩
        case measure => simp [intOf]; omega
      · have hlt' : ¬ (p : Int) < (n : Int) := by omega
        have HE : Hid (z = S) := by
          have : ¬ z < S := fun h => hlt (hu.2 h)
          show z = S
          omega
        clear hu hp
        go_wp2
        go_ret
        exact ⟨by rw [← HE.out]; rfl, rfl⟩
end Go.Proofs.Qxb6500697aDoor
