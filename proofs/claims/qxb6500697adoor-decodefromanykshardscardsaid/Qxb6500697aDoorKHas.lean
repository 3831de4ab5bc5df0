/-
  SETS OF ROWS AS BITS; THE WALKS OF has, with, holds, firstRows.
-/
import Derived.Test.Qxb6500697aDoorKGf
namespace Go.Proofs.Qxb6500697aDoor
open Go.RowKit

theorem ofInt_u16 (a : Nat) (ha : a < 65536) : (BitVec.ofInt 16 (a : Int)).toNat = a := by
  rw [BitVec.ofInt_natCast, BitVec.toNat_ofNat]
  exact Nat.mod_eq_of_lt ha
theorem u16_and_nat (a b : Nat) (ha : a < 65536) (hb : b < 65536) : bits .and .u16 (a : Int) (b : Int) = ((a &&& b : Nat) : Int) := by
  have hx : a &&& b < 2 ^ 16 := Nat.and_lt_two_pow _ (by omega)
  show IntKind.u16.wrap ((BitVec.ofInt 16 (a : Int) &&& BitVec.ofInt 16 (b : Int)).toNat : Int) = _
  rw [BitVec.toNat_and, ofInt_u16 a ha, ofInt_u16 b hb]
  simp [IntKind.wrap, IntKind.bits, IntKind.signed]
  omega
theorem u16_or_nat (a b : Nat) (ha : a < 65536) (hb : b < 65536) : bits .or .u16 (a : Int) (b : Int) = ((a ||| b : Nat) : Int) := by
  have hx : a ||| b < 2 ^ 16 := Nat.or_lt_two_pow (by omega) (by omega)
  show IntKind.u16.wrap ((BitVec.ofInt 16 (a : Int) ||| BitVec.ofInt 16 (b : Int)).toNat : Int) = _
  rw [BitVec.toNat_or, ofInt_u16 a ha, ofInt_u16 b hb]
  simp [IntKind.wrap, IntKind.bits, IntKind.signed]
  omega

theorem bit16 (b i : Nat) (hb : b < 65536) : bits BinOp.and IntKind.u16 ((b : Int) / 2 ^ i) 1 = ((b / 2 ^ i % 2 : Nat) : Int) := by
  have e : ((b : Int) / 2 ^ i) = ((b / 2 ^ i : Nat) : Int) := by rw [Int.natCast_ediv]; simp
  have hl : b / 2 ^ i < 65536 := Nat.lt_of_le_of_lt (Nat.div_le_self _ _) hb
  have := u16_and_nat (b / 2 ^ i) 1 hl (by decide)
  rw [show ((1 : Nat) : Int) = 1 from rfl] at this
  rw [e, this, Nat.and_one_is_mod]

theorem pow16 (i : Nat) (hi : i < 16) : 2 ^ i < 65536 := Nat.pow_lt_pow_right (by decide) hi
theorem wrap16 (i : Nat) (hi : i < 16) : IntKind.u16.wrap (2 ^ i) = ((2 ^ i : Nat) : Int) := by
  have hp := pow16 i hi
  have e : (2 : Int) ^ i = ((2 ^ i : Nat) : Int) := by simp
  rw [e]
  generalize 2 ^ i = y at *
  simp [IntKind.wrap, IntKind.bits, IntKind.signed]
  omega

set_option maxRecDepth 100000 in
set_option maxHeartbeats 1000000 in
theorem has_any (h i : Nat) (w : World) (hh : h < 65536) (hi : i < 16) :
    Calls Tryd.prog 58 #[.int .u16 h, .int .i64 i] w fun r w' => r = .returned (.bool (h.testBit i)) ∧ w' = w := by
  have hb := bit16 h i hh
  have ht : h.testBit i = decide (h / 2 ^ i % 2 = 1) := Nat.testBit_eq_decide_div_mod_eq
  have h2 : h / 2 ^ i % 2 = 0 ∨ h / 2 ^ i % 2 = 1 := by omega
  rcases h2 with h2 | h2
  · rw [h2] at hb ht
    have ht : h.testBit i = false := ht
    rw [ht]
    clear ht h2
    go_enter Tryd.func58, Tryd.ntmps58
    go_wp2
    go_ret
    exact ⟨rfl, rfl⟩
  · rw [h2] at hb ht
    have ht : h.testBit i = true := ht
    rw [ht]
    clear ht h2
    go_enter Tryd.func58, Tryd.ntmps58
    go_wp2
    go_ret
    exact ⟨rfl, rfl⟩

set_option maxRecDepth 100000 in
set_option maxHeartbeats 1000000 in
theorem with_any (h i : Nat) (w : World) (hh : h < 65536) (hi : i < 16) :
    Calls Tryd.prog 79 #[.int .u16 h, .int .i64 i] w fun r w' => r = .returned (.int .u16 ((h ||| 2 ^ i : Nat) : Int)) ∧ w' = w := by
  have hp := pow16 i hi
  have ho := u16_or_nat h (2 ^ i) hh hp
  have HW : Hid (bits .or .u16 (h : Int) (IntKind.u16.wrap (2 ^ i)) = ((h ||| 2 ^ i : Nat) : Int)) := by
    show bits .or .u16 (h : Int) (IntKind.u16.wrap (2 ^ i)) = ((h ||| 2 ^ i : Nat) : Int)
    rw [wrap16 i hi]; exact ho
  clear ho
  go_enter Tryd.func79, Tryd.ntmps79
  go_wp2
  go_ret
  exact ⟨congrArg (fun x => Ending.returned (.int .u16 x)) HW.out, rfl⟩

set_option maxRecDepth 100000 in
set_option maxHeartbeats 1000000 in
theorem first_any (k : Nat) (w : World) (hi : k < 16) :
    Calls Tryd.prog 81 #[.int .i64 k] w fun r w' => r = .returned (.int .u16 ((2 ^ k - 1 : Nat) : Int)) ∧ w' = w := by
  have HW : Hid (IntKind.u16.wrap (IntKind.u16.wrap (2 ^ k) - 1) = ((2 ^ k - 1 : Nat) : Int)) := by
    show IntKind.u16.wrap (IntKind.u16.wrap (2 ^ k) - 1) = ((2 ^ k - 1 : Nat) : Int)
    have hp := pow16 k hi
    have h1 : 1 ≤ 2 ^ k := Nat.one_le_two_pow
    rw [wrap16 k hi]
    generalize 2 ^ k = y at *
    simp [IntKind.wrap, IntKind.bits, IntKind.signed]
    omega
  go_enter Tryd.func81, Tryd.ntmps81
  go_wp2
  go_ret
  exact ⟨congrArg (fun x => Ending.returned (.int .u16 x)) HW.out, rfl⟩

set_option maxRecDepth 100000 in
set_option maxHeartbeats 1000000 in
theorem holds_any (h t : Nat) (w : World) (hh : h < 65536) (ht : t < 65536) :
    Calls Tryd.prog 80 #[.int .u16 h, .int .u16 t] w fun r w' => r = .returned (.bool (decide (h &&& t = t))) ∧ w' = w := by
  have hb := u16_and_nat h t hh ht
  by_cases e : h &&& t = t
  · rw [e] at hb
    rw [decide_eq_true e]
    clear e
    go_enter Tryd.func80, Tryd.ntmps80
    go_wp2
    go_ret
    exact ⟨rfl, rfl⟩
  · rw [decide_eq_false e]
    obtain ⟨z, hz⟩ : ∃ z, h &&& t = z := ⟨_, rfl⟩
    rw [hz] at hb e
    have e' : ¬ (z : Int) = (t : Int) := by omega
    clear e hz
    go_enter Tryd.func80, Tryd.ntmps80
    go_wp2
    go_ret
    exact ⟨by simp [e'], rfl⟩

theorem with_lt {h i : Nat} (hh : h < 65536) (hi : i < 16) : h ||| 2 ^ i < 65536 := Nat.or_lt_two_pow (n := 16) hh (pow16 i hi)
theorem with_bit (h i j : Nat) : (h ||| 2 ^ i).testBit j = (h.testBit j || decide (i = j)) := by
  rw [Nat.testBit_or, Nat.testBit_two_pow]
theorem first_bit (k j : Nat) : (2 ^ k - 1).testBit j = decide (j < k) := Nat.testBit_two_pow_sub_one k j
theorem first_lt {k : Nat} (hk : k < 16) : 2 ^ k - 1 < 65536 := by have := pow16 k hk; omega
theorem holds_iff (h k : Nat) : h &&& (2 ^ k - 1) = 2 ^ k - 1 ↔ ∀ j, j < k → h.testBit j = true := by
  constructor
  · intro e j hj
    have := congrArg (fun x => Nat.testBit x j) e
    simp only [Nat.testBit_and, first_bit, hj, decide_true, Bool.and_true] at this
    exact this
  · intro hall
    apply Nat.eq_of_testBit_eq
    intro j
    rw [Nat.testBit_and, first_bit]
    by_cases hj : j < k
    · rw [hall j hj]; simp
    · simp [hj]
end Go.Proofs.Qxb6500697aDoor
