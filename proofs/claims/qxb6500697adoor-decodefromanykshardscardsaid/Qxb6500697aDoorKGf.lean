/-
  THE FIELD OF 256 ELEMENTS, as the program reckons it: gmul; the walks of Mul and Inv.
-/
import Derived.Test.Qxb6500697aDoorMem
import Derived.Test.Qxb6500697aDoorProg
import Derived.WalkKit
namespace Go.Proofs.Qxb6500697aDoor
open Go.RowKit

/-- The product without carries, the lowest i bits of b taken. -/
def gacc (a b : Nat) : Nat → Nat
  | 0 => 0
  | i + 1 => if b / 2 ^ i % 2 = 1 then gacc a b i ^^^ a * 2 ^ i else gacc a b i

/-- The reduction, its first j steps done (bits 14, 13, ..). -/
def gred (p : Nat) : Nat → Nat
  | 0 => p
  | j + 1 => if gred p j / 2 ^ (14 - j) % 2 = 1 then gred p j ^^^ 285 * 2 ^ (6 - j) else gred p j

def gmul (a b : Nat) : Nat := gred (gacc a b 8) 7 % 256

theorem gmul_lt (a b : Nat) : gmul a b < 256 := Nat.mod_lt _ (by decide)

theorem xor_lt_pow {a b k : Nat} (ha : a < 2 ^ k) (hb : b < 2 ^ k) : a ^^^ b < 2 ^ k := Nat.xor_lt_two_pow ha hb

theorem gacc_lt (a b i : Nat) (ha : a < 256) (hi : i ≤ 8) : gacc a b i < 32768 := by
  induction i with
  | zero => simp [gacc]
  | succ i ih =>
    have ih := ih (by omega)
    unfold gacc
    split
    · have h2 : a * 2 ^ i < 32768 := by
        have : 2 ^ i ≤ 2 ^ 7 := Nat.pow_le_pow_right (by decide) (by omega)
        calc a * 2 ^ i ≤ 255 * 2 ^ 7 := Nat.mul_le_mul (by omega) this
          _ < 32768 := by decide
      exact xor_lt_pow (k := 15) ih h2
    · exact ih

theorem gred_lt (p j : Nat) (hp : p < 32768) (hj : j ≤ 7) : gred p j < 32768 := by
  induction j with
  | zero => simpa [gred] using hp
  | succ j ih =>
    have ih := ih (by omega)
    unfold gred
    split
    · have h2 : 285 * 2 ^ (6 - j) < 32768 := by
        have : 2 ^ (6 - j) ≤ 2 ^ 6 := Nat.pow_le_pow_right (by decide) (by omega)
        calc 285 * 2 ^ (6 - j) ≤ 285 * 2 ^ 6 := Nat.mul_le_mul (Nat.le_refl _) this
          _ < 32768 := by decide
      exact xor_lt_pow (k := 15) ih h2
    · exact ih

theorem bit8 (b i : Nat) (hb : b < 256) : bits BinOp.and IntKind.u8 ((b : Int) / 2 ^ i) 1 = ((b / 2 ^ i % 2 : Nat) : Int) := by
  have e : ((b : Int) / 2 ^ i) = ((b / 2 ^ i : Nat) : Int) := by rw [Int.natCast_ediv]; simp
  have hl : b / 2 ^ i < 256 := Nat.lt_of_le_of_lt (Nat.div_le_self _ _) hb
  have := u8_and_nat (b / 2 ^ i) 1 hl (by decide)
  rw [show ((1 : Nat) : Int) = 1 from rfl] at this
  rw [e, this, Nat.and_one_is_mod]

theorem i64_xor_nat (a b : Nat) (ha : a < 4611686018427387904) (hb : b < 4611686018427387904) : bits .xor .i64 (a : Int) (b : Int) = ((a ^^^ b : Nat) : Int) := by
  have hx : a ^^^ b < 2 ^ 62 := Nat.xor_lt_two_pow (by omega) (by omega)
  show IntKind.i64.wrap ((BitVec.ofInt 64 (a : Int) ^^^ BitVec.ofInt 64 (b : Int)).toNat : Int) = _
  rw [BitVec.toNat_xor, ofInt_u64 a (by omega), ofInt_u64 b (by omega)]
  simp [IntKind.wrap, IntKind.bits, IntKind.signed]
  omega
theorem i64_and_nat (a b : Nat) (ha : a < 4611686018427387904) (hb : b < 4611686018427387904) : bits .and .i64 (a : Int) (b : Int) = ((a &&& b : Nat) : Int) := by
  have hx : a &&& b < 2 ^ 62 := Nat.and_lt_two_pow _ (by omega)
  show IntKind.i64.wrap ((BitVec.ofInt 64 (a : Int) &&& BitVec.ofInt 64 (b : Int)).toNat : Int) = _
  rw [BitVec.toNat_and, ofInt_u64 a (by omega), ofInt_u64 b (by omega)]
  simp [IntKind.wrap, IntKind.bits, IntKind.signed]
  omega

theorem shl_xor (x a m : Nat) (hx : x < 32768) (ha : a * 2 ^ m < 32768) : bits BinOp.xor IntKind.i64 (x : Int) (wrap64 ((a : Int) * 2 ^ m)) = ((x ^^^ a * 2 ^ m : Nat) : Int) := by
  have e : ((a : Int) * 2 ^ m) = ((a * 2 ^ m : Nat) : Int) := by rw [Int.natCast_mul]; simp
  rw [e]
  generalize a * 2 ^ m = y at *
  rw [show wrap64 (y : Int) = (y : Int) by unfold wrap64; omega, i64_xor_nat x y (by omega) (by omega)]

theorem bit64 (x m : Nat) (hx : x < 32768) : bits BinOp.and IntKind.i64 ((x : Int) / 2 ^ m) 1 = ((x / 2 ^ m % 2 : Nat) : Int) := by
  have e : ((x : Int) / 2 ^ m) = ((x / 2 ^ m : Nat) : Int) := by rw [Int.natCast_ediv]; simp
  have hl : x / 2 ^ m < 32768 := Nat.lt_of_le_of_lt (Nat.div_le_self _ _) hx
  have := i64_and_nat (x / 2 ^ m) 1 (by omega) (by decide)
  rw [show ((1 : Nat) : Int) = 1 from rfl] at this
  rw [e, this, Nat.and_one_is_mod]

set_option maxRecDepth 100000 in
set_option maxHeartbeats 1000000 in
theorem mul_any (a b : Nat) (w : World) (ha : a < 256) (hb : b < 256) :
    Calls Tryd.prog 62 #[.int .u8 a, .int .u8 b] w fun r w' => r = .returned (.int .u8 ((gmul a b : Nat) : Int)) ∧ w' = w := by
  have HG : Hid (gmul a b = gred (gacc a b 8) 7 % 256) := rfl
  go_enter Tryd.func62, Tryd.ntmps62
  go_wp2
  go_loop [5, 6] (fun p i => ∃ k : Nat, k ≤ 8 ∧ i = .int .i64 k ∧ p = .int .i64 ((gacc a b k : Nat) : Int)) (fun _ i => 8 - (intOf i).toNat)
  case atStart => exact ⟨0, Nat.zero_le _, rfl, rfl⟩
  case round =>
    obtain ⟨k, hk, rfl, rfl⟩ := hrel
    have hx := gacc_lt a b k ha hk
    by_cases hlt : k < 8
    · have hlt' : (k : Int) < 8 := by omega
      have hbit := bit8 b k hb
      by_cases h1 : b / 2 ^ k % 2 = 1
      · rw [h1] at hbit
        have HS : Hid (gacc a b (k + 1) = gacc a b k ^^^ a * 2 ^ k) := by show gacc a b (k + 1) = _; rw [gacc, if_pos h1]
        have h2 : a * 2 ^ k < 32768 := by
          have : 2 ^ k ≤ 2 ^ 7 := Nat.pow_le_pow_right (by decide) (by omega)
          calc a * 2 ^ k ≤ 255 * 2 ^ 7 := Nat.mul_le_mul (by omega) this
            _ < 32768 := by decide
        have HX : Hid _ := shl_xor (gacc a b k) a k hx h2
        go_wp2
        refine ⟨⟨k + 1, by omega, by go_num, ?_⟩, by simp [intOf]; omega⟩
        rw [HX.out, HS.out]
      · have h0 : b / 2 ^ k % 2 = 0 := by omega
        rw [h0] at hbit
        have HS : Hid (gacc a b (k + 1) = gacc a b k) := by show gacc a b (k + 1) = _; rw [gacc, if_neg h1]
        go_wp2
        refine ⟨⟨k + 1, by omega, by go_num, ?_⟩, by simp [intOf]; omega⟩
        rw [HS.out]
    · have hk8 : k = 8 := by omega
      subst hk8
      obtain ⟨p, hp⟩ : ∃ p, gacc a b 8 = p := ⟨_, rfl⟩
      rw [hp] at hx HG ⊢
      clear hp
      go_wp2
      go_loop [5, 7] (fun q i => ∃ j : Nat, j ≤ 7 ∧ i = .int .i64 (14 - (j : Int)) ∧ q = .int .i64 ((gred p j : Nat) : Int)) (fun _ i => (intOf i).toNat)
      case atStart => exact ⟨0, Nat.zero_le _, rfl, rfl⟩
      case round =>
        obtain ⟨j, hj, rfl, rfl⟩ := hrel
        have hy := gred_lt p j hx hj
        by_cases hlt : j < 7
        · obtain ⟨m, hm⟩ : ∃ m : Nat, 6 - j = m := ⟨_, rfl⟩
          obtain ⟨n, hn⟩ : ∃ n : Nat, 14 - j = n := ⟨_, rfl⟩
          have hji : (14 : Int) - (j : Int) = (n : Int) := by omega
          have hnm : (n : Int) - 8 = (m : Int) := by omega
          rw [hji]
          have hbit := bit64 (gred p j) n hy
          have hge : (8 : Int) ≤ (n : Int) := by omega
          have hn14 : n ≤ 14 := by omega
          have HJ : Hid ((n : Int) - 1 = 14 - ((j + 1 : Nat) : Int)) := by show (n : Int) - 1 = _; omega
          have HM : Hid (((n : Int) - 1).toNat < n) := by show ((n : Int) - 1).toNat < n; omega
          have hj6 : m ≤ 6 := by omega
          by_cases h1 : gred p j / 2 ^ n % 2 = 1
          · rw [h1] at hbit
            have HS : Hid (gred p (j + 1) = gred p j ^^^ 285 * 2 ^ m) := by show gred p (j + 1) = _; rw [gred, hn, if_pos h1, hm]
            have h2 : 285 * 2 ^ m < 32768 := by
              have : 2 ^ m ≤ 2 ^ 6 := Nat.pow_le_pow_right (by decide) (by omega)
              calc 285 * 2 ^ m ≤ 285 * 2 ^ 6 := Nat.mul_le_mul (by omega) this
                _ < 32768 := by decide
            have HX : Hid _ := shl_xor (gred p j) 285 m hy h2
            clear hn hm hji h2
            go_wp2
            refine ⟨⟨j + 1, by omega, ?_, ?_⟩, ?_⟩
            · rw [HJ.out]
            · rw [HS.out, ← HX.out]; rfl
            · exact HM.out
          · have h0 : gred p j / 2 ^ n % 2 = 0 := by omega
            rw [h0] at hbit
            have HS : Hid (gred p (j + 1) = gred p j) := by show gred p (j + 1) = _; rw [gred, hn, if_neg h1]
            clear hn hm hji
            go_wp2
            refine ⟨⟨j + 1, by omega, ?_, ?_⟩, ?_⟩
            · rw [HJ.out]
            · rw [HS.out]
            · exact HM.out
        · have hj7 : j = 7 := by omega
          subst hj7
          have HE : Hid (((gred p 7 : Nat) : Int) % 256 = ((gmul a b : Nat) : Int)) := by show ((gred p 7 : Nat) : Int) % 256 = _; rw [HG.out]; omega
          generalize gred p 7 = q at *
          go_wp2
          go_ret
          exact ⟨by rw [← HE.out]; rfl, rfl⟩
/-- The search of Inv from b on, f places long. -/
def ginvN (a b : Nat) : Nat → Nat
  | 0 => 0
  | f + 1 => if gmul a b = 1 then b else ginvN a (b + 1) f
def ginv (a : Nat) : Nat := ginvN a 1 255

theorem ginvN_lt (a b f : Nat) : ginvN a b f < b + f ∨ ginvN a b f = 0 := by
  induction f generalizing b with
  | zero => exact .inr rfl
  | succ f ih =>
    unfold ginvN
    split
    · exact .inl (by omega)
    · rcases ih (b + 1) with h | h
      · exact .inl (by omega)
      · exact .inr h
theorem ginv_lt (a : Nat) : ginv a < 256 := by
  rcases ginvN_lt a 1 255 with h | h
  · exact h
  · unfold ginv; omega

set_option maxRecDepth 100000 in
set_option maxHeartbeats 1000000 in
theorem inv_any (a : Nat) (w : World) (ha : a < 256) :
    Calls Tryd.prog 77 #[.int .u8 a] w fun r w' => r = .returned (.tuple #[.int .u8 ((ginv a : Nat) : Int), .bool (decide (ginv a ≠ 0))]) ∧ w' = w := by
  go_enter Tryd.func77, Tryd.ntmps77
  go_wp2
  go_loop [4] (fun i => ∃ b : Nat, 1 ≤ b ∧ b ≤ 256 ∧ i = .int .i64 b ∧ ginv a = ginvN a b (256 - b)) (fun i => 256 - (intOf i).toNat)
  case atStart => exact ⟨1, by omega, by omega, rfl, rfl⟩
  case round =>
    obtain ⟨b, hb1, hb2, rfl, hs⟩ := hrel
    by_cases hlt : b < 256
    · have hlt' : (b : Int) < 256 := by omega
      obtain ⟨f, hf⟩ : ∃ f, 256 - b = f + 1 := ⟨255 - b, by omega⟩
      have hf2 : 256 - (b + 1) = f := by omega
      rw [hf, ginvN] at hs
      have HM : Hid _ := mul_any a b w ha hlt
      by_cases h1 : gmul a b = 1
      · rw [if_pos h1] at hs
        rw [h1] at HM
        have HS : Hid (ginv a = b) := hs
        clear hs hf hf2 h1
        go_wp2_with fail
        refine Calls.mono HM.out ?_
        rintro r w' ⟨rfl, hw⟩
        have hw := hw.symm; subst hw
        go_wp2
        go_ret2
        refine ⟨?_, rfl⟩
        rw [HS.out, decide_eq_true (by omega)]
        rfl
      · rw [if_neg h1] at hs
        have HS : Hid (ginv a = ginvN a (b + 1) f) := hs
        have HF2 : Hid (256 - (b + 1) = f) := hf2
        have hg := gmul_lt a b
        generalize gmul a b = q at *
        have hq : ¬ (q : Int) = 1 := by omega
        have hq' : ((q : Int) == 1) = false := by simpa using hq
        clear hs hf hf2 h1 hq
        go_wp2_with fail
        refine Calls.mono HM.out ?_
        rintro r w' ⟨rfl, hw⟩
        have hw := hw.symm; subst hw
        go_wp2
        go_round
        case rel => exact ⟨b + 1, by omega, by omega, by go_num, by rw [HF2.out]; exact HS.out⟩
        case measure => simp [intOf]; omega
    · have hb256 : b = 256 := by omega
      subst hb256
      have HS : Hid (ginv a = 0) := hs
      clear hs
      go_wp2
      go_ret2
      refine ⟨?_, rfl⟩
      rw [HS.out]
      rfl

end Go.Proofs.Qxb6500697aDoor
