/-
  THE WALKS: timesX, mulMod, Combine; the model's CRC32 (long division bit by bit).
-/
import Derived.Test.Qxb6500698aCrcW
namespace Go.Proofs.Qxb6500698a
open Go.RowKit

set_option maxHeartbeats 400000 in
theorem timesX_any (r : Nat) (w : World) (hr : r < 4294967296) :
    Calls Try.prog 36 #[.int .u32 r] w fun e w' => e = .returned (.int .u32 ((Crc.cstep r : Nat) : Int)) ∧ w' = w := by
  have h1 := and1 r hr
  by_cases ho : r % 2 = 1
  · rw [ho] at h1
    have HX : Hid _ := cstep_odd r hr ho
    clear ho
    go_enter Try.func36, Try.ntmps36
    go_wp2
    go_ret
    exact ⟨ret_int HX.out, rfl⟩
  · have h0 : r % 2 = 0 := by omega
    rw [h0] at h1
    have HX : Hid _ := cstep_even r h0
    clear ho h0
    go_enter Try.func36, Try.ntmps36
    go_wp2
    go_ret
    exact ⟨ret_int HX.out, rfl⟩

theorem and_two_pow' (a k : Nat) : a &&& 2 ^ k = if a / 2 ^ k % 2 = 1 then 2 ^ k else 0 := by
  apply Nat.eq_of_testBit_eq
  intro j
  rw [Nat.testBit_and, Nat.testBit_two_pow]
  by_cases h : a / 2 ^ k % 2 = 1
  · rw [if_pos h, Nat.testBit_two_pow]
    by_cases e : k = j
    · subst e; simp [Nat.testBit_eq_decide_div_mod_eq, h]
    · simp [e]
  · rw [if_neg h]
    by_cases e : k = j
    · subst e; simp [Nat.testBit_eq_decide_div_mod_eq, h]
    · simp [e]

theorem and_pow (a k : Nat) (ha : a < 4294967296) (hk : k < 32) : bits .and .u32 (a : Int) ((2 ^ k : Nat) : Int) = if a / 2 ^ k % 2 = 1 then ((2 ^ k : Nat) : Int) else 0 := by
  have hp : 2 ^ k < 2 ^ 32 := Nat.pow_lt_pow_right (by decide) hk
  rw [u32_and_nat a (2 ^ k) ha (by simpa using hp), and_two_pow']
  split <;> rfl

theorem coef_next (i : Nat) (h : i < 32) : 2 ^ 31 / 2 ^ (i + 1) = 2 ^ (31 - i) / 2 ∧ 2 ^ 31 / 2 ^ i = 2 ^ (31 - i) := by
  have e : (2 : Nat) ^ 31 = 2 ^ (31 - i) * 2 ^ i := by rw [← Nat.pow_add]; congr 1; omega
  have e2 : 2 ^ 31 / 2 ^ i = 2 ^ (31 - i) := by rw [e, Nat.mul_div_cancel _ (Nat.two_pow_pos i)]
  exact ⟨by rw [show (2 : Nat) ^ (i + 1) = 2 ^ i * 2 from Nat.pow_succ 2 i, ← Nat.div_div_eq_div_mul, e2], e2⟩

set_option maxRecDepth 100000 in
set_option maxHeartbeats 1000000 in
theorem mulMod_any (a b : Nat) (w : World) (ha : a < 4294967296) (hb : b < 4294967296) :
    Calls Try.prog 32 #[.int .u32 a, .int .u32 b] w fun e w' => e = .returned (.int .u32 ((Crc.mulMod a b : Nat) : Int)) ∧ w' = w := by
  have HM : Hid (Crc.mulMod a b = Crc.mulTo a b 32) := rfl
  go_enter Try.func32, Try.ntmps32
  go_wp2
  go_loop [1, 5, 6] (fun q p c => ∃ i : Nat, i ≤ 32 ∧ q = .int .u32 ((Crc.steps i b : Nat) : Int) ∧ p = .int .u32 ((Crc.mulTo a b i : Nat) : Int) ∧ c = .int .u32 ((2 ^ 31 / 2 ^ i : Nat) : Int)) (fun _ _ c => (intOf c).toNat)
  case atStart => exact ⟨0, by omega, rfl, rfl, rfl⟩
  case round =>
    obtain ⟨i, hi, rfl, rfl, rfl⟩ := hrel
    by_cases hlt : i < 32
    · obtain ⟨hc1, hc0⟩ := coef_next i hlt
      have hq := Crc.steps_lt i hb
      have hp := Crc.mulTo_lt a b i hb
      have hand := and_pow a (31 - i) ha (by omega)
      have HS : Hid (Crc.steps (i + 1) b = Crc.cstep (Crc.steps i b)) := Crc.steps_succ i b
      have HC : Hid (2 ^ 31 / 2 ^ (i + 1) = 2 ^ (31 - i) / 2) := hc1
      have HT : Hid (Crc.mulTo a b (i + 1) = Crc.mulTo a b i ^^^ (if a / 2 ^ (31 - i) % 2 = 1 then Crc.steps i b else 0)) := rfl
      rw [hc0]
      have hcp : 0 < 2 ^ (31 - i) := Nat.two_pow_pos _
      have hcl : 2 ^ (31 - i) < 4294967296 := by
        have : 2 ^ (31 - i) < 2 ^ 32 := Nat.pow_lt_pow_right (by decide) (by omega)
        simpa using this
      clear hc0 hc1
      generalize 2 ^ (31 - i) = c at *
      have hcne : ((c : Int) != 0) = true := by rw [bne_iff_ne]; omega
      by_cases hbit : a / c % 2 = 1
      · rw [if_pos hbit] at hand
        have HT2 : Hid (Crc.mulTo a b (i + 1) = Crc.mulTo a b i ^^^ Crc.steps i b) := by
          have := HT.out
          rw [if_pos hbit] at this
          exact this
        have HX : Hid _ := xor32 _ _ hp hq
        clear hbit HT
        generalize Crc.mulTo a b i = p at *
        generalize Crc.steps i b = q at *
        go_wp2_with (go_at_call 36; refine Calls.mono (timesX_any _ _ hq) ?_; rintro e w' ⟨rfl, rfl⟩)
        go_round
        case rel => exact ⟨i + 1, by omega, by rw [HS.out], by rw [HT2.out]; exact congrArg _ HX.out, by rw [HC.out]; go_num⟩
        case measure => simp [intOf]; omega
      · rw [if_neg hbit] at hand
        have HT2 : Hid (Crc.mulTo a b (i + 1) = Crc.mulTo a b i) := by
          have := HT.out
          rw [if_neg hbit, Nat.xor_zero] at this
          exact this
        clear hbit HT
        generalize Crc.mulTo a b i = p at *
        generalize Crc.steps i b = q at *
        go_wp2_with (go_at_call 36; refine Calls.mono (timesX_any _ _ hq) ?_; rintro e w' ⟨rfl, rfl⟩)
        go_round
        case rel => exact ⟨i + 1, by omega, by rw [HS.out], by rw [HT2.out], by rw [HC.out]; go_num⟩
        case measure => simp [intOf]; omega
    · have : i = 32 := by omega
      subst this
      rw [show 2 ^ 31 / 2 ^ 32 = 0 from rfl]
      go_wp2
      go_ret
      exact ⟨ret_int (by rw [HM.out]), rfl⟩

theorem and1_32 (x j : Nat) (h : x < 256) : bits BinOp.and IntKind.u32 ((x : Int) / 2 ^ j % 4294967296) 1 = ((x / 2 ^ j % 2 : Nat) : Int) := by
  have e : ((x : Int) / 2 ^ j) = ((x / 2 ^ j : Nat) : Int) := by rw [Int.natCast_ediv]; simp
  have hl : x / 2 ^ j < 4294967296 := Nat.lt_of_le_of_lt (Nat.div_le_self _ _) (by omega)
  rw [e, show ((x / 2 ^ j : Nat) : Int) % 4294967296 = ((x / 2 ^ j : Nat) : Int) from Int.emod_eq_of_lt (Int.natCast_nonneg _) (Int.ofNat_lt.2 hl), and1 _ hl]

theorem mulMod_steps (s p : Nat) : Crc.mulMod (Crc.steps s (2 ^ 31)) (Crc.steps p (2 ^ 31)) = Crc.steps (s + p) (2 ^ 31) := by
  rw [Crc.mulMod_pow _ _ (Crc.steps_lt s (by decide)), Crc.steps_add]

theorem and1_64' (m : Nat) (h : m < 18446744073709551616) : bits BinOp.and IntKind.u64 (m : Int) 1 = ((m % 2 : Nat) : Int) := by
  have := u64_and_nat m 1 h (by decide)
  rw [show ((1 : Nat) : Int) = 1 from rfl] at this
  rw [this, Nat.and_one_is_mod]

set_option maxRecDepth 100000 in
set_option maxHeartbeats 1000000 in
theorem combine_any (c : Value) (a b n : Nat) (w : World) (ha : a < 4294967296) (hb : b < 4294967296) (hn : n < 18446744073709551616) :
    Calls Try.prog 21 #[c, .int .u32 a, .int .u32 b, .int .u64 n] w fun e w' => e = .returned (.int .u32 ((Crc.steps (8 * n) a ^^^ b : Nat) : Int)) ∧ w' = w := by
  have p0 : Crc.steps 8 (2 ^ 31) = 8388608 := by decide +kernel
  have P0 : Hid (Crc.steps 8 (2 ^ 31) = 8388608) := p0
  clear p0
  go_enter Try.func21, Try.ntmps21
  go_wp2
  go_loop [9, 10, 11] (fun s p m => ∃ S P m' : Nat, S + P * m' = 8 * n ∧ m' < 18446744073709551616 ∧ s = .int .u32 ((Crc.steps S (2 ^ 31) : Nat) : Int) ∧ p = .int .u32 ((Crc.steps P (2 ^ 31) : Nat) : Int) ∧ m = .int .u64 m') (fun _ _ m => (intOf m).toNat)
  case atStart => exact ⟨0, 8, n, by omega, hn, rfl, by rw [P0.out]; rfl, rfl⟩
  case round =>
    obtain ⟨S, P, m, hSP, hm, rfl, rfl, rfl⟩ := hrel
    have hS := Crc.steps_lt S (x := 2 ^ 31) (by decide)
    have hP := Crc.steps_lt P (x := 2 ^ 31) (by decide)
    have hmm : m = 2 * (m / 2) + m % 2 := by omega
    by_cases h0 : m = 0
    · subst h0
      have HF : Hid (Crc.mulMod a (Crc.steps S (2 ^ 31)) = Crc.steps (8 * n) a) := by
        show Crc.mulMod a (Crc.steps S (2 ^ 31)) = Crc.steps (8 * n) a
        rw [Crc.mulMod_pow _ _ ha, ← hSP, Nat.mul_zero, Nat.add_zero]
      have HX : Hid _ := xor32 _ _ (Crc.steps_lt (8 * n) ha) hb
      clear hSP hmm
      generalize Crc.steps S (2 ^ 31) = q at *
      go_wp2_with (go_at_call 32; refine Calls.mono (mulMod_any _ _ _ ha hS) ?_; rintro e w' ⟨rfl, rfl⟩; rw [HF.out])
      go_ret
      exact ⟨ret_int HX.out, rfl⟩
    · have h0' : ((m : Int) != 0) = true := by rw [bne_iff_ne]; omega
      have hand := and1_64' m hm
      have HPP : Hid (Crc.mulMod (Crc.steps P (2 ^ 31)) (Crc.steps P (2 ^ 31)) = Crc.steps (P + P) (2 ^ 31)) := mulMod_steps P P
      have HSP : Hid (Crc.mulMod (Crc.steps S (2 ^ 31)) (Crc.steps P (2 ^ 31)) = Crc.steps (S + P) (2 ^ 31)) := mulMod_steps S P
      by_cases hodd : m % 2 = 1
      · rw [hodd] at hand
        have HE : Hid (S + P + (P + P) * (m / 2) = 8 * n) := by
          show S + P + (P + P) * (m / 2) = 8 * n
          rw [← hSP]
          have e : P * m = P * (2 * (m / 2) + 1) := by rw [← show m = 2 * (m / 2) + 1 by omega]
          rw [e, Nat.mul_add, Nat.mul_one, Nat.add_mul, ← Nat.mul_assoc, Nat.mul_comm P 2, Nat.mul_assoc, Nat.two_mul]; omega
        clear hSP hmm
        generalize hq : Crc.steps S (2 ^ 31) = q at *
        generalize hr : Crc.steps P (2 ^ 31) = r at *
        clear hq hr
        go_wp2_with fail
        refine Calls.mono (mulMod_any _ _ _ hS hP) ?_
        rintro e w' ⟨rfl, hw⟩
        have hw := hw.symm; subst hw
        go_wp2_with fail
        refine Calls.mono (mulMod_any _ _ _ hP hP) ?_
        rintro e w' ⟨rfl, hw⟩
        have hw := hw.symm; subst hw
        rw [HSP.out, HPP.out]
        go_wp2
        go_round
        case rel => exact ⟨S + P, P + P, m / 2, HE.out, by omega, rfl, rfl, by go_num⟩
        case measure => simp [intOf]; omega
      · have hev : m % 2 = 0 := by omega
        rw [hev] at hand
        have HE : Hid (S + (P + P) * (m / 2) = 8 * n) := by
          show S + (P + P) * (m / 2) = 8 * n
          rw [← hSP]
          have e : P * m = P * (2 * (m / 2)) := by rw [← show m = 2 * (m / 2) by omega]
          rw [e, Nat.add_mul, ← Nat.mul_assoc, Nat.mul_comm P 2, Nat.mul_assoc, Nat.two_mul]
        clear hSP hmm hodd hev
        generalize hq : Crc.steps S (2 ^ 31) = q at *
        generalize hr : Crc.steps P (2 ^ 31) = r at *
        have HQ : Hid _ := hq
        clear hq hr
        go_wp2_with fail
        refine Calls.mono (mulMod_any _ _ _ hP hP) ?_
        rintro e w' ⟨rfl, hw⟩
        have hw := hw.symm; subst hw
        rw [HPP.out]
        go_wp2
        go_round
        case rel => exact ⟨S, P + P, m / 2, HE.out, by omega, by rw [HQ.out], rfl, by go_num⟩
        case measure => simp [intOf]; omega

set_option maxRecDepth 100000 in
set_option maxHeartbeats 1000000 in
theorem modelCrc_any (bs : List Nat) (cap : Nat) (ao : Option Addr) (w : World) (hlen : bs.length ≤ 9223372036854775807) (hrow : BRow w ao bs) :
    Calls Try.prog 13 #[.slice ao bs.length cap] w fun e w' => e = .returned (.int .u32 ((Crc.crc bs : Nat) : Int)) ∧ w' = w := by
  have HF : Hid (Crc.crc bs = Crc.run Crc.ones bs ^^^ Crc.ones) := by
    show Crc.crc bs = _
    unfold Crc.crc Crc.upd
    rw [Nat.xor_zero]
  go_enter Try.func13, Try.ntmps13
  go_wp2
  go_loop [3, 11] (fun r i => ∃ k : Nat, k ≤ bs.length ∧ i = .int .i64 k ∧ r = .int .u32 ((Crc.run Crc.ones (bs.take k) : Nat) : Int)) (fun _ i => bs.length - (intOf i).toNat)
  case atStart => exact ⟨0, Nat.zero_le _, rfl, rfl⟩
  case round =>
    obtain ⟨k, hk, rfl, rfl⟩ := hrel
    have hr : Crc.run Crc.ones (bs.take k) < 4294967296 := Crc.run_lt _ (by decide) (fun x hx => hrow.lt x (List.mem_of_mem_take hx))
    by_cases hlt : k < bs.length
    · obtain ⟨b, o, rfl, hcell⟩ := hrow.row (ne_nil_of_lt hlt)
      have hck := hcell k hlt
      have hxk := hrow.byte hlt
      have HS : Hid (Crc.run Crc.ones (bs.take (k + 1)) = Crc.bitsIn (bs.getD k 0) 8 (Crc.run Crc.ones (bs.take k))) := by
        show _ = _
        rw [List.take_succ_eq_append_getElem hlt, Crc.run_snoc, Crc.bitsIn_byte _ _ hxk]
        simp [List.getD_eq_getElem?_getD, hlt]
      have hlt' : (k : Int) < (bs.length : Int) := by omega
      clear hcell hrow
      generalize Crc.run Crc.ones (bs.take k) = r at *
      generalize bs.getD k 0 = x at *
      go_wp2
      go_loop [3, 6] (fun q i => ∃ j : Nat, j ≤ 8 ∧ i = .int .i64 j ∧ q = .int .u32 ((Crc.bitsIn x j r : Nat) : Int)) (fun _ i => 8 - (intOf i).toNat)
      case atStart => exact ⟨0, by omega, rfl, rfl⟩
      case round =>
        obtain ⟨j, hj, rfl, rfl⟩ := hrel
        have hq := Crc.bitsIn_lt x j r hr hxk
        by_cases hj8 : j < 8
        · have hj8' : (j : Int) < 8 := by omega
          have HB : Hid (Crc.bitsIn x (j + 1) r = Crc.bitIn (Crc.bitsIn x j r) x j) := rfl
          generalize Crc.bitsIn x j r = q at *
          have hin := and1_32 x j hxk
          have hout := and1 q hq
          have HI : Hid (Crc.bitIn q x j = if x / 2 ^ j % 2 ≠ q % 2 then q / 2 ^^^ Crc.poly else q / 2) := rfl
          by_cases hd : x / 2 ^ j % 2 = q % 2
          · have HI2 : Hid (Crc.bitsIn x (j + 1) r = q / 2) := by
              show _ = _
              rw [HB.out, HI.out, if_neg (by omega)]
            rw [hd] at hin
            clear hd HI HB
            generalize q % 2 = v at *
            go_wp2
            go_round
            case rel => exact ⟨j + 1, by omega, by go_num, by rw [HI2.out]; go_num⟩
            case measure => simp [intOf]; omega
          · have HI2 : Hid (Crc.bitsIn x (j + 1) r = q / 2 ^^^ Crc.poly) := by
              show _ = _
              rw [HB.out, HI.out, if_pos hd]
            have hne : (((x / 2 ^ j % 2 : Nat) : Int) != ((q % 2 : Nat) : Int)) = true := by rw [bne_iff_ne]; omega
            have HX : Hid (bits .xor .u32 ((q : Int) / 2) 3988292384 = ((q / 2 ^^^ Crc.poly : Nat) : Int)) := by
              show _ = _
              rw [show ((q : Int) / 2) = ((q / 2 : Nat) : Int) by omega, show (3988292384 : Int) = ((Crc.poly : Nat) : Int) from rfl, xor32 _ _ (by omega) (by decide)]
            clear hd HI HB
            generalize x / 2 ^ j % 2 = u at *
            generalize q % 2 = v at *
            go_wp2
            go_round
            case rel => exact ⟨j + 1, by omega, by go_num, by rw [HI2.out]; exact congrArg _ HX.out⟩
            case measure => simp [intOf]; omega
        · have : j = 8 := by omega
          subst this
          have hj8' : ¬ ((8 : Nat) : Int) < 8 := by omega
          go_wp2
          go_round
          case rel => exact ⟨k + 1, by omega, by go_num, by rw [HS.out]⟩
          case measure => simp [intOf]; omega
    · have hkk : k = bs.length := by omega
      subst hkk
      rw [List.take_length] at hr ⊢
      have HX : Hid (bits .xor .u32 ((Crc.run Crc.ones bs : Nat) : Int) 4294967295 = ((Crc.run Crc.ones bs ^^^ Crc.ones : Nat) : Int)) := by
        show _ = _
        rw [show (4294967295 : Int) = ((Crc.ones : Nat) : Int) from rfl, xor32 _ _ hr (by decide)]
      generalize Crc.run Crc.ones bs = q at *
      clear hrow
      go_wp2
      go_ret
      exact ⟨ret_int (by rw [HF.out]; exact HX.out), rfl⟩

end Go.Proofs.Qxb6500698a
