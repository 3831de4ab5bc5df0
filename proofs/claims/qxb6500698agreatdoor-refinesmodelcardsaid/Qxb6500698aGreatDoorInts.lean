/-
  LITTLE-ENDIAN INTEGERS: plain digits; the walks of ValidWidth, Fits, checkField, GoodWidth.
-/
import Derived.Test.Qxb6500698aGreatDoorSmall
import Derived.Test.Qxb6500698aGreatDoorErrs
import Derived.BigQuiet
namespace Go.Proofs.Qxb6500698aGreatDoor
open Go.RowKit

/-- The width is one of the four. -/
def okW (n : Int) : Bool := n == 1 || n == 2 || n == 4 || n == 8

theorem okW_nat {n : Int} (h : okW n = true) : ∃ k : Nat, n = k ∧ (k = 1 ∨ k = 2 ∨ k = 4 ∨ k = 8) := by
  unfold okW at h
  simp only [Bool.or_eq_true, beq_iff_eq] at h
  rcases h with ((h | h) | h) | h
  · exact ⟨1, h, by omega⟩
  · exact ⟨2, h, by omega⟩
  · exact ⟨4, h, by omega⟩
  · exact ⟨8, h, by omega⟩

/-- v in base 256, lowest digit first, k digits. -/
def dig (v : Nat) : Nat → List Nat
  | 0 => []
  | k + 1 => v % 256 :: dig (v / 256) k

theorem dig_length (k v : Nat) : (dig v k).length = k := by
  induction k generalizing v with
  | zero => rfl
  | succ k ih => simp [dig, ih]
theorem dig_lt (k v : Nat) : ∀ x ∈ dig v k, x < 256 := by
  induction k generalizing v with
  | zero => intro x hx; cases hx
  | succ k ih =>
    intro x hx
    rcases List.mem_cons.1 hx with rfl | h
    · omega
    · exact ih _ x h

set_option maxHeartbeats 400000 in
theorem validWidth_any (n : Int) (w : World) (_h1 : -9223372036854775808 ≤ n) (_h2 : n ≤ 9223372036854775807) :
    Calls Tryz.prog 54 #[.int .i64 n] w fun r w' => r = .returned (.bool (okW n)) ∧ w' = w := by
  unfold okW
  by_cases e1 : n = 1
  · subst e1
    go_enter Tryz.func54, Tryz.ntmps54
    go_wp2
    go_ret
    exact ⟨rfl, rfl⟩
  by_cases e2 : n = 2
  · subst e2
    go_enter Tryz.func54, Tryz.ntmps54
    go_wp2
    go_ret
    exact ⟨rfl, rfl⟩
  by_cases e4 : n = 4
  · subst e4
    go_enter Tryz.func54, Tryz.ntmps54
    go_wp2
    go_ret
    exact ⟨rfl, rfl⟩
  have b1 : (n == 1) = false := by simpa using e1
  have b2 : (n == 2) = false := by simpa using e2
  have b4 : (n == 4) = false := by simpa using e4
  rw [b1, b2, b4]
  go_enter Tryz.func54, Tryz.ntmps54
  go_wp2
  go_ret
  exact ⟨rfl, rfl⟩

theorem shr_zero (v m : Nat) (hm : 0 < m) : (((v : Int) / (m : Int)) == 0) = decide (v < m) := by
  rw [Bool.eq_iff_iff, beq_iff_eq, decide_eq_true_eq, ← Int.natCast_ediv]
  have := @Nat.div_eq_zero_iff v m
  omega

set_option maxHeartbeats 400000 in
theorem fits_any (v k : Nat) (w : World) (hk : k = 1 ∨ k = 2 ∨ k = 4 ∨ k = 8) (hv : v < 18446744073709551616) :
    Calls Tryz.prog 55 #[.int .u64 v, .int .i64 k] w fun r w' => r = .returned (.bool (decide (v < 256 ^ k))) ∧ w' = w := by
  have hv' : (v : Int) < 18446744073709551616 := by omega
  rcases hk with rfl | rfl | rfl | rfl
  · have H : Hid ((((v : Int) / 256) == 0) = decide (v < 256 ^ 1)) := shr_zero v 256 (by decide)
    go_enter Tryz.func55, Tryz.ntmps55
    go_wp2
    go_ret
    exact ⟨ret_bool H.out, rfl⟩
  · have H : Hid ((((v : Int) / 65536) == 0) = decide (v < 256 ^ 2)) := shr_zero v 65536 (by decide)
    go_enter Tryz.func55, Tryz.ntmps55
    go_wp2
    go_ret
    exact ⟨ret_bool H.out, rfl⟩
  · have H : Hid ((((v : Int) / 4294967296) == 0) = decide (v < 256 ^ 4)) := shr_zero v 4294967296 (by decide)
    go_enter Tryz.func55, Tryz.ntmps55
    go_wp2
    go_ret
    exact ⟨ret_bool H.out, rfl⟩
  · have h : decide (v < 256 ^ 8) = true := by simp; omega
    rw [h]
    go_enter Tryz.func55, Tryz.ntmps55
    go_wp2
    go_ret
    exact ⟨rfl, rfl⟩

/-- What checkField answers. -/
def cf (v : Nat) (n : Int) : Option Nat := if okW n then (if v < 256 ^ n.toNat then none else some 2) else some 1
theorem cf_lt (v : Nat) (n : Int) : ∀ i, cf v n = some i → i < 6 := by
  intro i h
  unfold cf at h
  split at h
  · split at h
    · cases h
    · cases h; omega
  · cases h; omega

set_option maxHeartbeats 400000 in
theorem checkField_any (v : Nat) (n : Int) (e : Nat → Addr) (w : World) (E : Errs w e) (h1 : -9223372036854775808 ≤ n) (h2 : n ≤ 9223372036854775807) (hv : v < 18446744073709551616) :
    Calls Tryz.prog 83 #[.int .u64 v, .int .i64 n] w fun r w' => r = .returned (errV e (cf v n)) ∧ w' = w := by
  have c1 := E.cell 1 (by omega)
  have c2 := E.cell 2 (by omega)
  have HV : Hid _ := validWidth_any n w h1 h2
  clear E
  cases ho : okW n with
  | false =>
    have HC : Hid (cf v n = some 1) := by show cf v n = _; unfold cf; rw [ho]; rfl
    rw [ho] at HV
    go_enter Tryz.func83, Tryz.ntmps83
    go_wp2_with fail
    refine Calls.mono HV.out ?_
    rintro r w' ⟨rfl, hw⟩
    have hw := hw.symm; subst hw
    go_wp2
    go_ret
    exact ⟨by rw [HC.out]; rfl, rfl⟩
  | true =>
    rw [ho] at HV
    obtain ⟨k, rfl, hk⟩ := okW_nat ho
    have HF : Hid _ := fits_any v k w hk hv
    by_cases hf : v < 256 ^ k
    · rw [decide_eq_true hf] at HF
      have HC : Hid (cf v k = none) := by show cf v k = _; unfold cf; rw [ho, Int.toNat_natCast, if_pos rfl, if_pos hf]
      clear hf
      go_enter Tryz.func83, Tryz.ntmps83
      go_wp2_with fail
      refine Calls.mono HV.out ?_
      rintro r w' ⟨rfl, hw⟩
      have hw := hw.symm; subst hw
      go_wp2_with fail
      refine Calls.mono HF.out ?_
      rintro r w' ⟨rfl, hw⟩
      have hw := hw.symm; subst hw
      go_wp2
      go_ret
      exact ⟨by rw [HC.out]; rfl, rfl⟩
    · rw [decide_eq_false hf] at HF
      have HC : Hid (cf v k = some 2) := by show cf v k = _; unfold cf; rw [ho, Int.toNat_natCast, if_pos rfl, if_neg hf]
      clear hf
      go_enter Tryz.func83, Tryz.ntmps83
      go_wp2_with fail
      refine Calls.mono HV.out ?_
      rintro r w' ⟨rfl, hw⟩
      have hw := hw.symm; subst hw
      go_wp2_with fail
      refine Calls.mono HF.out ?_
      rintro r w' ⟨rfl, hw⟩
      have hw := hw.symm; subst hw
      go_wp2
      go_ret
      exact ⟨by rw [HC.out]; rfl, rfl⟩

set_option maxHeartbeats 1000000 in
theorem goodWidth_any (n : Int) (w : World) (_h1 : -9223372036854775808 ≤ n) (_h2 : n ≤ 9223372036854775807) :
    Calls Tryz.prog 46 #[.int .i64 n] w fun r w' => r = .returned (.bool (okW n)) ∧ Below w.heap.size w w' := by
  go_enter Tryz.func46, Tryz.ntmps46
  go_wp2
  go_loop [7] (fun i => ∃ k : Nat, k ≤ 4 ∧ i = .int .i64 k ∧ ∀ j, j < k → n ≠ (([1, 2, 4, 8] : List Int).getD j 0)) (fun i => 4 - (intOf i).toNat)
  case atStart => exact ⟨0, by omega, rfl, fun j h => by omega⟩
  case round =>
    obtain ⟨k, hk, rfl, hd⟩ := hrel
    match k, hk, hd with
    | 0, _, hd =>
      by_cases e : n = 1
      · subst e
        go_wp2
        go_ret
        exact ⟨rfl, (Below.refl _ _).alloc (Nat.le_refl _) _⟩
      · have hb : (n == 1) = false := by simpa using e
        go_wp2
        go_round
        case rel => exact ⟨1, by omega, rfl, by
          intro j hj
          rcases Nat.lt_or_ge j 0 with h | h
          · exact hd j h
          · have : j = 0 := by omega
            subst this; exact e⟩
        case measure => simp [intOf]
    | 1, _, hd =>
      by_cases e : n = 2
      · subst e
        go_wp2
        go_ret
        exact ⟨rfl, (Below.refl _ _).alloc (Nat.le_refl _) _⟩
      · have hb : (n == 2) = false := by simpa using e
        go_wp2
        go_round
        case rel => exact ⟨2, by omega, rfl, by
          intro j hj
          rcases Nat.lt_or_ge j 1 with h | h
          · exact hd j h
          · have : j = 1 := by omega
            subst this; exact e⟩
        case measure => simp [intOf]
    | 2, _, hd =>
      by_cases e : n = 4
      · subst e
        go_wp2
        go_ret
        exact ⟨rfl, (Below.refl _ _).alloc (Nat.le_refl _) _⟩
      · have hb : (n == 4) = false := by simpa using e
        go_wp2
        go_round
        case rel => exact ⟨3, by omega, rfl, by
          intro j hj
          rcases Nat.lt_or_ge j 2 with h | h
          · exact hd j h
          · have : j = 2 := by omega
            subst this; exact e⟩
        case measure => simp [intOf]
    | 3, _, hd =>
      by_cases e : n = 8
      · subst e
        go_wp2
        go_ret
        exact ⟨rfl, (Below.refl _ _).alloc (Nat.le_refl _) _⟩
      · have hb : (n == 8) = false := by simpa using e
        go_wp2
        go_round
        case rel => exact ⟨4, by omega, rfl, by
          intro j hj
          rcases Nat.lt_or_ge j 3 with h | h
          · exact hd j h
          · have : j = 3 := by omega
            subst this; exact e⟩
        case measure => simp [intOf]
    | 4, _, hd =>
      have d0 := hd 0 (by omega)
      have d1 := hd 1 (by omega)
      have d2 := hd 2 (by omega)
      have d3 := hd 3 (by omega)
      have HO : Hid (okW n = false) := by
        show okW n = false
        simp at d0 d1 d2 d3
        simp [okW, d0, d1, d2, d3]
      clear hd d0 d1 d2 d3
      go_wp2
      go_ret
      exact ⟨ret_bool HO.out.symm, (Below.refl _ _).alloc (Nat.le_refl _) _⟩
    | k + 5, hk, _ => omega

end Go.Proofs.Qxb6500698aGreatDoor
