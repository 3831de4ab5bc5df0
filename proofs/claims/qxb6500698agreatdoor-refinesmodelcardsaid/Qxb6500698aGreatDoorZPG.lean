/-
  THE WALKS OF put, get.
-/
import Derived.Test.Qxb6500698aGreatDoorZA
namespace Go.Proofs.Qxb6500698aGreatDoor
open Go.RowKit

theorem cf_none {x k : Nat} (hk : okW (k : Int) = true) (hx : x < 256 ^ k) : cf x (k : Int) = none := by unfold cf; rw [hk, if_pos rfl, Int.toNat_natCast, if_pos hx]
theorem zput_w {O : List Nat} {lim : Nat} {oe : Option Nat} {x k : Nat} (hk : okW (k : Int) = true) (hx : x < 256 ^ k) : zput O lim oe x (k : Int) = wwrite O lim oe (dig x k) := by
  unfold zput
  cases oe with
  | none => rw [if_pos rfl, cf_none hk hx]; rfl
  | some i => rw [if_neg (by simp), wwrite_err]

theorem zuint_lt {bs : List Nat} {off : Nat} {ie : Option Nat} {k : Nat} (hb : ∀ x ∈ bs, x < 256) (hk : okW (k : Int) = true) : (zuint bs off ie (k : Int)).1 < 256 ^ k := by
  rw [zuint_w hk]
  show undig (znext bs off ie (k : Int)).1 < 256 ^ k
  have hsub : ∀ x ∈ (znext bs off ie (k : Int)).1, x < 256 := fun x hx => by
    unfold znext at hx
    split at hx
    · split at hx
      · cases hx
      · split at hx
        · cases hx
        · exact hb x (List.mem_of_mem_drop (List.mem_of_mem_take hx))
    · cases hx
  have h1 := undig_lt _ hsub
  rcases znext_cases (bs := bs) (off := off) (ie := ie) (n := (k : Int)) with h2 | ⟨_, h2⟩
  · rw [h2]; exact Nat.pow_pos (by omega)
  · have e : (znext bs off ie (k : Int)).1.length = k := by omega
    rw [e] at h1; exact h1
section
variable {B : Nat} {w : World} {e : Nat → Addr} {l : Rl} {s : ZSt}
/-- What put leaves. -/
def PutP (B : Nat) (w : World) (e : Nat → Addr) (l : Rl) (s : ZSt) (x : Nat) (n : Int) (r : Ending) (w' : World) : Prop := r = .returned (.tuple #[]) ∧ ∃ v', RSt B w w' e l { l with v := v' } { s with O := (zput s.O s.lim s.oe x n).1, oe := (zput s.O s.lim s.oe x n).2 }

set_option maxRecDepth 100000 in
set_option maxHeartbeats 1000000 in
theorem put_w (x : Nat) (n : Int) (hx : x < 18446744073709551616) (hn1 : -9223372036854775808 ≤ n) (hn2 : n ≤ 9223372036854775807) (E : EB B w e) (h : ZR B w e l s) (hBw : B ≤ w.heap.size) (hok : okW n = false) :
    Calls Tryz.prog 24 #[.pointer (some ⟨l.d, 0, none⟩), .int .u64 (x : Int), .int .i64 n] w (PutP B w e l s x n) := by
  have m7 := h.m7
  have HV : Hid (Calls Tryz.prog 54 #[.int .i64 n] w fun r w' => r = .returned (.bool (okW n)) ∧ w' = w) := validWidth_any n w hn1 hn2
  have HU : Hid (Calls Tryz.prog 56 #[.pointer (some ⟨l.wb, 0, none⟩), .int .u64 (x : Int), .int .i64 n] w (PutP B w e l s x n)) := by
    refine (wuint_any x n hx hn1 hn2 E h.wr hBw).mono ?_
    rintro r w' ⟨h1, h2⟩
    exact ⟨h1, h.writer h2⟩
  rw [hok] at HV
  clear h E
  go_enter Tryz.func24, Tryz.ntmps24
  go_wp2_with fail
  refine Calls.mono HV.out ?_
  rintro r w' ⟨rfl, hw⟩
  rw [hw]
  clear hw w' HV
  go_wp2_with fail
  refine Calls.mono HU.out ?_
  rintro r w' ⟨rfl, hP⟩
  have HF : Hid (PutP B w e l s x n (.returned (.tuple #[])) w') := ⟨rfl, hP⟩
  clear hP HU
  go_wp2
  ((try simp only [Exit.inBlock, Exit.then]); refine bodyPost_ret (results_none rfl _ _ _) rfl ?_)
  exact HF.out

set_option maxRecDepth 100000 in
set_option maxHeartbeats 1000000 in
theorem put_f (x : Nat) (n : Int) (hx : x < 18446744073709551616) (hn1 : -9223372036854775808 ≤ n) (hn2 : n ≤ 9223372036854775807) (E : EB B w e) (h : ZR B w e l s) (hBw : B ≤ w.heap.size) (hok : okW n = true) (hfit : ¬ x < 256 ^ n.toNat) :
    Calls Tryz.prog 24 #[.pointer (some ⟨l.d, 0, none⟩), .int .u64 (x : Int), .int .i64 n] w (PutP B w e l s x n) := by
  have m7 := h.m7
  have HV : Hid (Calls Tryz.prog 54 #[.int .i64 n] w fun r w' => r = .returned (.bool (okW n)) ∧ w' = w) := validWidth_any n w hn1 hn2
  have HU : Hid (Calls Tryz.prog 56 #[.pointer (some ⟨l.wb, 0, none⟩), .int .u64 (x : Int), .int .i64 n] w (PutP B w e l s x n)) := by
    refine (wuint_any x n hx hn1 hn2 E h.wr hBw).mono ?_
    rintro r w' ⟨h1, h2⟩
    exact ⟨h1, h.writer h2⟩
  rw [hok] at HV
  obtain ⟨k, rfl, hk⟩ := okW_nat hok
  have HF0 : Hid (Calls Tryz.prog 55 #[.int .u64 (x : Int), .int .i64 (k : Int)] w fun r w' => r = .returned (.bool false) ∧ w' = w) := by
    have := fits_any x k w hk hx
    rw [decide_eq_false (by rw [Int.toNat_natCast] at hfit; exact hfit)] at this
    exact this
  clear hfit
  clear h E
  go_enter Tryz.func24, Tryz.ntmps24
  go_wp2_with fail
  refine Calls.mono HV.out ?_
  rintro r w' ⟨rfl, hw⟩
  rw [hw]
  clear hw w' HV
  go_wp2_with fail
  refine Calls.mono HF0.out ?_
  rintro r w' ⟨rfl, hw⟩
  rw [hw]
  clear hw w' HF0
  go_wp2_with fail
  refine Calls.mono HU.out ?_
  rintro r w' ⟨rfl, hP⟩
  have HF : Hid (PutP B w e l s x (k : Int) (.returned (.tuple #[])) w') := ⟨rfl, hP⟩
  clear hP HU
  go_wp2
  ((try simp only [Exit.inBlock, Exit.then]); refine bodyPost_ret (results_none rfl _ _ _) rfl ?_)
  exact HF.out

set_option maxRecDepth 100000 in
set_option maxHeartbeats 1000000 in
theorem put_e (x : Nat) (n : Int) (hx : x < 18446744073709551616) (hn1 : -9223372036854775808 ≤ n) (hn2 : n ≤ 9223372036854775807) (E : EB B w e) (h : ZR B w e l s) (hBw : B ≤ w.heap.size) (hok : okW n = true) (hfit : x < 256 ^ n.toNat) (hev : x % 2 = 0) :
    Calls Tryz.prog 24 #[.pointer (some ⟨l.d, 0, none⟩), .int .u64 (x : Int), .int .i64 n] w (PutP B w e l s x n) := by
  have m7 := h.m7
  have HV : Hid (Calls Tryz.prog 54 #[.int .i64 n] w fun r w' => r = .returned (.bool (okW n)) ∧ w' = w) := validWidth_any n w hn1 hn2
  have HU : Hid (Calls Tryz.prog 56 #[.pointer (some ⟨l.wb, 0, none⟩), .int .u64 (x : Int), .int .i64 n] w (PutP B w e l s x n)) := by
    refine (wuint_any x n hx hn1 hn2 E h.wr hBw).mono ?_
    rintro r w' ⟨h1, h2⟩
    exact ⟨h1, h.writer h2⟩
  rw [hok] at HV
  obtain ⟨k, rfl, hk⟩ := okW_nat hok
  have HF0 : Hid (Calls Tryz.prog 55 #[.int .u64 (x : Int), .int .i64 (k : Int)] w fun r w' => r = .returned (.bool true) ∧ w' = w) := by
    have := fits_any x k w hk hx
    rw [decide_eq_true (by rw [Int.toNat_natCast] at hfit; exact hfit)] at this
    exact this
  have zv : (x : Int).tmod 2 = 0 := by rw [Int.tmod_eq_emod_of_nonneg (by omega)]; omega
  clear hfit
  clear h E
  go_enter Tryz.func24, Tryz.ntmps24
  go_wp2_with fail
  refine Calls.mono HV.out ?_
  rintro r w' ⟨rfl, hw⟩
  rw [hw]
  clear hw w' HV
  go_wp2_with fail
  refine Calls.mono HF0.out ?_
  rintro r w' ⟨rfl, hw⟩
  rw [hw]
  clear hw w' HF0
  go_wp2_with fail
  refine Calls.mono HU.out ?_
  rintro r w' ⟨rfl, hP⟩
  have HF : Hid (PutP B w e l s x (k : Int) (.returned (.tuple #[])) w') := ⟨rfl, hP⟩
  clear hP HU
  go_wp2
  ((try simp only [Exit.inBlock, Exit.then]); refine bodyPost_ret (results_none rfl _ _ _) rfl ?_)
  exact HF.out

set_option maxRecDepth 100000 in
set_option maxHeartbeats 1000000 in
theorem put_o1 (x : Nat) (hx : x < 256) (E : EB B w e) (h : ZR B w e l s) (hBw : B ≤ w.heap.size) (hod : x % 2 = 1) :
    Calls Tryz.prog 24 #[.pointer (some ⟨l.d, 0, none⟩), .int .u64 (x : Int), .int .i64 1] w (PutP B w e l s x 1) := by
  have m7 := h.m7
  have HV : Hid (Calls Tryz.prog 54 #[.int .i64 1] w fun r w' => r = .returned (.bool true) ∧ w' = w) := validWidth_any 1 w (by omega) (by omega)
  have HF0 : Hid (Calls Tryz.prog 55 #[.int .u64 (x : Int), .int .i64 1] w fun r w' => r = .returned (.bool true) ∧ w' = w) := by
    have := fits_any x 1 w (by omega) (by omega)
    rw [decide_eq_true (show x < 256 ^ 1 by simpa using hx)] at this
    exact this
  have HU : Hid (Calls Tryz.prog 57 #[.pointer (some ⟨l.wb, 0, none⟩), .int .u8 (x : Int)] w (PutP B w e l s x 1)) := by
    refine (wu8_any x hx E.E h.wr hBw).mono ?_
    rintro r w' ⟨h1, h2⟩
    refine ⟨h1, ?_⟩
    have hz := zput_w (O := s.O) (lim := s.lim) (oe := s.oe) (x := x) (k := 1) rfl (by simpa using hx)
    rw [show (((1 : Nat) : Int)) = 1 from rfl] at hz
    rw [hz]
    have hd : dig x 1 = [x] := by simp only [dig]; congr 1; omega
    rw [hd]
    exact h.writer h2
  have zv : (x : Int).tmod 2 = 1 := by rw [Int.tmod_eq_emod_of_nonneg (by omega)]; omega
  have hwx : IntKind.u8.wrap (x : Int) = (x : Int) := by simp [IntKind.wrap, IntKind.bits, IntKind.signed]; omega
  clear h E
  go_enter Tryz.func24, Tryz.ntmps24
  go_wp2_with fail
  refine Calls.mono HV.out ?_
  rintro r w' ⟨rfl, hw⟩
  rw [hw]
  clear hw w' HV
  go_wp2_with fail
  refine Calls.mono HF0.out ?_
  rintro r w' ⟨rfl, hw⟩
  rw [hw]
  clear hw w' HF0
  go_wp2_with fail
  refine Calls.mono HU.out ?_
  rintro r w' ⟨rfl, hP⟩
  have HF : Hid (PutP B w e l s x 1 (.returned (.tuple #[])) w') := ⟨rfl, hP⟩
  clear hP HU
  go_wp2
  go_end0
  exact HF.out

set_option maxRecDepth 100000 in
set_option maxHeartbeats 1000000 in
theorem put_o2 (x : Nat) (hx : x < 65536) (E : EB B w e) (h : ZR B w e l s) (hBw : B ≤ w.heap.size) (hod : x % 2 = 1) :
    Calls Tryz.prog 24 #[.pointer (some ⟨l.d, 0, none⟩), .int .u64 (x : Int), .int .i64 2] w (PutP B w e l s x 2) := by
  have m7 := h.m7
  have HV : Hid (Calls Tryz.prog 54 #[.int .i64 2] w fun r w' => r = .returned (.bool true) ∧ w' = w) := validWidth_any 2 w (by omega) (by omega)
  have HF0 : Hid (Calls Tryz.prog 55 #[.int .u64 (x : Int), .int .i64 2] w fun r w' => r = .returned (.bool true) ∧ w' = w) := by
    have := fits_any x 2 w (by omega) (by omega)
    rw [decide_eq_true (show x < 256 ^ 2 by simpa using hx)] at this
    exact this
  have HU : Hid (Calls Tryz.prog 58 #[.pointer (some ⟨l.wb, 0, none⟩), .int .u16 (x : Int)] w (PutP B w e l s x 2)) := by
    refine (wu16_any E.E h.wr hBw x hx).mono ?_
    rintro r w' ⟨h1, h2⟩
    refine ⟨h1, ?_⟩
    have hz := zput_w (O := s.O) (lim := s.lim) (oe := s.oe) (x := x) (k := 2) rfl (by simpa using hx)
    rw [show (((2 : Nat) : Int)) = 2 from rfl] at hz
    rw [hz]
    
    exact h.writer h2
  have zv : (x : Int).tmod 2 = 1 := by rw [Int.tmod_eq_emod_of_nonneg (by omega)]; omega
  have hwx : IntKind.u16.wrap (x : Int) = (x : Int) := by simp [IntKind.wrap, IntKind.bits, IntKind.signed]; omega
  clear h E
  go_enter Tryz.func24, Tryz.ntmps24
  go_wp2_with fail
  refine Calls.mono HV.out ?_
  rintro r w' ⟨rfl, hw⟩
  rw [hw]
  clear hw w' HV
  go_wp2_with fail
  refine Calls.mono HF0.out ?_
  rintro r w' ⟨rfl, hw⟩
  rw [hw]
  clear hw w' HF0
  go_wp2_with fail
  refine Calls.mono HU.out ?_
  rintro r w' ⟨rfl, hP⟩
  have HF : Hid (PutP B w e l s x 2 (.returned (.tuple #[])) w') := ⟨rfl, hP⟩
  clear hP HU
  go_wp2
  go_end0
  exact HF.out

set_option maxRecDepth 100000 in
set_option maxHeartbeats 1000000 in
theorem put_o4 (x : Nat) (hx : x < 4294967296) (E : EB B w e) (h : ZR B w e l s) (hBw : B ≤ w.heap.size) (hod : x % 2 = 1) :
    Calls Tryz.prog 24 #[.pointer (some ⟨l.d, 0, none⟩), .int .u64 (x : Int), .int .i64 4] w (PutP B w e l s x 4) := by
  have m7 := h.m7
  have HV : Hid (Calls Tryz.prog 54 #[.int .i64 4] w fun r w' => r = .returned (.bool true) ∧ w' = w) := validWidth_any 4 w (by omega) (by omega)
  have HF0 : Hid (Calls Tryz.prog 55 #[.int .u64 (x : Int), .int .i64 4] w fun r w' => r = .returned (.bool true) ∧ w' = w) := by
    have := fits_any x 4 w (by omega) (by omega)
    rw [decide_eq_true (show x < 256 ^ 4 by simpa using hx)] at this
    exact this
  have HU : Hid (Calls Tryz.prog 59 #[.pointer (some ⟨l.wb, 0, none⟩), .int .u32 (x : Int)] w (PutP B w e l s x 4)) := by
    refine (wu32_any E.E h.wr hBw x hx).mono ?_
    rintro r w' ⟨h1, h2⟩
    refine ⟨h1, ?_⟩
    have hz := zput_w (O := s.O) (lim := s.lim) (oe := s.oe) (x := x) (k := 4) rfl (by simpa using hx)
    rw [show (((4 : Nat) : Int)) = 4 from rfl] at hz
    rw [hz]
    
    exact h.writer h2
  have zv : (x : Int).tmod 2 = 1 := by rw [Int.tmod_eq_emod_of_nonneg (by omega)]; omega
  have hwx : IntKind.u32.wrap (x : Int) = (x : Int) := by simp [IntKind.wrap, IntKind.bits, IntKind.signed]; omega
  clear h E
  go_enter Tryz.func24, Tryz.ntmps24
  go_wp2_with fail
  refine Calls.mono HV.out ?_
  rintro r w' ⟨rfl, hw⟩
  rw [hw]
  clear hw w' HV
  go_wp2_with fail
  refine Calls.mono HF0.out ?_
  rintro r w' ⟨rfl, hw⟩
  rw [hw]
  clear hw w' HF0
  go_wp2_with fail
  refine Calls.mono HU.out ?_
  rintro r w' ⟨rfl, hP⟩
  have HF : Hid (PutP B w e l s x 4 (.returned (.tuple #[])) w') := ⟨rfl, hP⟩
  clear hP HU
  go_wp2
  go_end0
  exact HF.out

set_option maxRecDepth 100000 in
set_option maxHeartbeats 1000000 in
theorem put_o8 (x : Nat) (hx : x < 18446744073709551616) (E : EB B w e) (h : ZR B w e l s) (hBw : B ≤ w.heap.size) (hod : x % 2 = 1) :
    Calls Tryz.prog 24 #[.pointer (some ⟨l.d, 0, none⟩), .int .u64 (x : Int), .int .i64 8] w (PutP B w e l s x 8) := by
  have m7 := h.m7
  have HV : Hid (Calls Tryz.prog 54 #[.int .i64 8] w fun r w' => r = .returned (.bool true) ∧ w' = w) := validWidth_any 8 w (by omega) (by omega)
  have HF0 : Hid (Calls Tryz.prog 55 #[.int .u64 (x : Int), .int .i64 8] w fun r w' => r = .returned (.bool true) ∧ w' = w) := by
    have := fits_any x 8 w (by omega) (by omega)
    rw [decide_eq_true (show x < 256 ^ 8 by simpa using hx)] at this
    exact this
  have HU : Hid (Calls Tryz.prog 60 #[.pointer (some ⟨l.wb, 0, none⟩), .int .u64 (x : Int)] w (PutP B w e l s x 8)) := by
    refine (wu64_any E.E h.wr hBw x hx).mono ?_
    rintro r w' ⟨h1, h2⟩
    refine ⟨h1, ?_⟩
    have hz := zput_w (O := s.O) (lim := s.lim) (oe := s.oe) (x := x) (k := 8) rfl (by simpa using hx)
    rw [show (((8 : Nat) : Int)) = 8 from rfl] at hz
    rw [hz]
    
    exact h.writer h2
  have zv : (x : Int).tmod 2 = 1 := by rw [Int.tmod_eq_emod_of_nonneg (by omega)]; omega
  skip
  clear h E
  go_enter Tryz.func24, Tryz.ntmps24
  go_wp2_with fail
  refine Calls.mono HV.out ?_
  rintro r w' ⟨rfl, hw⟩
  rw [hw]
  clear hw w' HV
  go_wp2_with fail
  refine Calls.mono HF0.out ?_
  rintro r w' ⟨rfl, hw⟩
  rw [hw]
  clear hw w' HF0
  go_wp2_with fail
  refine Calls.mono HU.out ?_
  rintro r w' ⟨rfl, hP⟩
  have HF : Hid (PutP B w e l s x 8 (.returned (.tuple #[])) w') := ⟨rfl, hP⟩
  clear hP HU
  go_wp2
  go_end0
  exact HF.out

theorem put_any (x : Nat) (n : Int) (hx : x < 18446744073709551616) (hn1 : -9223372036854775808 ≤ n) (hn2 : n ≤ 9223372036854775807) (E : EB B w e) (h : ZR B w e l s) (hBw : B ≤ w.heap.size) :
    Calls Tryz.prog 24 #[.pointer (some ⟨l.d, 0, none⟩), .int .u64 (x : Int), .int .i64 n] w (PutP B w e l s x n) := by
  cases hok : okW n with
  | false => exact put_w x n hx hn1 hn2 E h hBw hok
  | true =>
    by_cases hfit : x < 256 ^ n.toNat
    · by_cases hev : x % 2 = 0
      · exact put_e x n hx hn1 hn2 E h hBw hok hfit hev
      · obtain ⟨k, rfl, hk⟩ := okW_nat hok
        rw [Int.toNat_natCast] at hfit
        rcases hk with rfl | rfl | rfl | rfl
        · exact put_o1 x (by simpa using hfit) E h hBw (by omega)
        · exact put_o2 x (by simpa using hfit) E h hBw (by omega)
        · exact put_o4 x (by simpa using hfit) E h hBw (by omega)
        · exact put_o8 x (by simpa using hfit) E h hBw (by omega)
    · exact put_f x n hx hn1 hn2 E h hBw hok hfit
/-- What get leaves. -/
def GetP (B : Nat) (w : World) (e : Nat → Addr) (l : Rl) (s : ZSt) (n : Int) (r : Ending) (w' : World) : Prop := r = .returned (.int .u64 (((zuint l.bs l.off s.ie n).1 : Nat) : Int)) ∧ RSt B w w' e l { l with off := (zuint l.bs l.off s.ie n).2.1 } { s with I := l.bs.drop (zuint l.bs l.off s.ie n).2.1, ie := (zuint l.bs l.off s.ie n).2.2 }
theorem RvPost.get {k : IntKind} {n : Int} {r : Ending} {w' : World} (h : ZR B w e l s) (hp : RvPost B w e l.rb l.ao l.bs l.cap k (zuint l.bs l.off s.ie n) r w') : r = .returned (.int k (((zuint l.bs l.off s.ie n).1 : Nat) : Int)) ∧ RSt B w w' e l { l with off := (zuint l.bs l.off s.ie n).2.1 } { s with I := l.bs.drop (zuint l.bs l.off s.ie n).2.1, ie := (zuint l.bs l.off s.ie n).2.2 } := ⟨hp.1, h.reader hp.2.1 hp.2.2⟩

set_option maxRecDepth 100000 in
set_option maxHeartbeats 1000000 in
theorem get_odd (n : Int) (hn1 : -9223372036854775808 ≤ n) (hn2 : n ≤ 9223372036854775807) (E : EB B w e) (h : ZR B w e l s) (hpar : l.off % 2 = 1) :
    Calls Tryz.prog 32 #[.pointer (some ⟨l.d, 0, none⟩), .int .i64 n] w (GetP B w e l s n) := by
  have m8 := h.m8
  have hoff := h.rd.hoff
  have hlen := h.rd.len
  have HO : Hid (Calls Tryz.prog 69 #[.pointer (some ⟨l.rb, 0, none⟩)] w fun r w' => r = .returned (.int .i64 (l.off : Int)) ∧ w' = w) := roff_any h.rd
  have HU : Hid (Calls Tryz.prog 70 #[.pointer (some ⟨l.rb, 0, none⟩), .int .i64 n] w fun r w' => r = .returned (.int .u64 (((zuint l.bs l.off s.ie n).1 : Nat) : Int)) ∧ RSt B w w' e l { l with off := (zuint l.bs l.off s.ie n).2.1 } { s with I := l.bs.drop (zuint l.bs l.off s.ie n).2.1, ie := (zuint l.bs l.off s.ie n).2.2 }) := (ruint_any n hn1 hn2 E h.rd).mono (fun r w' hp => RvPost.get h hp)
  obtain ⟨q, hq⟩ : ∃ q, (zuint l.bs l.off s.ie n).1 = q := ⟨_, rfl⟩
  have HQ : Hid ((zuint l.bs l.off s.ie n).1 = q) := hq
  rw [hq] at HU
  obtain ⟨o, ho⟩ : ∃ o, l.off = o := ⟨_, rfl⟩
  rw [ho] at HO
  have zo : (o : Int).tmod 2 = 1 := by rw [← ho, Int.tmod_eq_emod_of_nonneg (by omega)]; omega
  clear h E hq hlen hoff ho
  go_enter Tryz.func32, Tryz.ntmps32
  go_wp2_with fail
  refine Calls.mono HO.out ?_
  rintro r w' ⟨rfl, hw⟩
  rw [hw]
  clear hw w' HO
  go_wp2_with fail
  refine Calls.mono HU.out ?_
  rintro r w' ⟨rfl, hP⟩
  have HF : Hid (GetP B w e l s n (.returned (.int .u64 (q : Int))) w') := ⟨by rw [HQ.out], hP⟩
  clear hP HU
  go_wp2
  go_ret
  exact HF.out

set_option maxRecDepth 100000 in
set_option maxHeartbeats 1000000 in
theorem get_other (n : Int) (hn1 : -9223372036854775808 ≤ n) (hn2 : n ≤ 9223372036854775807) (E : EB B w e) (h : ZR B w e l s) (hpar : l.off % 2 = 0) (hok : okW n = false) :
    Calls Tryz.prog 32 #[.pointer (some ⟨l.d, 0, none⟩), .int .i64 n] w (GetP B w e l s n) := by
  have m8 := h.m8
  have hoff := h.rd.hoff
  have hlen := h.rd.len
  have HO : Hid (Calls Tryz.prog 69 #[.pointer (some ⟨l.rb, 0, none⟩)] w fun r w' => r = .returned (.int .i64 (l.off : Int)) ∧ w' = w) := roff_any h.rd
  have HU : Hid (Calls Tryz.prog 70 #[.pointer (some ⟨l.rb, 0, none⟩), .int .i64 n] w fun r w' => r = .returned (.int .u64 (((zuint l.bs l.off s.ie n).1 : Nat) : Int)) ∧ RSt B w w' e l { l with off := (zuint l.bs l.off s.ie n).2.1 } { s with I := l.bs.drop (zuint l.bs l.off s.ie n).2.1, ie := (zuint l.bs l.off s.ie n).2.2 }) := (ruint_any n hn1 hn2 E h.rd).mono (fun r w' hp => RvPost.get h hp)
  obtain ⟨q, hq⟩ : ∃ q, (zuint l.bs l.off s.ie n).1 = q := ⟨_, rfl⟩
  have HQ : Hid ((zuint l.bs l.off s.ie n).1 = q) := hq
  rw [hq] at HU
  obtain ⟨o, ho⟩ : ∃ o, l.off = o := ⟨_, rfl⟩
  rw [ho] at HO
  have zo : (o : Int).tmod 2 = 0 := by rw [← ho, Int.tmod_eq_emod_of_nonneg (by omega)]; omega
  have k1 : (n == 1) = false := by unfold okW at hok; simp at hok ⊢; omega
  have k2 : (n == 2) = false := by unfold okW at hok; simp at hok ⊢; omega
  have k4 : (n == 4) = false := by unfold okW at hok; simp at hok ⊢; omega
  have k8 : (n == 8) = false := by unfold okW at hok; simp at hok ⊢; omega
  clear hok
  clear h E hq hlen hoff ho
  go_enter Tryz.func32, Tryz.ntmps32
  go_wp2_with fail
  refine Calls.mono HO.out ?_
  rintro r w' ⟨rfl, hw⟩
  rw [hw]
  clear hw w' HO
  go_wp2_with fail
  refine Calls.mono HU.out ?_
  rintro r w' ⟨rfl, hP⟩
  have HF : Hid (GetP B w e l s n (.returned (.int .u64 (q : Int))) w') := ⟨by rw [HQ.out], hP⟩
  clear hP HU
  go_wp2
  go_ret
  exact HF.out

set_option maxRecDepth 100000 in
set_option maxHeartbeats 1000000 in
theorem get_1 (E : EB B w e) (h : ZR B w e l s) (hpar : l.off % 2 = 0) :
    Calls Tryz.prog 32 #[.pointer (some ⟨l.d, 0, none⟩), .int .i64 1] w (GetP B w e l s 1) := by
  have m8 := h.m8
  have hoff := h.rd.hoff
  have hlen := h.rd.len
  have HO : Hid (Calls Tryz.prog 69 #[.pointer (some ⟨l.rb, 0, none⟩)] w fun r w' => r = .returned (.int .i64 (l.off : Int)) ∧ w' = w) := roff_any h.rd
  have HU : Hid (Calls Tryz.prog 71 #[.pointer (some ⟨l.rb, 0, none⟩)] w fun r w' => r = .returned (.int .u8 (((zuint l.bs l.off s.ie 1).1 : Nat) : Int)) ∧ RSt B w w' e l { l with off := (zuint l.bs l.off s.ie 1).2.1 } { s with I := l.bs.drop (zuint l.bs l.off s.ie 1).2.1, ie := (zuint l.bs l.off s.ie 1).2.2 }) := (ru8_any E.E h.rd).mono (fun r w' hp => RvPost.get h hp)
  have hlt : (zuint l.bs l.off s.ie 1).1 < 256 := zuint_lt h.rd.row.lt rfl
  obtain ⟨q, hq⟩ : ∃ q, (zuint l.bs l.off s.ie 1).1 = q := ⟨_, rfl⟩
  have HQ : Hid ((zuint l.bs l.off s.ie 1).1 = q) := hq
  rw [hq] at HU hlt
  have hwq : IntKind.u64.wrap (q : Int) = (q : Int) := by simp [IntKind.wrap, IntKind.bits, IntKind.signed]; omega
  obtain ⟨o, ho⟩ : ∃ o, l.off = o := ⟨_, rfl⟩
  rw [ho] at HO
  have zo : (o : Int).tmod 2 = 0 := by rw [← ho, Int.tmod_eq_emod_of_nonneg (by omega)]; omega
  clear h E hq hlen hoff ho
  go_enter Tryz.func32, Tryz.ntmps32
  go_wp2_with fail
  refine Calls.mono HO.out ?_
  rintro r w' ⟨rfl, hw⟩
  rw [hw]
  clear hw w' HO
  go_wp2_with fail
  refine Calls.mono HU.out ?_
  rintro r w' ⟨rfl, hP⟩
  have HF : Hid (GetP B w e l s 1 (.returned (.int .u64 (q : Int))) w') := ⟨by rw [HQ.out], hP⟩
  clear hP HU
  go_wp2
  go_ret
  exact HF.out

set_option maxRecDepth 100000 in
set_option maxHeartbeats 1000000 in
theorem get_2 (E : EB B w e) (h : ZR B w e l s) (hpar : l.off % 2 = 0) :
    Calls Tryz.prog 32 #[.pointer (some ⟨l.d, 0, none⟩), .int .i64 2] w (GetP B w e l s 2) := by
  have m8 := h.m8
  have hoff := h.rd.hoff
  have hlen := h.rd.len
  have HO : Hid (Calls Tryz.prog 69 #[.pointer (some ⟨l.rb, 0, none⟩)] w fun r w' => r = .returned (.int .i64 (l.off : Int)) ∧ w' = w) := roff_any h.rd
  have HU : Hid (Calls Tryz.prog 72 #[.pointer (some ⟨l.rb, 0, none⟩)] w fun r w' => r = .returned (.int .u16 (((zuint l.bs l.off s.ie 2).1 : Nat) : Int)) ∧ RSt B w w' e l { l with off := (zuint l.bs l.off s.ie 2).2.1 } { s with I := l.bs.drop (zuint l.bs l.off s.ie 2).2.1, ie := (zuint l.bs l.off s.ie 2).2.2 }) := (ru16_any E.E h.rd).mono (fun r w' hp => RvPost.get h hp)
  have hlt : (zuint l.bs l.off s.ie 2).1 < 65536 := zuint_lt h.rd.row.lt rfl
  obtain ⟨q, hq⟩ : ∃ q, (zuint l.bs l.off s.ie 2).1 = q := ⟨_, rfl⟩
  have HQ : Hid ((zuint l.bs l.off s.ie 2).1 = q) := hq
  rw [hq] at HU hlt
  have hwq : IntKind.u64.wrap (q : Int) = (q : Int) := by simp [IntKind.wrap, IntKind.bits, IntKind.signed]; omega
  obtain ⟨o, ho⟩ : ∃ o, l.off = o := ⟨_, rfl⟩
  rw [ho] at HO
  have zo : (o : Int).tmod 2 = 0 := by rw [← ho, Int.tmod_eq_emod_of_nonneg (by omega)]; omega
  clear h E hq hlen hoff ho
  go_enter Tryz.func32, Tryz.ntmps32
  go_wp2_with fail
  refine Calls.mono HO.out ?_
  rintro r w' ⟨rfl, hw⟩
  rw [hw]
  clear hw w' HO
  go_wp2_with fail
  refine Calls.mono HU.out ?_
  rintro r w' ⟨rfl, hP⟩
  have HF : Hid (GetP B w e l s 2 (.returned (.int .u64 (q : Int))) w') := ⟨by rw [HQ.out], hP⟩
  clear hP HU
  go_wp2
  go_ret
  exact HF.out

set_option maxRecDepth 100000 in
set_option maxHeartbeats 1000000 in
theorem get_4 (E : EB B w e) (h : ZR B w e l s) (hpar : l.off % 2 = 0) :
    Calls Tryz.prog 32 #[.pointer (some ⟨l.d, 0, none⟩), .int .i64 4] w (GetP B w e l s 4) := by
  have m8 := h.m8
  have hoff := h.rd.hoff
  have hlen := h.rd.len
  have HO : Hid (Calls Tryz.prog 69 #[.pointer (some ⟨l.rb, 0, none⟩)] w fun r w' => r = .returned (.int .i64 (l.off : Int)) ∧ w' = w) := roff_any h.rd
  have HU : Hid (Calls Tryz.prog 73 #[.pointer (some ⟨l.rb, 0, none⟩)] w fun r w' => r = .returned (.int .u32 (((zuint l.bs l.off s.ie 4).1 : Nat) : Int)) ∧ RSt B w w' e l { l with off := (zuint l.bs l.off s.ie 4).2.1 } { s with I := l.bs.drop (zuint l.bs l.off s.ie 4).2.1, ie := (zuint l.bs l.off s.ie 4).2.2 }) := (ru32_any E.E h.rd).mono (fun r w' hp => RvPost.get h hp)
  have hlt : (zuint l.bs l.off s.ie 4).1 < 4294967296 := zuint_lt h.rd.row.lt rfl
  obtain ⟨q, hq⟩ : ∃ q, (zuint l.bs l.off s.ie 4).1 = q := ⟨_, rfl⟩
  have HQ : Hid ((zuint l.bs l.off s.ie 4).1 = q) := hq
  rw [hq] at HU hlt
  have hwq : IntKind.u64.wrap (q : Int) = (q : Int) := by simp [IntKind.wrap, IntKind.bits, IntKind.signed]; omega
  obtain ⟨o, ho⟩ : ∃ o, l.off = o := ⟨_, rfl⟩
  rw [ho] at HO
  have zo : (o : Int).tmod 2 = 0 := by rw [← ho, Int.tmod_eq_emod_of_nonneg (by omega)]; omega
  clear h E hq hlen hoff ho
  go_enter Tryz.func32, Tryz.ntmps32
  go_wp2_with fail
  refine Calls.mono HO.out ?_
  rintro r w' ⟨rfl, hw⟩
  rw [hw]
  clear hw w' HO
  go_wp2_with fail
  refine Calls.mono HU.out ?_
  rintro r w' ⟨rfl, hP⟩
  have HF : Hid (GetP B w e l s 4 (.returned (.int .u64 (q : Int))) w') := ⟨by rw [HQ.out], hP⟩
  clear hP HU
  go_wp2
  go_ret
  exact HF.out

set_option maxRecDepth 100000 in
set_option maxHeartbeats 1000000 in
theorem get_8 (E : EB B w e) (h : ZR B w e l s) (hpar : l.off % 2 = 0) :
    Calls Tryz.prog 32 #[.pointer (some ⟨l.d, 0, none⟩), .int .i64 8] w (GetP B w e l s 8) := by
  have m8 := h.m8
  have hoff := h.rd.hoff
  have hlen := h.rd.len
  have HO : Hid (Calls Tryz.prog 69 #[.pointer (some ⟨l.rb, 0, none⟩)] w fun r w' => r = .returned (.int .i64 (l.off : Int)) ∧ w' = w) := roff_any h.rd
  have HU : Hid (Calls Tryz.prog 74 #[.pointer (some ⟨l.rb, 0, none⟩)] w fun r w' => r = .returned (.int .u64 (((zuint l.bs l.off s.ie 8).1 : Nat) : Int)) ∧ RSt B w w' e l { l with off := (zuint l.bs l.off s.ie 8).2.1 } { s with I := l.bs.drop (zuint l.bs l.off s.ie 8).2.1, ie := (zuint l.bs l.off s.ie 8).2.2 }) := (ru64_any E.E h.rd).mono (fun r w' hp => RvPost.get h hp)
  have hlt : (zuint l.bs l.off s.ie 8).1 < 18446744073709551616 := zuint_lt h.rd.row.lt rfl
  obtain ⟨q, hq⟩ : ∃ q, (zuint l.bs l.off s.ie 8).1 = q := ⟨_, rfl⟩
  have HQ : Hid ((zuint l.bs l.off s.ie 8).1 = q) := hq
  rw [hq] at HU hlt
  have hwq : IntKind.u64.wrap (q : Int) = (q : Int) := by simp [IntKind.wrap, IntKind.bits, IntKind.signed]; omega
  obtain ⟨o, ho⟩ : ∃ o, l.off = o := ⟨_, rfl⟩
  rw [ho] at HO
  have zo : (o : Int).tmod 2 = 0 := by rw [← ho, Int.tmod_eq_emod_of_nonneg (by omega)]; omega
  clear h E hq hlen hoff ho
  go_enter Tryz.func32, Tryz.ntmps32
  go_wp2_with fail
  refine Calls.mono HO.out ?_
  rintro r w' ⟨rfl, hw⟩
  rw [hw]
  clear hw w' HO
  go_wp2_with fail
  refine Calls.mono HU.out ?_
  rintro r w' ⟨rfl, hP⟩
  have HF : Hid (GetP B w e l s 8 (.returned (.int .u64 (q : Int))) w') := ⟨by rw [HQ.out], hP⟩
  clear hP HU
  go_wp2
  go_ret
  exact HF.out

theorem get_any (n : Int) (hn1 : -9223372036854775808 ≤ n) (hn2 : n ≤ 9223372036854775807) (E : EB B w e) (h : ZR B w e l s) :
    Calls Tryz.prog 32 #[.pointer (some ⟨l.d, 0, none⟩), .int .i64 n] w (GetP B w e l s n) := by
  by_cases hp : l.off % 2 = 1
  · exact get_odd n hn1 hn2 E h hp
  · have hp0 : l.off % 2 = 0 := by omega
    cases hok : okW n with
    | false => exact get_other n hn1 hn2 E h hp0 hok
    | true =>
      obtain ⟨k, rfl, hk⟩ := okW_nat hok
      rcases hk with rfl | rfl | rfl | rfl
      · exact get_1 E h hp0
      · exact get_2 E h hp0
      · exact get_4 E h hp0
      · exact get_8 E h hp0
end
end Go.Proofs.Qxb6500698aGreatDoor
