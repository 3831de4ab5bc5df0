/-
  THE WALKS OF THE READER's METHODS.
-/
import Derived.Test.Qxb6500698aGreatDoorZR2
namespace Go.Proofs.Qxb6500698aGreatDoor
open Go.RowKit

theorem znext_cases {bs : List Nat} {off : Nat} {ie : Option Nat} {n : Int} : (znext bs off ie n).1 = [] ∨ (0 ≤ n ∧ (((znext bs off ie n).1.length : Nat) : Int) = n) := by
  unfold znext
  split
  · split
    · exact .inl rfl
    · split
      · exact .inl rfl
      · rename_i h1 h2 h3
        refine .inr ⟨by omega, ?_⟩
        show (((bs.drop off).take n.toNat).length : Int) = n
        rw [List.length_take, List.length_drop]
        omega
  · exact .inl rfl
/-- An integer read: the value, the new offset, the refusal. -/
def zuint (bs : List Nat) (off : Nat) (ie : Option Nat) (n : Int) : Nat × Nat × Option Nat := if ie = none then (if okW n = true then (undig (znext bs off none n).1, (znext bs off none n).2) else (0, off, some 1)) else (0, off, ie)
theorem zuint_w {bs : List Nat} {off : Nat} {ie : Option Nat} {n : Int} (h : okW n = true) : zuint bs off ie n = (undig (znext bs off ie n).1, (znext bs off ie n).2) := by
  unfold zuint
  cases ie with
  | none => rw [if_pos rfl, if_pos h]
  | some i =>
    have e : znext bs off (some i) n = ([], off, some i) := by unfold znext; rw [if_neg (by simp)]
    rw [if_neg (by simp), e]; rfl
/-- What a method of the reader that gives a number leaves. -/
def RvPost (B : Nat) (w : World) (e : Nat → Addr) (rb : Nat) (ao : Option Addr) (bs : List Nat) (cap : Nat) (k : IntKind) (z : Nat × Nat × Option Nat) (r : Ending) (w' : World) : Prop :=
  r = .returned (.int k ((z.1 : Nat) : Int)) ∧ RdS B w' e rb ao bs cap z.2.1 z.2.2 ∧ Only rb w w'

theorem RdS.errs {B : Nat} {w w' : World} {e : Nat → Addr} {rb : Nat} {ao : Option Addr} {bs : List Nat} {cap off : Nat} {ie : Option Nat} (h : RdS B w e rb ao bs cap off ie) (E : EB B w e) (hO : Only rb w w') : EB B w' e := E.below (hO.below h.hB)
section
variable {B : Nat} {w : World} {e : Nat → Addr} {rb : Nat} {ao : Option Addr} {bs : List Nat} {cap off : Nat} {ie : Option Nat}
set_option maxRecDepth 100000 in
theorem rrem_any (h : RdS B w e rb ao bs cap off ie) :
    Calls Tryz.prog 67 #[.pointer (some ⟨rb, 0, none⟩)] w fun r w' => r = .returned (.int .i64 ((bs.length - off : Nat) : Int)) ∧ ∃ m, w' = w.drewN m := by
  have c0 := h.at_.c0
  have c1 := h.at_.c1
  have hoff := h.hoff
  have hlen := h.len
  obtain ⟨L, hL⟩ : ∃ L, bs.length = L := ⟨_, rfl⟩
  rw [hL] at c0 hoff hlen ⊢
  obtain ⟨q, hq⟩ : ∃ q, L - off = q := ⟨_, rfl⟩
  rw [hq]
  have zq : (L : Int) - (off : Int) = (q : Int) := by omega
  clear h hL hq
  go_enter Tryz.func67, Tryz.ntmps67
  go_wp2
  go_quiet (fail)
  go_wp2
  go_ret
  exact ⟨rfl, _, rfl⟩
set_option maxRecDepth 100000 in
theorem rerr_any (h : RdS B w e rb ao bs cap off ie) :
    Calls Tryz.prog 68 #[.pointer (some ⟨rb, 0, none⟩)] w fun r w' => r = .returned (errV e ie) ∧ w' = w := by
  have c2 := h.at_.c2
  clear h
  generalize errV e ie = x at *
  go_enter Tryz.func68, Tryz.ntmps68
  go_wp2
  go_ret
  exact ⟨rfl, rfl⟩
set_option maxRecDepth 100000 in
theorem roff_any (h : RdS B w e rb ao bs cap off ie) :
    Calls Tryz.prog 69 #[.pointer (some ⟨rb, 0, none⟩)] w fun r w' => r = .returned (.int .i64 (off : Int)) ∧ w' = w := by
  have c1 := h.at_.c1
  clear h
  go_enter Tryz.func69, Tryz.ntmps69
  go_wp2
  go_ret
  exact ⟨rfl, rfl⟩
set_option maxRecDepth 100000 in
theorem rtake_any (n : Int) (hn1 : -9223372036854775808 ≤ n) (hn2 : n ≤ 9223372036854775807) (E : Errs w e) (h : RdS B w e rb ao bs cap off ie) :
    Calls Tryz.prog 33 #[.pointer (some ⟨rb, 0, none⟩), .int .i64 n] w (RdPost B w e rb ao bs cap n (znext bs off ie n)) := by
  have HN : Hid (Calls Tryz.prog 75 #[.pointer (some ⟨rb, 0, none⟩), .int .i64 n] w (RdPost B w e rb ao bs cap n (znext bs off ie n))) := next_any n hn1 hn2 E h
  clear h E
  go_enter Tryz.func33, Tryz.ntmps33
  go_wp2_with fail
  refine Calls.mono HN.out ?_
  rintro r w1 ⟨a, c, rfl, hrest⟩
  have HF : Hid (RdPost B w e rb ao bs cap n (znext bs off ie n) (.returned (.slice a (znext bs off ie n).1.length c)) w1) := ⟨a, c, rfl, hrest⟩
  clear hrest HN
  generalize (znext bs off ie n).1.length = q at *
  go_wp2
  go_ret
  exact HF.out
set_option maxRecDepth 100000 in
theorem rskip_any (n : Int) (hn1 : -9223372036854775808 ≤ n) (hn2 : n ≤ 9223372036854775807) (E : Errs w e) (h : RdS B w e rb ao bs cap off ie) :
    Calls Tryz.prog 34 #[.pointer (some ⟨rb, 0, none⟩), .int .i64 n] w fun r w' => r = .returned (.tuple #[]) ∧ RdS B w' e rb ao bs cap (znext bs off ie n).2.1 (znext bs off ie n).2.2 ∧ Only rb w w' := by
  have HN : Hid (Calls Tryz.prog 75 #[.pointer (some ⟨rb, 0, none⟩), .int .i64 n] w (RdPost B w e rb ao bs cap n (znext bs off ie n))) := next_any n hn1 hn2 E h
  clear h E
  go_enter Tryz.func34, Tryz.ntmps34
  go_wp2_with fail
  refine Calls.mono HN.out ?_
  rintro r w1 ⟨a, c, rfl, _, _, _, _, _, _, h1, h2⟩
  have HF : Hid (RdS B w1 e rb ao bs cap (znext bs off ie n).2.1 (znext bs off ie n).2.2 ∧ Only rb w w1) := ⟨h1, h2⟩
  clear h1 h2 HN
  generalize (znext bs off ie n).1.length = q at *
  go_wp2
  go_end0
  exact ⟨rfl, HF.out⟩
set_option maxRecDepth 100000 in
theorem rrest_any (E : Errs w e) (h : RdS B w e rb ao bs cap off ie) :
    Calls Tryz.prog 78 #[.pointer (some ⟨rb, 0, none⟩)] w (RdPost B w e rb ao bs cap ((bs.length - off : Nat) : Int) (znext bs off ie ((bs.length - off : Nat) : Int))) := by
  have hlen := h.len
  have HM : Hid (Calls Tryz.prog 67 #[.pointer (some ⟨rb, 0, none⟩)] w fun r w' => r = .returned (.int .i64 ((bs.length - off : Nat) : Int)) ∧ ∃ m, w' = w.drewN m) := rrem_any h
  have HN : Hid (∀ m, Calls Tryz.prog 75 #[.pointer (some ⟨rb, 0, none⟩), .int .i64 ((bs.length - off : Nat) : Int)] (w.drewN m) (RdPost B (w.drewN m) e rb ao bs cap ((bs.length - off : Nat) : Int) (znext bs off ie ((bs.length - off : Nat) : Int)))) := fun m => next_any _ (by omega) (by omega) (errs_drewN E) (h.drewN m)
  clear h E
  generalize bs.length - off = k at *
  go_enter Tryz.func78, Tryz.ntmps78
  go_wp2_with fail
  refine Calls.mono HM.out ?_
  rintro r w' ⟨rfl, m, rfl⟩
  go_wp2_with fail
  refine Calls.mono (HN.out m) ?_
  rintro r w1 ⟨a, c, rfl, g1, g2, g3, g4, g5, g6, g7, g8⟩
  have HF : Hid (RdPost B w e rb ao bs cap (k : Int) (znext bs off ie (k : Int)) (.returned (.slice a (znext bs off ie (k : Int)).1.length c)) w1) := ⟨a, c, rfl, g1, g2, g3, g4, g5, g6, g7, Only.trans ((Only.refl _ _).drewN m) g8⟩
  clear g1 g2 g3 g4 g5 g6 g7 g8 HN HM
  generalize (znext bs off ie (k : Int)).1.length = q at *
  go_wp2
  go_ret
  exact HF.out
set_option maxRecDepth 100000 in
set_option maxHeartbeats 1000000 in
theorem ru8_any (E : Errs w e) (h : RdS B w e rb ao bs cap off ie) :
    Calls Tryz.prog 71 #[.pointer (some ⟨rb, 0, none⟩)] w (RvPost B w e rb ao bs cap .u8 (zuint bs off ie 1)) := by
  rw [zuint_w rfl]
  have HN : Hid (Calls Tryz.prog 75 #[.pointer (some ⟨rb, 0, none⟩), .int .i64 1] w (RdPost B w e rb ao bs cap 1 (znext bs off ie 1))) := next_any 1 (by omega) (by omega) E h
  have hz := znext_cases (bs := bs) (off := off) (ie := ie) (n := 1)
  obtain ⟨z, hze⟩ : ∃ z, znext bs off ie 1 = z := ⟨_, rfl⟩
  rw [hze] at HN hz ⊢
  clear h E hze
  go_enter Tryz.func71, Tryz.ntmps71
  go_wp2_with fail
  refine Calls.mono HN.out ?_
  rintro r w1 ⟨a, c, rfl, g1, g2, g3, g4, g5, g6, g7, g8⟩
  rcases hz with hz | ⟨_, hz⟩
  · have ha := g1 (by omega) hz
    subst ha
    have hl : z.1.length = 0 := by rw [hz]; rfl
    have HF : Hid (RvPost B w e rb ao bs cap .u8 (undig z.1, z.2) (.returned (.int .u8 0)) w1) := ⟨by rw [hz]; rfl, g7, g8⟩
    simp only [hl]
    clear g1 g2 g3 g4 g5 g6 g7 g8 hz hl HN
    go_wp2
    go_ret
    exact HF.out
  · have hl : z.1.length = 1 := by omega
    obtain ⟨x, hx⟩ : ∃ x, z.1 = [x] := by
      match z.1, hl with
      | [x], _ => exact ⟨x, rfl⟩
    obtain ⟨b, o, rfl, hc⟩ := g2.row (by rw [hx]; simp)
    have c0 : w1.cell? ⟨b, o, none⟩ = some (.int .u8 (x : Nat)) := by have := hc 0 (by rw [hx]; simp); rw [hx] at this; exact this
    have HF : Hid (RvPost B w e rb ao bs cap .u8 (undig z.1, z.2) (.returned (.int .u8 (x : Int))) w1) := ⟨by rw [hx]; simp [undig], g7, g8⟩
    simp only [hl]
    clear g1 g2 g3 g4 g5 g6 g7 g8 hz hl HN hx hc
    go_wp2
    go_ret
    exact HF.out
set_option maxRecDepth 100000 in
set_option maxHeartbeats 1000000 in
theorem ru16_any (E : Errs w e) (h : RdS B w e rb ao bs cap off ie) :
    Calls Tryz.prog 72 #[.pointer (some ⟨rb, 0, none⟩)] w (RvPost B w e rb ao bs cap .u16 (zuint bs off ie 2)) := by
  rw [zuint_w rfl]
  have HN : Hid (Calls Tryz.prog 75 #[.pointer (some ⟨rb, 0, none⟩), .int .i64 2] w (RdPost B w e rb ao bs cap 2 (znext bs off ie 2))) := next_any 2 (by omega) (by omega) E h
  have hz := znext_cases (bs := bs) (off := off) (ie := ie) (n := 2)
  obtain ⟨z, hze⟩ : ∃ z, znext bs off ie 2 = z := ⟨_, rfl⟩
  rw [hze] at HN hz ⊢
  clear h E hze
  go_enter Tryz.func72, Tryz.ntmps72
  go_wp2_with fail
  refine Calls.mono HN.out ?_
  rintro r w1 ⟨a, c, rfl, g1, g2, g3, g4, g5, g6, g7, g8⟩
  rcases hz with hz | ⟨_, hz⟩
  · have hl : z.1.length = 0 := by rw [hz]; rfl
    have HF : Hid (∀ m, RvPost B w e rb ao bs cap .u16 (undig z.1, z.2) (.returned (.int .u16 0)) (w1.drewN m)) := fun m => ⟨by rw [hz]; rfl, g7.drewN m, Only.drewN g8 m⟩
    have HU : Hid (Calls Tryz.prog 91 #[.slice a 0 c] w1 fun r w' => r = .returned (.tuple #[.int .u16 0, .bool false]) ∧ ∃ m, w' = w1.drewN m) := u16_short 0 c a (by omega)
    simp only [hl]
    clear g1 g2 g3 g4 g5 g6 g7 g8 hz hl HN
    go_wp2_with fail
    refine Calls.mono HU.out ?_
    rintro r w' ⟨rfl, m, rfl⟩
    go_wp2
    go_ret
    exact HF.out m
  · have hl : z.1.length = 2 := by omega
    have HU : Hid (Calls Tryz.prog 91 #[.slice a 2 c] w1 fun r w' => r = .returned (.tuple #[.int .u16 ((undig z.1 : Nat) : Int), .bool true]) ∧ ∃ m, w' = w1.drewN m) := u16_ok z.1 a c g2 hl
    have HF : Hid (∀ m, RvPost B w e rb ao bs cap .u16 (undig z.1, z.2) (.returned (.int .u16 ((undig z.1 : Nat) : Int))) (w1.drewN m)) := fun m => ⟨rfl, g7.drewN m, Only.drewN g8 m⟩
    simp only [hl]
    clear g1 g2 g3 g4 g5 g6 g7 g8 hz hl HN
    generalize undig z.1 = q at *
    go_wp2_with fail
    refine Calls.mono HU.out ?_
    rintro r w' ⟨rfl, m, rfl⟩
    go_wp2
    go_ret
    exact HF.out m
set_option maxRecDepth 100000 in
set_option maxHeartbeats 1000000 in
theorem ru32_any (E : Errs w e) (h : RdS B w e rb ao bs cap off ie) :
    Calls Tryz.prog 73 #[.pointer (some ⟨rb, 0, none⟩)] w (RvPost B w e rb ao bs cap .u32 (zuint bs off ie 4)) := by
  rw [zuint_w rfl]
  have HN : Hid (Calls Tryz.prog 75 #[.pointer (some ⟨rb, 0, none⟩), .int .i64 4] w (RdPost B w e rb ao bs cap 4 (znext bs off ie 4))) := next_any 4 (by omega) (by omega) E h
  have hz := znext_cases (bs := bs) (off := off) (ie := ie) (n := 4)
  obtain ⟨z, hze⟩ : ∃ z, znext bs off ie 4 = z := ⟨_, rfl⟩
  rw [hze] at HN hz ⊢
  clear h E hze
  go_enter Tryz.func73, Tryz.ntmps73
  go_wp2_with fail
  refine Calls.mono HN.out ?_
  rintro r w1 ⟨a, c, rfl, g1, g2, g3, g4, g5, g6, g7, g8⟩
  rcases hz with hz | ⟨_, hz⟩
  · have hl : z.1.length = 0 := by rw [hz]; rfl
    have HF : Hid (∀ m, RvPost B w e rb ao bs cap .u32 (undig z.1, z.2) (.returned (.int .u32 0)) (w1.drewN m)) := fun m => ⟨by rw [hz]; rfl, g7.drewN m, Only.drewN g8 m⟩
    have HU : Hid (Calls Tryz.prog 92 #[.slice a 0 c] w1 fun r w' => r = .returned (.tuple #[.int .u32 0, .bool false]) ∧ ∃ m, w' = w1.drewN m) := u32_short 0 c a (by omega)
    simp only [hl]
    clear g1 g2 g3 g4 g5 g6 g7 g8 hz hl HN
    go_wp2_with fail
    refine Calls.mono HU.out ?_
    rintro r w' ⟨rfl, m, rfl⟩
    go_wp2
    go_ret
    exact HF.out m
  · have hl : z.1.length = 4 := by omega
    have HU : Hid (Calls Tryz.prog 92 #[.slice a 4 c] w1 fun r w' => r = .returned (.tuple #[.int .u32 ((undig z.1 : Nat) : Int), .bool true]) ∧ ∃ m, w' = w1.drewN m) := u32_ok z.1 a c g2 hl
    have HF : Hid (∀ m, RvPost B w e rb ao bs cap .u32 (undig z.1, z.2) (.returned (.int .u32 ((undig z.1 : Nat) : Int))) (w1.drewN m)) := fun m => ⟨rfl, g7.drewN m, Only.drewN g8 m⟩
    simp only [hl]
    clear g1 g2 g3 g4 g5 g6 g7 g8 hz hl HN
    generalize undig z.1 = q at *
    go_wp2_with fail
    refine Calls.mono HU.out ?_
    rintro r w' ⟨rfl, m, rfl⟩
    go_wp2
    go_ret
    exact HF.out m
set_option maxRecDepth 100000 in
set_option maxHeartbeats 1000000 in
theorem ru64_any (E : Errs w e) (h : RdS B w e rb ao bs cap off ie) :
    Calls Tryz.prog 74 #[.pointer (some ⟨rb, 0, none⟩)] w (RvPost B w e rb ao bs cap .u64 (zuint bs off ie 8)) := by
  rw [zuint_w rfl]
  have HN : Hid (Calls Tryz.prog 75 #[.pointer (some ⟨rb, 0, none⟩), .int .i64 8] w (RdPost B w e rb ao bs cap 8 (znext bs off ie 8))) := next_any 8 (by omega) (by omega) E h
  have hz := znext_cases (bs := bs) (off := off) (ie := ie) (n := 8)
  obtain ⟨z, hze⟩ : ∃ z, znext bs off ie 8 = z := ⟨_, rfl⟩
  rw [hze] at HN hz ⊢
  clear h E hze
  go_enter Tryz.func74, Tryz.ntmps74
  go_wp2_with fail
  refine Calls.mono HN.out ?_
  rintro r w1 ⟨a, c, rfl, g1, g2, g3, g4, g5, g6, g7, g8⟩
  rcases hz with hz | ⟨_, hz⟩
  · have hl : z.1.length = 0 := by rw [hz]; rfl
    have HF : Hid (∀ m, RvPost B w e rb ao bs cap .u64 (undig z.1, z.2) (.returned (.int .u64 0)) (w1.drewN m)) := fun m => ⟨by rw [hz]; rfl, g7.drewN m, Only.drewN g8 m⟩
    have HU : Hid (Calls Tryz.prog 93 #[.slice a 0 c] w1 fun r w' => r = .returned (.tuple #[.int .u64 0, .bool false]) ∧ ∃ m, w' = w1.drewN m) := u64_short 0 c a (by omega)
    simp only [hl]
    clear g1 g2 g3 g4 g5 g6 g7 g8 hz hl HN
    go_wp2_with fail
    refine Calls.mono HU.out ?_
    rintro r w' ⟨rfl, m, rfl⟩
    go_wp2
    go_ret
    exact HF.out m
  · have hl : z.1.length = 8 := by omega
    have HU : Hid (Calls Tryz.prog 93 #[.slice a 8 c] w1 fun r w' => r = .returned (.tuple #[.int .u64 ((undig z.1 : Nat) : Int), .bool true]) ∧ ∃ m, w' = w1.drewN m) := u64_ok z.1 a c g2 hl (by omega) (by omega)
    have HF : Hid (∀ m, RvPost B w e rb ao bs cap .u64 (undig z.1, z.2) (.returned (.int .u64 ((undig z.1 : Nat) : Int))) (w1.drewN m)) := fun m => ⟨rfl, g7.drewN m, Only.drewN g8 m⟩
    simp only [hl]
    clear g1 g2 g3 g4 g5 g6 g7 g8 hz hl HN
    generalize undig z.1 = q at *
    go_wp2_with fail
    refine Calls.mono HU.out ?_
    rintro r w' ⟨rfl, m, rfl⟩
    go_wp2
    go_ret
    exact HF.out m

set_option maxRecDepth 100000 in
set_option maxHeartbeats 1000000 in
theorem ruint_any (n : Int) (hn1 : -9223372036854775808 ≤ n) (hn2 : n ≤ 9223372036854775807) (EB0 : EB B w e) (h : RdS B w e rb ao bs cap off ie) :
    Calls Tryz.prog 70 #[.pointer (some ⟨rb, 0, none⟩), .int .i64 n] w (RvPost B w e rb ao bs cap .u64 (zuint bs off ie n)) := by
  have hI : Tryz.prog.isIface 71 = true := by kernel_rfl
  have c2 := h.at_.c2
  have f2 := h.at_.fr 2
  have E := EB0.E
  have g1v := E.cell 1 (by omega)
  cases ie with
  | some i =>
    have HF : Hid (RvPost B w e rb ao bs cap .u64 (zuint bs off (some i) n) (.returned (.int .u64 0)) w) := by
      show RvPost B w e rb ao bs cap .u64 (zuint bs off (some i) n) (.returned (.int .u64 0)) w
      unfold zuint; rw [if_neg (by simp)]; exact ⟨rfl, h, Only.refl _ _⟩
    unfold errV at c2
    clear h E
    go_enter Tryz.func70, Tryz.ntmps70
    go_wp2
    go_ret
    exact HF.out
  | none =>
    have HV : Hid (Calls Tryz.prog 54 #[.int .i64 n] w fun r w' => r = .returned (.bool (okW n)) ∧ w' = w) := validWidth_any n w hn1 hn2
    cases hok : okW n with
    | false =>
      rw [hok] at HV
      obtain ⟨h1, h2⟩ := h.err (some 1) (fun j hj => by cases hj; omega)
      have HF : Hid (RvPost B w e rb ao bs cap .u64 (zuint bs off none n) (.returned (.int .u64 0)) (w.setCell ⟨rb, 2, none⟩ (errV e (some 1)))) := by
        show RvPost B w e rb ao bs cap .u64 (zuint bs off none n) (.returned (.int .u64 0)) (w.setCell ⟨rb, 2, none⟩ (errV e (some 1)))
        unfold zuint; rw [if_pos rfl, hok, if_neg (by simp)]; exact ⟨rfl, h1, h2⟩
      unfold errV at c2 HF
      clear h E h1 h2 hok
      go_enter Tryz.func70, Tryz.ntmps70
      go_wp2_with fail
      refine Calls.mono HV.out ?_
      rintro r w' ⟨rfl, hw⟩
      rw [hw]
      clear hw HV
      go_wp2
      go_ret
      exact HF.out
    | true =>
      rw [hok] at HV
      rw [zuint_w hok]
      obtain ⟨k, rfl, hk⟩ := okW_nat hok
      have HN : Hid (Calls Tryz.prog 75 #[.pointer (some ⟨rb, 0, none⟩), .int .i64 (k : Int)] w (RdPost B w e rb ao bs cap (k : Int) (znext bs off none (k : Int)))) := next_any (k : Int) hn1 hn2 E h
      have hz := znext_cases (bs := bs) (off := off) (ie := none) (n := (k : Int))
      obtain ⟨z, hze⟩ : ∃ z, znext bs off none (k : Int) = z := ⟨_, rfl⟩
      rw [hze] at HN hz ⊢
      have HE : Hid (∀ w1, Only rb w w1 → Errs w1 e) := fun w1 hO => (h.errs EB0 hO).E
      unfold errV at c2
      clear h E hze hok
      go_enter Tryz.func70, Tryz.ntmps70
      go_wp2_with fail
      refine Calls.mono HV.out ?_
      rintro r w' ⟨rfl, hw⟩
      rw [hw]
      clear hw HV w'
      go_wp2_with fail
      refine Calls.mono HN.out ?_
      rintro r w1 ⟨a, c, rfl, q1, q2, q3, q4, q5, q6, q7, q8⟩
      rcases hz with hz | ⟨_, hz⟩
      · have hl : z.1.length = 0 := by rw [hz]; rfl
        have HF : Hid (∀ m, RvPost B w e rb ao bs cap .u64 (undig z.1, z.2) (.returned (.int .u64 0)) (w1.drewN m)) := fun m => ⟨by rw [hz]; rfl, q7.drewN m, Only.drewN q8 m⟩
        have HU : Hid (Calls Tryz.prog 90 #[.slice a 0 c, .int .i64 (k : Int)] w1 fun r w' => r = .returned (.tuple #[.int .u64 0, errV e (some 0)]) ∧ ∃ m, w' = w1.drewN m) := uint_short 0 k c a e w1 (HE.out w1 q8) hk (by omega)
        simp only [hl]
        clear q1 q2 q3 q4 q5 q6 q7 q8 hz hl HN HE
        unfold errV at HU
        go_wp2_with fail
        refine Calls.mono HU.out ?_
        rintro r w' ⟨rfl, m, rfl⟩
        go_wp2
        go_ret
        exact HF.out m
      · have hl : z.1.length = k := by omega
        have HU : Hid (Calls Tryz.prog 90 #[.slice a k c, .int .i64 (k : Int)] w1 fun r w' => r = .returned (.tuple #[.int .u64 ((undig z.1 : Nat) : Int), .nilIface]) ∧ w' = w1) := by
          have := uint_ok z.1 k c a w1 q2 hk (by omega) (by omega)
          rw [hl, List.take_of_length_le (by omega)] at this
          exact this
        have HF : Hid (RvPost B w e rb ao bs cap .u64 (undig z.1, z.2) (.returned (.int .u64 ((undig z.1 : Nat) : Int))) w1) := ⟨rfl, q7, q8⟩
        simp only [hl]
        clear q1 q2 q3 q4 q5 q6 q7 q8 hz hl HN HE
        generalize undig z.1 = q at *
        go_wp2_with fail
        refine Calls.mono HU.out ?_
        rintro r w' ⟨rfl, hw⟩
        rw [hw]
        clear hw w'
        go_wp2
        go_ret
        exact HF.out
end
end Go.Proofs.Qxb6500698aGreatDoor
