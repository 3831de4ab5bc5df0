/-
  THE WALKS OF Open, OpenFletcher AND OF THE READER's OpenCRC, OpenFletcher, Finish.
-/
import Derived.Test.Qxb6500698aGreatDoorZR3
namespace Go.Proofs.Qxb6500698aGreatDoor
open Go.RowKit

/-- A payload and its trailer: the payload, or the refusal. -/
def zopen (f : List Nat → Nat) (got : List Nat) : List Nat × Option Nat :=
  if got.length < 4 then ([], some 0) else if f (got.take (got.length - 4)) = undig (got.drop (got.length - 4)) then (got.take (got.length - 4), none) else ([], some 5)
/-- What Open answers. -/
def OpPost (w : World) (e : Nat → Addr) (ao : Option Addr) (z : List Nat × Option Nat) (r : Ending) (w' : World) : Prop :=
  ∃ a c, r = .returned (.tuple #[.slice a z.1.length c, errV e z.2]) ∧ BRow w' a z.1 ∧ z.1.length ≤ c ∧ c ≤ 9223372036854775807 ∧ (z.1 ≠ [] → a = ao) ∧ (a = none → z.1 = []) ∧ (∀ i, z.2 = some i → i < 6) ∧ ∃ m, w' = w.drewN m

theorem four_of {l : List Nat} (h : l.length = 4) : ∃ t0 t1 t2 t3, l = [t0, t1, t2, t3] := by
  match l, h with
  | [a, b, c, d], _ => exact ⟨a, b, c, d, rfl⟩

set_option maxRecDepth 100000 in
set_option maxHeartbeats 1000000 in
theorem open_any {w : World} {e : Nat → Addr} (got : List Nat) (ao : Option Addr) (cap : Nat) (E : Errs w e) (tb : Nat) (hT : Tabs w tb) (hrow : BRow w ao got) (hcap : got.length ≤ cap) (hcap2 : cap ≤ 9223372036854775807) :
    Calls Tryz.prog 77 #[.pointer (some ⟨tb, 0, none⟩), .slice ao got.length cap] w (OpPost w e ao (zopen Crc.crc got)) := by
  have hI : Tryz.prog.isIface 71 = true := by kernel_rfl
  by_cases hs : got.length < 4
  · have hz : zopen Crc.crc got = ([], some 0) := by unfold zopen; rw [if_pos hs]
    rw [hz]
    refine (open_short tb got.length cap ao e w E hs).mono ?_
    rintro r w' ⟨rfl, m, hw⟩
    exact ⟨none, 0, rfl, BRow.nil _ _, Nat.le_refl _, by omega, fun h0 => absurd rfl h0, fun _ => rfl, fun i hi => by cases hi; omega, m, hw⟩
  · obtain ⟨p, hp⟩ : ∃ p, got.take (got.length - 4) = p := ⟨_, rfl⟩
    obtain ⟨t0, t1, t2, t3, ht⟩ : ∃ t0 t1 t2 t3, got.drop (got.length - 4) = [t0, t1, t2, t3] := four_of (by rw [List.length_drop]; omega)
    have hg : got = p ++ [t0, t1, t2, t3] := by rw [← hp, ← ht, List.take_append_drop]
    have hpl : p.length = got.length - 4 := by rw [← hp, List.length_take]; omega
    have hgl : got.length = p.length + 4 := by omega
    obtain ⟨b, o, rfl, _⟩ := hrow.row (by intro h0; rw [h0] at hs; simp at hs)
    rw [hg] at hrow
    have HS : Hid (Calls Tryz.prog 94 #[.slice (some ⟨b, o, none⟩) (p.length + 4) cap] w fun r w' => r = .returned (.tuple #[.slice (some ⟨b, o, none⟩) p.length cap, .int .u32 ((undig [t0, t1, t2, t3] : Nat) : Int), .nilIface]) ∧ ∃ m, w' = w.drewN m) := split_ok p t0 t1 t2 t3 b o cap w hrow (by omega) hcap2
    have hrp : BRow w (some ⟨b, o, none⟩) p := by have := hrow.take p.length; rw [List.take_left] at this; exact this
    have hu : Crc.crc p < 4294967296 := Crc.upd_lt _ (by decide) hrp.lt
    have hd : undig [t0, t1, t2, t3] < 4294967296 := by
      have := undig_lt [t0, t1, t2, t3] (fun x hx => hrow.lt x (List.mem_append_right _ hx))
      simpa using this
    have HC : Hid (∀ m, Calls Tryz.prog 88 #[.pointer (some ⟨tb, 0, none⟩), .slice (some ⟨b, o, none⟩) p.length cap] (w.drewN m) fun r w' => r = .returned (.int .u32 ((Crc.crc p : Nat) : Int)) ∧ ∃ n, w' = (w.drewN m).drewN n) := fun m => checksum_any p tb cap (some ⟨b, o, none⟩) (w.drewN m) hcap2 (by omega) (hT.below (drewN_below _ _ _)) (hrp.drewN m)
    have g5 := E.cell 5 (by omega)
    have hcp : p.length + 4 ≤ cap := by omega
    rw [hgl]
    by_cases he : Crc.crc p = undig [t0, t1, t2, t3]
    · have hz : zopen Crc.crc got = (p, none) := by unfold zopen; rw [if_neg hs, hp, ht, if_pos he]
      rw [hz]
      have HF : Hid (∀ m, OpPost w e (some ⟨b, o, none⟩) (p, none) (.returned (.tuple #[.slice (some ⟨b, o, none⟩) p.length cap, .nilIface])) (w.drewN m)) := fun m => ⟨_, cap, rfl, hrp.drewN m, (by show p.length ≤ cap; omega), hcap2, fun _ => rfl, (fun h0 => by cases h0), (fun i hi => by cases hi), m, rfl⟩
      rw [he] at HC
      clear E hrow hp ht hg hrp hz he hu hpl hgl hs hcap
      generalize undig [t0, t1, t2, t3] = q at *
      go_enter Tryz.func77, Tryz.ntmps77
      go_wp2_with fail
      refine Calls.mono HS.out ?_
      rintro r w1 ⟨rfl, m, rfl⟩
      go_wp2_with fail
      refine Calls.mono (HC.out m) ?_
      rintro r w2 ⟨rfl, m2, rfl⟩
      go_wp2
      go_ret2
      exact HF.out _
    · have hz : zopen Crc.crc got = ([], some 5) := by unfold zopen; rw [if_neg hs, hp, ht, if_neg he]
      rw [hz]
      have HF : Hid (∀ m n, OpPost w e (some ⟨b, o, none⟩) ([], some 5) (.returned (.tuple #[.slice none 0 0, .iface 146 (.pointer (some (e 5)))])) ((w.drewN m).drewN n)) := fun m n => ⟨none, 0, rfl, BRow.nil _ _, Nat.le_refl _, by omega, fun h0 => absurd rfl h0, fun _ => rfl, fun i hi => (by cases hi; omega), m + n, by simp⟩
      obtain ⟨q1, hq1⟩ : ∃ q1, Crc.crc p = q1 := ⟨_, rfl⟩
      obtain ⟨q2, hq2⟩ : ∃ q2, undig [t0, t1, t2, t3] = q2 := ⟨_, rfl⟩
      rw [hq1] at HC he hu
      rw [hq2] at HS he hd
      have hne : ((q1 : Int) != (q2 : Int)) = true := by simp; omega
      clear E hrow hp ht hg hrp hz he hq1 hq2 hpl hgl hs hcap
      go_enter Tryz.func77, Tryz.ntmps77
      go_wp2_with fail
      refine Calls.mono HS.out ?_
      rintro r w1 ⟨rfl, m, rfl⟩
      go_wp2_with fail
      refine Calls.mono (HC.out m) ?_
      rintro r w2 ⟨rfl, m2, rfl⟩
      go_wp2
      go_quiet (fail)
      go_wp2
      go_ret2
      exact HF.out _ _

set_option maxRecDepth 100000 in
set_option maxHeartbeats 1000000 in
theorem openF_any {w : World} {e : Nat → Addr} (got : List Nat) (ao : Option Addr) (cap : Nat) (E : Errs w e) (hrow : BRow w ao got) (hcap : got.length ≤ cap) (hcap2 : cap ≤ 9223372036854775807) :
    Calls Tryz.prog 79 #[.slice ao got.length cap] w (OpPost w e ao (zopen Flt.fl got)) := by
  have hI : Tryz.prog.isIface 71 = true := by kernel_rfl
  by_cases hs : got.length < 4
  · have hz : zopen Flt.fl got = ([], some 0) := by unfold zopen; rw [if_pos hs]
    rw [hz]
    refine (openF_short got.length cap ao e w E hs).mono ?_
    rintro r w' ⟨rfl, m, hw⟩
    exact ⟨none, 0, rfl, BRow.nil _ _, Nat.le_refl _, by omega, fun h0 => absurd rfl h0, fun _ => rfl, fun i hi => by cases hi; omega, m, hw⟩
  · obtain ⟨p, hp⟩ : ∃ p, got.take (got.length - 4) = p := ⟨_, rfl⟩
    obtain ⟨t0, t1, t2, t3, ht⟩ : ∃ t0 t1 t2 t3, got.drop (got.length - 4) = [t0, t1, t2, t3] := four_of (by rw [List.length_drop]; omega)
    have hg : got = p ++ [t0, t1, t2, t3] := by rw [← hp, ← ht, List.take_append_drop]
    have hpl : p.length = got.length - 4 := by rw [← hp, List.length_take]; omega
    have hgl : got.length = p.length + 4 := by omega
    obtain ⟨b, o, rfl, _⟩ := hrow.row (by intro h0; rw [h0] at hs; simp at hs)
    rw [hg] at hrow
    have HS : Hid (Calls Tryz.prog 94 #[.slice (some ⟨b, o, none⟩) (p.length + 4) cap] w fun r w' => r = .returned (.tuple #[.slice (some ⟨b, o, none⟩) p.length cap, .int .u32 ((undig [t0, t1, t2, t3] : Nat) : Int), .nilIface]) ∧ ∃ m, w' = w.drewN m) := split_ok p t0 t1 t2 t3 b o cap w hrow (by omega) hcap2
    have hrp : BRow w (some ⟨b, o, none⟩) p := by have := hrow.take p.length; rw [List.take_left] at this; exact this
    have hu : Flt.fl p < 4294967296 := Flt.fl_lt p
    have hd : undig [t0, t1, t2, t3] < 4294967296 := by
      have := undig_lt [t0, t1, t2, t3] (fun x hx => hrow.lt x (List.mem_append_right _ hx))
      simpa using this
    have HC : Hid (∀ m, Calls Tryz.prog 89 #[.slice (some ⟨b, o, none⟩) p.length cap] (w.drewN m) fun r w' => r = .returned (.int .u32 ((Flt.fl p : Nat) : Int)) ∧ ∃ n, w' = (w.drewN m).drewN n) := fun m => fletcher_any p cap (some ⟨b, o, none⟩) (w.drewN m) hcap2 (by omega) (hrp.drewN m)
    have g5 := E.cell 5 (by omega)
    have hcp : p.length + 4 ≤ cap := by omega
    rw [hgl]
    by_cases he : Flt.fl p = undig [t0, t1, t2, t3]
    · have hz : zopen Flt.fl got = (p, none) := by unfold zopen; rw [if_neg hs, hp, ht, if_pos he]
      rw [hz]
      have HF : Hid (∀ m, OpPost w e (some ⟨b, o, none⟩) (p, none) (.returned (.tuple #[.slice (some ⟨b, o, none⟩) p.length cap, .nilIface])) (w.drewN m)) := fun m => ⟨_, cap, rfl, hrp.drewN m, (by show p.length ≤ cap; omega), hcap2, fun _ => rfl, (fun h0 => by cases h0), (fun i hi => by cases hi), m, rfl⟩
      rw [he] at HC
      clear E hrow hp ht hg hrp hz he hu hpl hgl hs hcap
      generalize undig [t0, t1, t2, t3] = q at *
      go_enter Tryz.func79, Tryz.ntmps79
      go_wp2_with fail
      refine Calls.mono HS.out ?_
      rintro r w1 ⟨rfl, m, rfl⟩
      go_wp2_with fail
      refine Calls.mono (HC.out m) ?_
      rintro r w2 ⟨rfl, m2, rfl⟩
      go_wp2
      go_ret2
      exact HF.out _
    · have hz : zopen Flt.fl got = ([], some 5) := by unfold zopen; rw [if_neg hs, hp, ht, if_neg he]
      rw [hz]
      have HF : Hid (∀ m n, OpPost w e (some ⟨b, o, none⟩) ([], some 5) (.returned (.tuple #[.slice none 0 0, .iface 146 (.pointer (some (e 5)))])) ((w.drewN m).drewN n)) := fun m n => ⟨none, 0, rfl, BRow.nil _ _, Nat.le_refl _, by omega, fun h0 => absurd rfl h0, fun _ => rfl, fun i hi => (by cases hi; omega), m + n, by simp⟩
      obtain ⟨q1, hq1⟩ : ∃ q1, Flt.fl p = q1 := ⟨_, rfl⟩
      obtain ⟨q2, hq2⟩ : ∃ q2, undig [t0, t1, t2, t3] = q2 := ⟨_, rfl⟩
      rw [hq1] at HC he hu
      rw [hq2] at HS he hd
      have hne : ((q1 : Int) != (q2 : Int)) = true := by simp; omega
      clear E hrow hp ht hg hrp hz he hq1 hq2 hpl hgl hs hcap
      go_enter Tryz.func79, Tryz.ntmps79
      go_wp2_with fail
      refine Calls.mono HS.out ?_
      rintro r w1 ⟨rfl, m, rfl⟩
      go_wp2_with fail
      refine Calls.mono (HC.out m) ?_
      rintro r w2 ⟨rfl, m2, rfl⟩
      go_wp2
      go_quiet (fail)
      go_wp2
      go_ret2
      exact HF.out _ _
end Go.Proofs.Qxb6500698aGreatDoor
