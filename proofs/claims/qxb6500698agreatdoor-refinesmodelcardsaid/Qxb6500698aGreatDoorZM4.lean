/-
  THE MODEL's HELPER check.
-/
import Derived.Test.Qxb6500698aGreatDoorZM3
namespace Go.Proofs.Qxb6500698aGreatDoor
open Go.RowKit
section
variable {B : Nat} {w w1 : World} {l : Ml} {s : ZSt}
theorem zrd_all (I : List Nat) : zrd I none (I.length : Int) = (I, [], none) := by
  unfold zrd
  rw [if_pos rfl, if_neg (by omega), if_neg (by omega), Int.toNat_natCast, List.take_of_length_le (Nat.le_refl _), List.drop_length]

set_option maxRecDepth 100000 in
set_option maxHeartbeats 2000000 in
theorem mcheckC (h : ZM B w l s) :
    Calls Tryz.prog 49 #[.pointer (some ⟨l.sb, 0, none⟩), .func (.func 39) #[] #[]] w (MTk B w l s (zck Crc.crc s.I s.ie)) := by
  have c4 : w.cell? ⟨l.sb, 4, none⟩ = some (.slice l.ia s.I.length l.ic) := h.cell 4
  have c5 : w.cell? ⟨l.sb, 5, none⟩ = some (.int .u8 (errCode s.ie : Int)) := h.cell 5
  have hil := h.il
  have hz0 := errCode_zero (x := s.ie)
  by_cases hie : s.ie = none
  · rw [decide_eq_true hie] at hz0
    have hz : zck Crc.crc s.I s.ie = ((zopen Crc.crc s.I).1, [], (zopen Crc.crc s.I).2) := by unfold zck; rw [if_pos hie]
    rw [hz]
    have hRd := mread_any (s.I.length : Int) (by omega) (by omega) h
    rw [hie, zrd_all] at hRd
    have HRd : Hid (Calls Tryz.prog 48 #[.pointer (some ⟨l.sb, 0, none⟩), .int .i64 (s.I.length : Int)] w (MTk B w l s (s.I, [], none))) := hRd
    clear hRd hz
    obtain ⟨L, hL⟩ : ∃ L, s.I.length = L := ⟨_, rfl⟩
    by_cases h4 : L < 4
    · have hz : zopen Crc.crc s.I = ([], some 0) := by unfold zopen; rw [hL, if_pos h4]
      rw [hz]
      have HF : Hid (∀ V ia' ic', MSt B w V l { l with ia := ia', ic := ic' } s (zrs s [] none) → V.cell? ⟨l.sb, 5, none⟩ = some (.int .u8 0) ∧ V.frozen? ⟨l.sb, 5, none⟩ = false ∧ MTk B w l s ([], [], some 0) (.returned (.slice none 0 0)) (V.setCell ⟨l.sb, 5, none⟩ (.int .u8 (1 : Int)))) := fun V ia' ic' hS => by
        refine ⟨hS.zm.cell 5, hS.zm.fr 5, ⟨none, 0, ia', ic', rfl, BRow.nil _ _, Nat.le_refl _, by omega, hS.trans (hS.zm.ie (some 0))⟩⟩
      rw [hL] at HRd c4 hil
      have h4' : (L : Int) < 4 := by omega
      have HL : Hid (s.I.length = L) := hL
      clear h hz hL hie h4
      generalize hec : errCode s.ie = ec at *
      clear hec
      go_enter Tryz.func49, Tryz.ntmps49
      go_wp2_with fail
      refine Calls.mono HRd.out ?_
      rintro r V ⟨a, c, ia', ic', hr0, hrow, hc1, hc2, hS⟩
      have hr0 : r = .returned (.slice a s.I.length c) := hr0
      rw [HL.out] at hr0
      subst hr0
      obtain ⟨x1, x2, x3⟩ := HF.out V ia' ic' hS
      have HX : Hid _ := x3
      clear x3 hS hrow HF HRd
      go_wp2
      go_ret
      exact HX.out
    · obtain ⟨P, hP⟩ : ∃ P, L - 4 = P := ⟨_, rfl⟩
      have hne : s.I ≠ [] := by intro e; rw [e] at hL; simp at hL; omega
      have hzo : zopen Crc.crc s.I = if Crc.crc (s.I.take P) = undig (s.I.drop P) then (s.I.take P, none) else ([], some 5) := by unfold zopen; rw [hL, hP, if_neg h4]
      rw [hzo]
      have htl : (s.I.take P).length = P := by rw [List.length_take]; omega
      have hdl : (s.I.drop P).length = 4 := by rw [List.length_drop]; omega
      have HV : Hid (∀ V b o c, BRow V (some ⟨b, o, none⟩) s.I → Calls Tryz.prog 47 #[.slice (some ⟨b, o + P, none⟩) 4 c] V fun r w' => r = .returned (.int .u64 (undig (s.I.drop P) : Int)) ∧ w' = V) := fun V b o c hr => by
        have h1 := value_any (s.I.drop P) c (some ⟨b, o + P, none⟩) V (hr.drop P) (by omega)
        rw [hdl] at h1
        exact h1
      have HSu : Hid (∀ V b o c, BRow V (some ⟨b, o, none⟩) s.I → Calls Tryz.prog 39 #[.slice (some ⟨b, o, none⟩) P c] V fun r w' => r = .returned (.int .u32 (Crc.crc (s.I.take P) : Int)) ∧ w' = V) := fun V b o c hr => by
        have h1 := modelCrc_any (s.I.take P) c (some ⟨b, o, none⟩) V (by omega) (hr.take P)
        rw [htl] at h1
        exact h1
      have HA : Hid (∀ V a, BRow V a s.I → ∃ b o, a = some ⟨b, o, none⟩) := fun V a hr => by
        obtain ⟨b, o, ha, _⟩ := hr.row hne
        exact ⟨b, o, ha⟩
      have hul : undig (s.I.drop P) < 4294967296 := by
        have h1 := undig_lt (s.I.drop P) (fun x hx => h.rowI.lt x (List.mem_of_mem_drop hx))
        rw [hdl] at h1
        exact h1
      have hsl : Crc.crc (s.I.take P) < 4294967296 := Crc.upd_lt _ (by decide) (fun x hx => h.rowI.lt x (List.mem_of_mem_take hx))
      have HF : Hid (∀ V ia' ic', MSt B w V l { l with ia := ia', ic := ic' } s (zrs s [] none) → V.cell? ⟨l.sb, 5, none⟩ = some (.int .u8 0) ∧ V.frozen? ⟨l.sb, 5, none⟩ = false ∧ MTk B w l s ([], [], some 5) (.returned (.slice none 0 0)) (V.setCell ⟨l.sb, 5, none⟩ (.int .u8 (6 : Int)))) := fun V ia' ic' hS => by
        refine ⟨hS.zm.cell 5, hS.zm.fr 5, ⟨none, 0, ia', ic', rfl, BRow.nil _ _, Nat.le_refl _, by omega, hS.trans (hS.zm.ie (some 5))⟩⟩
      have HT : Hid (∀ V b o c ia' ic', BRow V (some ⟨b, o, none⟩) s.I → L ≤ c → c ≤ 9223372036854775807 → MSt B w V l { l with ia := ia', ic := ic' } s (zrs s [] none) → MTk B w l s (s.I.take P, [], none) (.returned (.slice (some ⟨b, o, none⟩) P c)) V) := fun V b o c ia' ic' hr h1 h2 hS => ⟨some ⟨b, o, none⟩, c, ia', ic', by rw [htl], hr.take P, by rw [htl]; omega, h2, hS⟩
      rw [hL] at HRd c4 hil
      have h4' : ¬ (L : Int) < 4 := by omega
      have hLP : (L : Int) - 4 = (P : Int) := by omega
      have hwP : IntKind.i64.wrap (P : Int) = (P : Int) := by simp [IntKind.wrap, IntKind.bits, IntKind.signed]; omega
      have hPL : (P : Int) ≤ (L : Int) := by omega
      have hL4 : L - P = 4 := by omega
      have HL : Hid (s.I.length = L) := hL
      have h4n : ¬ L < 4 := h4
      clear h hzo hL hie h4 htl hdl hne
      generalize hec : errCode s.ie = ec at *
      clear hec
      generalize hsu : Crc.crc (s.I.take P) = su at *
      generalize hun : undig (s.I.drop P) = un at *
      clear hsu hun
      by_cases heq : su = un
      · subst heq
        rw [if_pos rfl]
        go_enter Tryz.func49, Tryz.ntmps49
        go_wp2_with fail
        refine Calls.mono HRd.out ?_
        rintro r V ⟨a, c, ia', ic', hr0, hrow, hc1, hc2, hS⟩
        obtain ⟨b, o, rfl⟩ := HA.out V a hrow
        have hc1 : s.I.length ≤ c := hc1
        rw [HL.out] at hc1
        have hr0 : r = .returned (.slice (some ⟨b, o, none⟩) s.I.length c) := hr0
        rw [HL.out] at hr0
        subst hr0
        have HX : Hid _ := HT.out V b o c ia' ic' hrow hc1 hc2 hS
        have hPc : (P : Int) ≤ (c : Int) := by omega
        have hcP : ¬ c = P := by omega
        have HV1 : Hid _ := HV.out V b o (c - P) hrow
        have HS1 : Hid _ := HSu.out V b o c hrow
        clear hS hrow HF HRd HV HSu HA HT c4 c5
        go_wp2_with fail
        refine Calls.mono HV1.out ?_
        rintro r _ ⟨rfl, rfl⟩
        clear HV1
        go_wp2_with fail
        refine Calls.mono HS1.out ?_
        rintro r _ ⟨rfl, rfl⟩
        clear HS1
        go_wp2
        go_ret
        exact HX.out
      · rw [if_neg heq]
        have hbn : ((un : Int) != (su : Int)) = true := by simp; omega
        go_enter Tryz.func49, Tryz.ntmps49
        go_wp2_with fail
        refine Calls.mono HRd.out ?_
        rintro r V ⟨a, c, ia', ic', hr0, hrow, hc1, hc2, hS⟩
        obtain ⟨b, o, rfl⟩ := HA.out V a hrow
        have hc1 : s.I.length ≤ c := hc1
        rw [HL.out] at hc1
        have hr0 : r = .returned (.slice (some ⟨b, o, none⟩) s.I.length c) := hr0
        rw [HL.out] at hr0
        subst hr0
        obtain ⟨x1, x2, x3⟩ := HF.out V ia' ic' hS
        have HX : Hid _ := x3
        have hPc : (P : Int) ≤ (c : Int) := by omega
        have hcP : ¬ c = P := by omega
        have HV1 : Hid _ := HV.out V b o (c - P) hrow
        have HS1 : Hid _ := HSu.out V b o c hrow
        clear hS hrow HF HRd HV HSu HA HT c4 c5 x3
        go_wp2_with fail
        refine Calls.mono HV1.out ?_
        rintro r _ ⟨rfl, rfl⟩
        clear HV1
        go_wp2_with fail
        refine Calls.mono HS1.out ?_
        rintro r _ ⟨rfl, rfl⟩
        clear HS1
        go_wp2
        go_ret
        exact HX.out
  · have hz : zck Crc.crc s.I s.ie = ([], s.I, s.ie) := by unfold zck; rw [if_neg hie]
    rw [hz]
    rw [decide_eq_false hie] at hz0
    have HF : Hid (MTk B w l s ([], s.I, s.ie) (.returned (.slice none 0 0)) w) := MTk.nil (MSt.refl h)
    clear h hz
    generalize hec : errCode s.ie = ec at *
    clear hec
    go_enter Tryz.func49, Tryz.ntmps49
    go_wp2
    go_ret
    exact HF.out

set_option maxRecDepth 100000 in
set_option maxHeartbeats 2000000 in
theorem mcheckF (h : ZM B w l s) :
    Calls Tryz.prog 49 #[.pointer (some ⟨l.sb, 0, none⟩), .func (.func 40) #[] #[]] w (MTk B w l s (zck Flt.fl s.I s.ie)) := by
  have c4 : w.cell? ⟨l.sb, 4, none⟩ = some (.slice l.ia s.I.length l.ic) := h.cell 4
  have c5 : w.cell? ⟨l.sb, 5, none⟩ = some (.int .u8 (errCode s.ie : Int)) := h.cell 5
  have hil := h.il
  have hz0 := errCode_zero (x := s.ie)
  by_cases hie : s.ie = none
  · rw [decide_eq_true hie] at hz0
    have hz : zck Flt.fl s.I s.ie = ((zopen Flt.fl s.I).1, [], (zopen Flt.fl s.I).2) := by unfold zck; rw [if_pos hie]
    rw [hz]
    have hRd := mread_any (s.I.length : Int) (by omega) (by omega) h
    rw [hie, zrd_all] at hRd
    have HRd : Hid (Calls Tryz.prog 48 #[.pointer (some ⟨l.sb, 0, none⟩), .int .i64 (s.I.length : Int)] w (MTk B w l s (s.I, [], none))) := hRd
    clear hRd hz
    obtain ⟨L, hL⟩ : ∃ L, s.I.length = L := ⟨_, rfl⟩
    by_cases h4 : L < 4
    · have hz : zopen Flt.fl s.I = ([], some 0) := by unfold zopen; rw [hL, if_pos h4]
      rw [hz]
      have HF : Hid (∀ V ia' ic', MSt B w V l { l with ia := ia', ic := ic' } s (zrs s [] none) → V.cell? ⟨l.sb, 5, none⟩ = some (.int .u8 0) ∧ V.frozen? ⟨l.sb, 5, none⟩ = false ∧ MTk B w l s ([], [], some 0) (.returned (.slice none 0 0)) (V.setCell ⟨l.sb, 5, none⟩ (.int .u8 (1 : Int)))) := fun V ia' ic' hS => by
        refine ⟨hS.zm.cell 5, hS.zm.fr 5, ⟨none, 0, ia', ic', rfl, BRow.nil _ _, Nat.le_refl _, by omega, hS.trans (hS.zm.ie (some 0))⟩⟩
      rw [hL] at HRd c4 hil
      have h4' : (L : Int) < 4 := by omega
      have HL : Hid (s.I.length = L) := hL
      clear h hz hL hie h4
      generalize hec : errCode s.ie = ec at *
      clear hec
      go_enter Tryz.func49, Tryz.ntmps49
      go_wp2_with fail
      refine Calls.mono HRd.out ?_
      rintro r V ⟨a, c, ia', ic', hr0, hrow, hc1, hc2, hS⟩
      have hr0 : r = .returned (.slice a s.I.length c) := hr0
      rw [HL.out] at hr0
      subst hr0
      obtain ⟨x1, x2, x3⟩ := HF.out V ia' ic' hS
      have HX : Hid _ := x3
      clear x3 hS hrow HF HRd
      go_wp2
      go_ret
      exact HX.out
    · obtain ⟨P, hP⟩ : ∃ P, L - 4 = P := ⟨_, rfl⟩
      have hne : s.I ≠ [] := by intro e; rw [e] at hL; simp at hL; omega
      have hzo : zopen Flt.fl s.I = if Flt.fl (s.I.take P) = undig (s.I.drop P) then (s.I.take P, none) else ([], some 5) := by unfold zopen; rw [hL, hP, if_neg h4]
      rw [hzo]
      have htl : (s.I.take P).length = P := by rw [List.length_take]; omega
      have hdl : (s.I.drop P).length = 4 := by rw [List.length_drop]; omega
      have HV : Hid (∀ V b o c, BRow V (some ⟨b, o, none⟩) s.I → Calls Tryz.prog 47 #[.slice (some ⟨b, o + P, none⟩) 4 c] V fun r w' => r = .returned (.int .u64 (undig (s.I.drop P) : Int)) ∧ w' = V) := fun V b o c hr => by
        have h1 := value_any (s.I.drop P) c (some ⟨b, o + P, none⟩) V (hr.drop P) (by omega)
        rw [hdl] at h1
        exact h1
      have HSu : Hid (∀ V b o c, BRow V (some ⟨b, o, none⟩) s.I → Calls Tryz.prog 40 #[.slice (some ⟨b, o, none⟩) P c] V fun r w' => r = .returned (.int .u32 (Flt.fl (s.I.take P) : Int)) ∧ w' = V) := fun V b o c hr => by
        have h1 := modelFlt_any (s.I.take P) c (some ⟨b, o, none⟩) V (by omega) (hr.take P)
        rw [htl] at h1
        exact h1
      have HA : Hid (∀ V a, BRow V a s.I → ∃ b o, a = some ⟨b, o, none⟩) := fun V a hr => by
        obtain ⟨b, o, ha, _⟩ := hr.row hne
        exact ⟨b, o, ha⟩
      have hul : undig (s.I.drop P) < 4294967296 := by
        have h1 := undig_lt (s.I.drop P) (fun x hx => h.rowI.lt x (List.mem_of_mem_drop hx))
        rw [hdl] at h1
        exact h1
      have hsl : Flt.fl (s.I.take P) < 4294967296 := Flt.fl_lt _
      have HF : Hid (∀ V ia' ic', MSt B w V l { l with ia := ia', ic := ic' } s (zrs s [] none) → V.cell? ⟨l.sb, 5, none⟩ = some (.int .u8 0) ∧ V.frozen? ⟨l.sb, 5, none⟩ = false ∧ MTk B w l s ([], [], some 5) (.returned (.slice none 0 0)) (V.setCell ⟨l.sb, 5, none⟩ (.int .u8 (6 : Int)))) := fun V ia' ic' hS => by
        refine ⟨hS.zm.cell 5, hS.zm.fr 5, ⟨none, 0, ia', ic', rfl, BRow.nil _ _, Nat.le_refl _, by omega, hS.trans (hS.zm.ie (some 5))⟩⟩
      have HT : Hid (∀ V b o c ia' ic', BRow V (some ⟨b, o, none⟩) s.I → L ≤ c → c ≤ 9223372036854775807 → MSt B w V l { l with ia := ia', ic := ic' } s (zrs s [] none) → MTk B w l s (s.I.take P, [], none) (.returned (.slice (some ⟨b, o, none⟩) P c)) V) := fun V b o c ia' ic' hr h1 h2 hS => ⟨some ⟨b, o, none⟩, c, ia', ic', by rw [htl], hr.take P, by rw [htl]; omega, h2, hS⟩
      rw [hL] at HRd c4 hil
      have h4' : ¬ (L : Int) < 4 := by omega
      have hLP : (L : Int) - 4 = (P : Int) := by omega
      have hwP : IntKind.i64.wrap (P : Int) = (P : Int) := by simp [IntKind.wrap, IntKind.bits, IntKind.signed]; omega
      have hPL : (P : Int) ≤ (L : Int) := by omega
      have hL4 : L - P = 4 := by omega
      have HL : Hid (s.I.length = L) := hL
      have h4n : ¬ L < 4 := h4
      clear h hzo hL hie h4 htl hdl hne
      generalize hec : errCode s.ie = ec at *
      clear hec
      generalize hsu : Flt.fl (s.I.take P) = su at *
      generalize hun : undig (s.I.drop P) = un at *
      clear hsu hun
      by_cases heq : su = un
      · subst heq
        rw [if_pos rfl]
        go_enter Tryz.func49, Tryz.ntmps49
        go_wp2_with fail
        refine Calls.mono HRd.out ?_
        rintro r V ⟨a, c, ia', ic', hr0, hrow, hc1, hc2, hS⟩
        obtain ⟨b, o, rfl⟩ := HA.out V a hrow
        have hc1 : s.I.length ≤ c := hc1
        rw [HL.out] at hc1
        have hr0 : r = .returned (.slice (some ⟨b, o, none⟩) s.I.length c) := hr0
        rw [HL.out] at hr0
        subst hr0
        have HX : Hid _ := HT.out V b o c ia' ic' hrow hc1 hc2 hS
        have hPc : (P : Int) ≤ (c : Int) := by omega
        have hcP : ¬ c = P := by omega
        have HV1 : Hid _ := HV.out V b o (c - P) hrow
        have HS1 : Hid _ := HSu.out V b o c hrow
        clear hS hrow HF HRd HV HSu HA HT c4 c5
        go_wp2_with fail
        refine Calls.mono HV1.out ?_
        rintro r _ ⟨rfl, rfl⟩
        clear HV1
        go_wp2_with fail
        refine Calls.mono HS1.out ?_
        rintro r _ ⟨rfl, rfl⟩
        clear HS1
        go_wp2
        go_ret
        exact HX.out
      · rw [if_neg heq]
        have hbn : ((un : Int) != (su : Int)) = true := by simp; omega
        go_enter Tryz.func49, Tryz.ntmps49
        go_wp2_with fail
        refine Calls.mono HRd.out ?_
        rintro r V ⟨a, c, ia', ic', hr0, hrow, hc1, hc2, hS⟩
        obtain ⟨b, o, rfl⟩ := HA.out V a hrow
        have hc1 : s.I.length ≤ c := hc1
        rw [HL.out] at hc1
        have hr0 : r = .returned (.slice (some ⟨b, o, none⟩) s.I.length c) := hr0
        rw [HL.out] at hr0
        subst hr0
        obtain ⟨x1, x2, x3⟩ := HF.out V ia' ic' hS
        have HX : Hid _ := x3
        have hPc : (P : Int) ≤ (c : Int) := by omega
        have hcP : ¬ c = P := by omega
        have HV1 : Hid _ := HV.out V b o (c - P) hrow
        have HS1 : Hid _ := HSu.out V b o c hrow
        clear hS hrow HF HRd HV HSu HA HT c4 c5 x3
        go_wp2_with fail
        refine Calls.mono HV1.out ?_
        rintro r _ ⟨rfl, rfl⟩
        clear HV1
        go_wp2_with fail
        refine Calls.mono HS1.out ?_
        rintro r _ ⟨rfl, rfl⟩
        clear HS1
        go_wp2
        go_ret
        exact HX.out
  · have hz : zck Flt.fl s.I s.ie = ([], s.I, s.ie) := by unfold zck; rw [if_neg hie]
    rw [hz]
    rw [decide_eq_false hie] at hz0
    have HF : Hid (MTk B w l s ([], s.I, s.ie) (.returned (.slice none 0 0)) w) := MTk.nil (MSt.refl h)
    clear h hz
    generalize hec : errCode s.ie = ec at *
    clear hec
    go_enter Tryz.func49, Tryz.ntmps49
    go_wp2
    go_ret
    exact HF.out
end
end Go.Proofs.Qxb6500698aGreatDoor
