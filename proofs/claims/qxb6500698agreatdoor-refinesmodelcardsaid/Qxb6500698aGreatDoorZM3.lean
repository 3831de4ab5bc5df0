/-
  THE MODEL's HELPERS: read, check.
-/
import Derived.Test.Qxb6500698aGreatDoorZM2
namespace Go.Proofs.Qxb6500698aGreatDoor
open Go.RowKit
/-- What the model's read and check leave. -/
def MTk (B : Nat) (w : World) (l : Ml) (s : ZSt) (z : List Nat × List Nat × Option Nat) (r : Ending) (w' : World) : Prop :=
  ∃ a c ia' ic', r = .returned (.slice a z.1.length c) ∧ BRow w' a z.1 ∧ z.1.length ≤ c ∧ c ≤ 9223372036854775807 ∧ MSt B w w' l { l with ia := ia', ic := ic' } s (zrs s z.2.1 z.2.2)
section
variable {B : Nat} {w w1 : World} {l : Ml} {s : ZSt}
theorem MTk.nil {I : List Nat} {ie : Option Nat} {w' : World} (h : MSt B w w' l l s (zrs s I ie)) : MTk B w l s ([], I, ie) (.returned (.slice none 0 0)) w' := ⟨none, 0, l.ia, l.ic, rfl, BRow.nil _ _, Nat.le_refl _, by omega, h⟩

set_option maxRecDepth 100000 in
set_option maxHeartbeats 2000000 in
theorem mread_any (n : Int) (_hn1 : -9223372036854775808 ≤ n) (_hn2 : n ≤ 9223372036854775807) (h : ZM B w l s) :
    Calls Tryz.prog 48 #[.pointer (some ⟨l.sb, 0, none⟩), .int .i64 n] w (MTk B w l s (zrd s.I s.ie n)) := by
  have c4 : w.cell? ⟨l.sb, 4, none⟩ = some (.slice l.ia s.I.length l.ic) := h.cell 4
  have c5 : w.cell? ⟨l.sb, 5, none⟩ = some (.int .u8 (errCode s.ie : Int)) := h.cell 5
  have f4 := h.fr 4
  have f5 := h.fr 5
  have hil := h.il
  have hic := h.ic1
  have hic2 := h.ic2
  have hz0 := errCode_zero (x := s.ie)
  by_cases hie : s.ie = none
  · rw [decide_eq_true hie] at hz0
    by_cases hneg : n < 0
    · have hz : zrd s.I s.ie n = ([], s.I, some 2) := by unfold zrd; rw [if_pos hie, if_pos hneg]
      rw [hz]
      have HF : Hid (MTk B w l s ([], s.I, some 2) (.returned (.slice none 0 0)) (w.setCell ⟨l.sb, 5, none⟩ (.int .u8 (3 : Int)))) := MTk.nil (h.ie (some 2))
      clear h hz
      generalize hec : errCode s.ie = ec at *
      clear hec
      go_enter Tryz.func48, Tryz.ntmps48
      go_wp2
      go_ret
      exact HF.out
    · obtain ⟨k, rfl⟩ : ∃ k : Nat, n = (k : Int) := ⟨n.toNat, by omega⟩
      have hneg' : ¬ (k : Int) < 0 := by omega
      by_cases hbig : (s.I.length : Int) < (k : Int)
      · have hz : zrd s.I s.ie (k : Int) = ([], s.I, some 0) := by unfold zrd; rw [if_pos hie, if_neg hneg, if_pos hbig]
        rw [hz]
        have HF : Hid (MTk B w l s ([], s.I, some 0) (.returned (.slice none 0 0)) (w.setCell ⟨l.sb, 5, none⟩ (.int .u8 (1 : Int)))) := MTk.nil (h.ie (some 0))
        clear h hz
        generalize hec : errCode s.ie = ec at *
        clear hec
        go_enter Tryz.func48, Tryz.ntmps48
        go_wp2
        go_ret
        exact HF.out
      · have hz : zrd s.I s.ie (k : Int) = (s.I.take k, s.I.drop k, none) := by unfold zrd; rw [if_pos hie, if_neg hneg, if_neg hbig]; rfl
        rw [hz]
        have hkL : k ≤ s.I.length := by omega
        have htl : (s.I.take k).length = k := by rw [List.length_take]; omega
        have hdl : (s.I.drop k).length = s.I.length - k := List.length_drop
        -- the general end
        have HG : ∀ a a2 c2, BRow w a2 (s.I.drop k) → s.I.length - k ≤ c2 → c2 ≤ 9223372036854775807 → BRow w a (s.I.take k) → (s.I ≠ [] → blk a = blk l.ia ∧ blk a2 = blk l.ia) → MTk B w l s (s.I.take k, s.I.drop k, none) (.returned (.slice a k l.ic)) (w.setCell ⟨l.sb, 4, none⟩ (.slice a2 (s.I.length - k) c2)) := fun a a2 c2 h1 h2 h3 h4 h5 => by
          have hO : Only l.sb w (w.setCell ⟨l.sb, 4, none⟩ (.slice a2 (s.I.length - k) c2)) := (Only.refl _ _).setCell _ _
          have hMI : ∀ (x : Option Addr) b o, x = some ⟨b, o, none⟩ → blk x = blk l.ia → s.I ≠ [] → MI l s b := fun x b o hx hb h0 => by
            obtain ⟨b', o', ha, _⟩ := h.rowI.row h0
            rw [hx, ha] at hb
            have e1 : b = b' := Option.some.inj hb
            exact ⟨h0, o', by rw [ha, e1]⟩
          have h6 := h.inp (a := a2) (c := c2) (I := s.I.drop k) h1 (by rw [hdl]; exact h2) h3 (by rw [hdl]; omega) (fun h0 b o he => .inl (hMI a2 b o he (h5 (fun e => h0 (by rw [e]; simp))).2 (fun e => h0 (by rw [e]; simp)))) (Below.refl _ _) (fun h0 b o he => .inl (hMI a2 b o he (h5 (fun e => h0 (by rw [e]; simp))).2 (fun e => h0 (by rw [e]; simp))))
          rw [hdl] at h6
          refine ⟨a, l.ic, a2, c2, by rw [htl], brow_keep h4 (fun h0 b o he => hO.block b ?_), by rw [htl]; omega, hic2, ?_⟩
          · have h7 : s.I ≠ [] := fun e => h0 (by show s.I.take k = []; rw [e]; simp)
            exact (h.nI b (hMI a b o he (h5 h7).1 h7)).1
          · have h8 : zrs s (s.I.drop k) none = { s with I := s.I.drop k } := by unfold zrs; rw [← hie]
            rw [h8]
            exact h6
        by_cases hne : s.I = []
        · have hk0 : k = 0 := by rw [hne] at hkL; simpa using hkL
          subst hk0
          have hL0 : s.I.length = 0 := by rw [hne]; rfl
          have HF : Hid (∀ a2 c2, c2 ≤ 9223372036854775807 → MTk B w l s (s.I.take 0, s.I.drop 0, none) (.returned (.slice l.ia 0 l.ic)) (w.setCell ⟨l.sb, 4, none⟩ (.slice a2 0 c2))) := fun a2 c2 h1 => by
            have h2 := HG l.ia a2 c2 (by rw [hne]; exact BRow.nil _ _) (by rw [hL0]; exact Nat.zero_le _) h1 (by rw [hne]; exact BRow.nil _ _) (fun h0 => absurd hne h0)
            rw [hL0] at h2
            exact h2
          rw [hL0] at c4 hic
          clear h hz HG htl hdl hbig hkL hneg hneg'
          generalize hec : errCode s.ie = ec at *
          clear hec
          go_enter Tryz.func48, Tryz.ntmps48
          go_wp2
          go_ret
          exact HF.out _ _ hic2
        · obtain ⟨b, o, hia, hcell⟩ := h.rowI.row hne
          rw [hia] at c4
          have hrI := h.rowI
          rw [hia] at hrI
          by_cases hkc : k = l.ic
          · have HF : Hid (MTk B w l s (s.I.take k, s.I.drop k, none) (.returned (.slice (some ⟨b, o, none⟩) k l.ic)) (w.setCell ⟨l.sb, 4, none⟩ (.slice (some ⟨b, o, none⟩) 0 0))) := by
              have h2 := HG (some ⟨b, o, none⟩) (some ⟨b, o, none⟩) 0 (by rw [List.drop_of_length_le (by omega)]; exact BRow.nil _ _) (by omega) (by omega) (hrI.take k) (fun _ => ⟨by rw [hia], by rw [hia]⟩)
              rw [show s.I.length - k = 0 by omega] at h2
              exact h2
            have hLk : s.I.length = k := by omega
            have hck : l.ic = k := hkc.symm
            rw [hLk, hck] at c4
            rw [hck] at HF
            rw [hLk] at hil
            have hbig' : ¬ (k : Int) < (k : Int) := by omega
            clear h hz HG htl hdl hbig hkL hneg hne hia hcell hrI hkc hic hic2 hLk hck
            generalize hec : errCode s.ie = ec at *
            clear hec
            go_enter Tryz.func48, Tryz.ntmps48
            go_wp2
            go_ret
            exact HF.out
          · have HF : Hid (MTk B w l s (s.I.take k, s.I.drop k, none) (.returned (.slice (some ⟨b, o, none⟩) k l.ic)) (w.setCell ⟨l.sb, 4, none⟩ (.slice (some ⟨b, o + k, none⟩) (s.I.length - k) (l.ic - k)))) :=
              HG (some ⟨b, o, none⟩) (some ⟨b, o + k, none⟩) (l.ic - k) (hrI.drop k) (by omega) (by omega) (hrI.take k) (fun _ => ⟨by rw [hia], by rw [hia]; rfl⟩)
            obtain ⟨L, hL⟩ : ∃ L, s.I.length = L := ⟨_, rfl⟩
            obtain ⟨ic, hicc⟩ : ∃ ic, l.ic = ic := ⟨_, rfl⟩
            rw [hL, hicc] at c4 HF
            rw [hL] at hbig hil hkL hic
            rw [hicc] at hic hic2 hkc
            have hkic : (k : Int) ≤ (ic : Int) := by omega
            have hkic2 : ¬ ic = k := by omega
            have hkL' : (k : Int) ≤ (L : Int) := by omega
            clear h hz HG htl hdl hneg hne hia hcell hrI hL hicc
            generalize hec : errCode s.ie = ec at *
            clear hec
            go_enter Tryz.func48, Tryz.ntmps48
            go_wp2
            go_ret
            exact HF.out
  · have hz : zrd s.I s.ie n = ([], s.I, s.ie) := by unfold zrd; rw [if_neg hie]
    rw [hz]
    rw [decide_eq_false hie] at hz0
    have HF : Hid (MTk B w l s ([], s.I, s.ie) (.returned (.slice none 0 0)) w) := MTk.nil (MSt.refl h)
    clear h hz
    generalize hec : errCode s.ie = ec at *
    clear hec
    go_enter Tryz.func48, Tryz.ntmps48
    go_wp2
    go_ret
    exact HF.out
end
end Go.Proofs.Qxb6500698aGreatDoor
