/-
  THE WALK OF Invert.
-/
import Derived.Test.Qxb6500697aDoorKInv
import Derived.Deep.Cut
import Derived.Deep.CutRange
namespace Go.Proofs.Qxb6500697aDoor
open Go.RowKit

theorem gjS_none {n : Nat} {A : Nat → Nat → Nat} {c : Nat} (h : gjS n A c = none) : ∀ d, gjS n A (c + d) = none
  | 0 => h
  | d + 1 => by rw [← Nat.add_assoc, gjS, gjS_none h d]; rfl

/-- What Invert leaves. -/
def invPost (w : World) (n : Nat) (A : Nat → Nat → Nat) (e : Ending) (w' : World) : Prop := Below w.heap.size w w' ∧
  match gjS n A n with
  | none => e = .returned (.tuple #[.slice none 0 0, .bool false])
  | some s => e = .returned (.tuple #[.slice (some ⟨w.heap.size + 1 + n, 0, none⟩) n n, .bool true]) ∧ ∃ gs, (∀ r, r < n → w.heap.size < gs r) ∧ MatAt w' (w.heap.size + 1 + n) n n gs s.2

theorem elim_skip (L M : Nat → Nat → Nat) (col r0 r c : Nat) (h : r0 = col ∨ L r0 col = 0) : elim L M col r0 r c = elim L M col (r0 + 1) r c := by
  unfold elim
  by_cases e : r = r0
  · subst e
    rw [if_neg (by omega)]
    rcases h with h | h
    · rw [if_neg (by omega)]
    · by_cases e2 : r = col
      · rw [if_neg (by omega)]
      · rw [if_pos ⟨by omega, e2⟩, h, gmul_zero, Nat.xor_zero]
  · by_cases h2 : r < r0 ∧ r ≠ col
    · rw [if_pos h2, if_pos ⟨by omega, h2.2⟩]
    · rw [if_neg h2, if_neg (by omega)]

theorem elim_step (L M : Nat → Nat → Nat) (col n r0 r c : Nat) (hrc : r0 ≠ col) (hc : c < n) : (if r = r0 then madd n n (elim L M col r0 r0) (elim L M col r0 col) (L r0 col) else elim L M col r0 r) c = elim L M col (r0 + 1) r c := by
  by_cases e : r = r0
  · subst e
    rw [if_pos rfl]
    unfold madd elim
    rw [if_pos ⟨hc, hc⟩, if_neg (by omega), if_neg (by omega), if_pos ⟨by omega, hrc⟩]
  · rw [if_neg e]
    unfold elim
    by_cases h2 : r < r0 ∧ r ≠ col
    · rw [if_pos h2, if_pos ⟨by omega, h2.2⟩]
    · rw [if_neg h2, if_neg (by omega)]

theorem scal_step (M : Nat → Nat → Nat) (col sc c0 r c : Nat) : (if r = col then (fun j => if j = c0 then gmul (M col c0) sc else scal M col sc c0 col j) else scal M col sc c0 r) c = scal M col sc (c0 + 1) r c := by
  by_cases e : r = col
  · subst e
    simp only [if_true]
    by_cases e2 : c = c0
    · subst e2; simp [scal]
    · simp only [if_neg e2, scal]
      by_cases h : c < c0
      · simp [h, show c < c0 + 1 by omega]
      · simp [h, show ¬ c < c0 + 1 by omega]
  · simp [scal, e]

set_option maxRecDepth 100000 in
set_option maxHeartbeats 2000000 in
theorem invert_any (aa : Option Addr) (ca n : Nat) (A : Nat → Nat → Nat) (w : World) (hA : RMat w aa n n A) (hn : n ≤ 4096) :
    Calls Tryd.prog 64 #[.slice aa n ca] w fun e w' => invPost w n A e w' := by
  have HA : Hid (RMat w aa n n A) := hA
  clear hA
  go_enter Tryd.func64, Tryd.ntmps64
  go_wp2_with fail
  refine Calls.mono (zero_any n n w hn (by omega)) ?_
  rintro r w1 ⟨rfl, hM1, hb1, hsz1⟩
  go_wp2_with fail
  refine Calls.mono (identity_any n w1 hn) ?_
  rintro r w2 ⟨rfl, hM2, hb2, hsz2⟩
  rw [hsz1] at hM2 ⊢
  have HT0 : Hid (Two w w2 n (fun r => w.heap.size + 1 + r) (fun r => w.heap.size + 1 + n + 1 + r) (fun _ _ => 0) gone) :=
    ⟨hM1.below hb2, hM2, fun r hr => by omega, fun r hr => by omega, hb1.trans (hb2.mono hb1.size)⟩
  clear hM1 hM2 hb1 hb2 hsz1 hsz2
  go_wp2
  go_loopw [24] (fun i wr => ∃ k : Nat, k ≤ n ∧ i = .int .i64 k ∧ Two w wr n (fun r => w.heap.size + 1 + r) (fun r => w.heap.size + 1 + n + 1 + r) (fun r c => if r < k then A r c else 0) gone) (fun i _ => n - (intOf i).toNat)
  case atStart => exact ⟨0, Nat.zero_le _, rfl, Two.congr HT0.out (fun r _ c _ => by simp) (fun _ _ _ _ => rfl)⟩
  case round =>
    obtain ⟨k, hk, rfl, hT⟩ := hrel
    clear HT0
    by_cases hlt : k < n
    · obtain ⟨ab, oa, rfl, hAr⟩ := HA.out (by omega)
      obtain ⟨sa, ac, a1, a2, a3, a4⟩ := hAr k hlt
      have hl1 := cell_lt a1
      have x1 : wr.cell? ⟨ab, oa + k, none⟩ = some (.slice sa n ac) := (hT.bel.cell (p := ⟨ab, oa + k, none⟩) hl1).trans a1
      have x2 := hT.mL.hdr.cell hlt
      have a5 : FRow wr.drew sa n (A k) := (a4.below hT.bel).below (drewN_below wr 1 _)
      have hrowk := hT.drew.mL.row k hlt
      have HK : Hid (∀ w', Row w' (w.heap.size + 1 + k) n (fun i => if 0 ≤ i ∧ i < 0 + Nat.min n n then A k (i - 0) else (fun r c => if r < k then A r c else 0) k i) → Only (w.heap.size + 1 + k) wr.drew w' → Two w w' n (fun r => w.heap.size + 1 + r) (fun r => w.heap.size + 1 + n + 1 + r) (fun r c => if r < k + 1 then A r c else 0) gone) := by
        intro w' h1 h2
        refine (hT.drew.setL hlt h2 h1).congr (fun r hr c hc => ?_) (fun _ _ _ _ => rfl)
        by_cases e : r = k
        · subst e
          simp [hc]
        · simp only [if_neg e]
          by_cases h2 : r < k
          · rw [if_pos h2, if_pos (by omega)]
          · rw [if_neg h2, if_neg (by omega)]
      have HA5 : Hid _ := a5
      have HRK : Hid _ := hrowk
      have hlt' : (k : Int) < (n : Int) := by omega
      clear hT a4 a5 hrowk hAr a1
      go_wp2
      go_region_held3 (fun w' => w'.cell? ⟨w.heap.size, k, none⟩ = some (.slice (some ⟨w.heap.size + 1 + k, 0, none⟩) n n) ∧ w'.cell? ⟨ab, oa + k, none⟩ = some (.slice sa n ac))
        (first | go_keep | exact ⟨(H2.out.cell (by omega)).trans x2, (H2.out.cell (by omega)).trans x1⟩)
        (first | (refine step_copy_frow _ (by rfl) _ _ (by rfl) (w.heap.size + 1 + k) n 0 n n _ (by rfl) HRK.out (by omega) sa n ac (A k) (by rfl) HA5.out ?_; intro w3 h1 h2; have H1 : Hid _ := HK.out w3 h1 h2; have H2 : Hid (Only (w.heap.size + 1 + k) wr.drew w3) := h2; clear h1 h2))
      go_wp2
      go_roundw
      case rel => exact ⟨k + 1, by omega, by go_num, H1.out⟩
      case measure => simp [intOf]; omega
    · have hkn : k = n := by omega
      subst hkn
      have HT : Hid (Two w wr k (fun r => w.heap.size + 1 + r) (fun r => w.heap.size + 1 + k + 1 + r) A gone) := hT.congr (fun r hr c _ => by rw [if_pos hr]) (fun _ _ _ _ => rfl)
      clear hT hlt hk
      go_wp2
      go_loopw [8] (fun i wr => ∃ (col : Nat) (gL gR : Nat → Nat) (L R : Nat → Nat → Nat), col ≤ k ∧ i = .int .i64 col ∧ gjS k A col = some (L, R) ∧ Two w wr k gL gR L R) (fun i _ => k - (intOf i).toNat)
      case atStart => exact ⟨0, _, _, A, gone, Nat.zero_le _, rfl, rfl, HT.out⟩
      case round =>
        obtain ⟨col, gL, gR, L, R, hcol, rfl, hgj, hT⟩ := hrel
        clear HT
        by_cases hlt : col < k
        · have hlt' : (col : Int) < (k : Int) := by omega
          have HT : Hid (Two w wr k gL gR L R) := hT
          have HG : Hid (gjS k A col = some (L, R)) := hgj
          clear hT hgj
          go_wp2
          go_loop [9] (fun i => ∃ p : Nat, col ≤ p ∧ p ≤ k ∧ i = .int .i64 p ∧ pivN (fun r => L r col) k col (k - col) = pivN (fun r => L r col) k p (k - p)) (fun i => k - (intOf i).toNat)
          case atStart => exact ⟨col, Nat.le_refl _, hcol, rfl, rfl⟩
          case round =>
            obtain ⟨p, hp1, hp2, rfl, hpv⟩ := hrel
            by_cases hpk : p < k
            · obtain ⟨f, hf⟩ : ∃ f, k - p = f + 1 := ⟨k - p - 1, by omega⟩
              have hf2 : k - (p + 1) = f := by omega
              rw [hf, pivN] at hpv
              have c1 := HT.out.mL.hdr.cell hpk
              have c2 := (HT.out.mL.row p hpk).cell hlt
              have hl8 := (HT.out.mL.row p hpk).1 col hlt
              have hpk' : (p : Int) < (k : Int) := by omega
              by_cases h0 : L p col = 0
              · rw [if_pos ⟨hpk, h0⟩] at hpv
                rw [h0] at c2
                have HP : Hid (pivN (fun r => L r col) k col (k - col) = pivN (fun r => L r col) k (p + 1) (k - (p + 1))) := by show _ = _; rw [hf2]; exact hpv
                clear hpv hf hf2 h0
                go_wp2
                go_round
                case rel => exact ⟨p + 1, by omega, by omega, by go_num, HP.out⟩
                case measure => simp [intOf]; omega
              · rw [if_neg (fun h => h0 h.2)] at hpv
                have HP : Hid (pivN (fun r => L r col) k col (k - col) = p) := hpv
                have hq' : ((L p col : Int) == 0) = false := by simp; omega
                have hpne : ((p : Int) == (k : Int)) = false := by simp; omega
                clear hpv hf hf2 h0
                have c3 := HT.out.mL.hdr.cell hlt
                have fr1 := HT.out.mL.hdr.frozen col
                have fr2 := HT.out.mL.hdr.frozen p
                have HTS : Hid (Two w ((wr.setCell ⟨w.heap.size, col, none⟩ (.slice (some ⟨gL p, 0, none⟩) k k)).setCell ⟨w.heap.size, p, none⟩ (.slice (some ⟨gL col, 0, none⟩) k k)) k (swapAt gL col p) gR (swapAt L col p) R) := HT.out.swapL hlt hpk
                obtain ⟨Y, hY⟩ : ∃ Y, (wr.setCell ⟨w.heap.size, col, none⟩ (.slice (some ⟨gL p, 0, none⟩) k k)).cell? ⟨w.heap.size, p, none⟩ = some Y := ⟨_, (HT.out.mL.hdr.set col _).cell hpk⟩
                go_wp2
                go_cut [] from 37 to 179 (fun wc => Two w wc k (swapAt gL col p) gR (swapAt L col p) R)
                case first =>
                  go_region
                  all_goals
                    go_wp2
                    go_meet
                    exact HTS.out.drew
                case rest =>
                  have HT1 : Hid (Two w wc k (swapAt gL col p) gR (swapAt L col p) R) := hcut
                  clear hcut HTS c1 c2 c3 fr1 fr2 hq' hpne hY HT hl8
                  obtain ⟨wa, hwa⟩ : ∃ wa, wa = wc := ⟨_, rfl⟩
                  subst hwa
                  obtain ⟨sc, hsc⟩ : ∃ sc, ginv (swapAt L col p col col) = sc := ⟨_, rfl⟩
                  have HGS : Hid (gjS k A (col + 1) = some (elim (scal (swapAt L col p) col sc k) (scal (swapAt L col p) col sc k) col k, elim (scal (swapAt L col p) col sc k) (scal (swapAt R col p) col sc k) col k)) := by
                    show gjS k A (col + 1) = _
                    rw [gjS, HG.out]
                    show gjStep k col (L, R) = _
                    unfold gjStep
                    simp only [HP.out, hsc]
                    rw [if_neg (by omega)]
                  have hsc8 : sc < 256 := by rw [← hsc]; exact ginv_lt _
                  have HSC : Hid (ginv (swapAt L col p col col) = sc) := hsc
                  clear hsc HP HG
                  obtain ⟨L1, hL1⟩ : ∃ L1, swapAt L col p = L1 := ⟨_, rfl⟩
                  obtain ⟨R1, hR1⟩ : ∃ R1, swapAt R col p = R1 := ⟨_, rfl⟩
                  obtain ⟨g1, hg1⟩ : ∃ g1, swapAt gL col p = g1 := ⟨_, rfl⟩
                  obtain ⟨g2, hg2⟩ : ∃ g2, swapAt gR col p = g2 := ⟨_, rfl⟩
                  rw [hL1] at HT1 HGS HSC
                  rw [hR1] at HGS
                  rw [hg1] at HT1
                  have c1 := HT1.out.mR.hdr.cell hpk
                  have c3 := HT1.out.mR.hdr.cell hlt
                  have fr1 := HT1.out.mR.hdr.frozen col
                  have fr2 := HT1.out.mR.hdr.frozen p
                  have HTS : Hid (Two w ((wa.setCell ⟨w.heap.size + 1 + k, col, none⟩ (.slice (some ⟨gR p, 0, none⟩) k k)).setCell ⟨w.heap.size + 1 + k, p, none⟩ (.slice (some ⟨gR col, 0, none⟩) k k)) k g1 g2 L1 R1) := by
                    have h := HT1.out.swapR hlt hpk
                    rw [hg2, hR1] at h
                    exact h
                  obtain ⟨Y, hY⟩ : ∃ Y, (wa.setCell ⟨w.heap.size + 1 + k, col, none⟩ (.slice (some ⟨gR p, 0, none⟩) k k)).cell? ⟨w.heap.size + 1 + k, p, none⟩ = some Y := ⟨_, (HT1.out.mR.hdr.set col _).cell hpk⟩
                  clear hL1 hR1 hg1 hg2
                  go_wp2
                  go_cut [] from 37 to 179 (fun wc => Two w wc k g1 g2 L1 R1)
                  case first =>
                    go_region
                    all_goals
                      go_wp2
                      go_meet
                      exact HTS.out.drew
                  case rest =>
                    have HT2 : Hid (Two w wc k g1 g2 L1 R1) := hcut
                    clear hcut HTS c1 c3 fr1 fr2 hY HT1
                    obtain ⟨wb, hwb⟩ : ∃ wb, wb = wc := ⟨_, rfl⟩
                    subst hwb
                    have c1 := HT2.out.mL.hdr.cell hlt
                    have c2 := (HT2.out.mL.row col hlt).cell hlt
                    have hx8 := (HT2.out.mL.row col hlt).1 col hlt
                    go_wp2_with fail
                    refine Calls.mono (inv_any (L1 col col) wb hx8) ?_
                    rintro r w' ⟨rfl, hw⟩
                    have hw := hw.symm; subst hw
                    rw [HSC.out]
                    clear HSC c1 c2 hx8
                    go_wp2
                    go_loopw [12] (fun i wr => ∃ c0 : Nat, c0 ≤ k ∧ i = .int .i64 c0 ∧ Two w wr k g1 g2 (scal L1 col sc c0) (scal R1 col sc c0)) (fun i _ => k - (intOf i).toNat)
                    case atStart => exact ⟨0, Nat.zero_le _, rfl, Two.congr HT2.out (fun r _ c _ => by simp [scal]) (fun r _ c _ => by simp [scal])⟩
                    case round =>
                      obtain ⟨c0, hc0, rfl, hT3⟩ := hrel
                      clear HT2
                      by_cases hck : c0 < k
                      · have hck' : (c0 : Int) < (k : Int) := by omega
                        have c1 := hT3.mL.hdr.cell hlt
                        have c2 := (hT3.mL.row col hlt).cell hck
                        have e1 : scal L1 col sc c0 col c0 = L1 col c0 := by simp [scal]
                        rw [e1] at c2
                        have fr := (hT3.mL.row col hlt).2.frozen c0
                        have hx8 := (hT3.mL.row col hlt).1 c0 hck
                        rw [e1] at hx8
                        have HTS : Hid (Two w (wr.setCell ⟨g1 col, c0, none⟩ (.int .u8 ((gmul (L1 col c0) sc : Nat) : Int))) k g1 g2 (scal L1 col sc (c0 + 1)) (scal R1 col sc c0)) := by
                          have hh := hT3.setL hlt ((Only.refl _ _).setCell c0 (.int .u8 ((gmul (L1 col c0) sc : Nat) : Int))) ((hT3.mL.row col hlt).set c0 _ (gmul_lt (L1 col c0) sc))
                          refine hh.congr (fun r hr c hc => ?_) (fun r hr c hc => ?_)
                          · exact scal_step L1 col sc c0 r c
                          · rfl
                        have HM : Hid (∀ W, Calls Tryd.prog 62 #[.int .u8 ((L1 col c0 : Nat) : Int), .int .u8 (sc : Int)] W fun r w' => r = .returned (.int .u8 ((gmul (L1 col c0) sc : Nat) : Int)) ∧ w' = W) := fun W => mul_any _ _ W hx8 hsc8
                        obtain ⟨x, hx⟩ : ∃ x, L1 col c0 = x := ⟨_, rfl⟩
                        rw [hx] at c2 HM HTS hx8
                        obtain ⟨y, hy⟩ : ∃ y, gmul x sc = y := ⟨_, rfl⟩
                        rw [hy] at HM HTS
                        clear hx hy e1
                        clear hT3
                        go_wp2
                        go_cut [] from 100 to 134 (fun wc => Two w wc k g1 g2 (scal L1 col sc (c0 + 1)) (scal R1 col sc c0))
                        case first =>
                          go_region_with (go_at_call 62; refine (HM.out _).mono ?_; rintro r w1 ⟨rfl, hw⟩; subst hw)
                          all_goals
                            go_wp2
                            go_meet
                            exact HTS.out.drew
                        case rest =>
                          have hT4 : Two w wc k g1 g2 (scal L1 col sc (c0 + 1)) (scal R1 col sc c0) := hcut
                          clear hcut HTS c1 c2 fr hx8 HM
                          obtain ⟨wd, hwd⟩ : ∃ wd, wd = wc := ⟨_, rfl⟩
                          subst hwd
                          have c1 := hT4.mR.hdr.cell hlt
                          have c2 := (hT4.mR.row col hlt).cell hck
                          have e1 : scal R1 col sc c0 col c0 = R1 col c0 := by simp [scal]
                          rw [e1] at c2
                          have fr := (hT4.mR.row col hlt).2.frozen c0
                          have hx8 := (hT4.mR.row col hlt).1 c0 hck
                          rw [e1] at hx8
                          have HTS : Hid (Two w (wd.setCell ⟨g2 col, c0, none⟩ (.int .u8 ((gmul (R1 col c0) sc : Nat) : Int))) k g1 g2 (scal L1 col sc (c0 + 1)) (scal R1 col sc (c0 + 1))) := by
                            have hh := hT4.setR hlt ((Only.refl _ _).setCell c0 (.int .u8 ((gmul (R1 col c0) sc : Nat) : Int))) ((hT4.mR.row col hlt).set c0 _ (gmul_lt (R1 col c0) sc))
                            refine hh.congr (fun r hr c hc => ?_) (fun r hr c hc => ?_)
                            · rfl
                            · exact scal_step R1 col sc c0 r c
                          have HM : Hid (∀ W, Calls Tryd.prog 62 #[.int .u8 ((R1 col c0 : Nat) : Int), .int .u8 (sc : Int)] W fun r w' => r = .returned (.int .u8 ((gmul (R1 col c0) sc : Nat) : Int)) ∧ w' = W) := fun W => mul_any _ _ W hx8 hsc8
                          obtain ⟨x, hx⟩ : ∃ x, R1 col c0 = x := ⟨_, rfl⟩
                          rw [hx] at c2 HM HTS hx8
                          obtain ⟨y, hy⟩ : ∃ y, gmul x sc = y := ⟨_, rfl⟩
                          rw [hy] at HM HTS
                          clear hx hy e1
                          clear hT4
                          go_wp2
                          go_region_with (go_at_call 62; refine (HM.out _).mono ?_; rintro r w1 ⟨rfl, hw⟩; subst hw)
                          all_goals
                            go_wp2
                            go_roundw
                            case rel => exact ⟨c0 + 1, by omega, by go_num, HTS.out.drew⟩
                            case measure => simp [intOf]; omega
                      · have hck2 : c0 = k := by omega
                        subst hck2
                        obtain ⟨L2, hL2⟩ : ∃ L2, scal L1 col sc c0 = L2 := ⟨_, rfl⟩
                        obtain ⟨R2, hR2⟩ : ∃ R2, scal R1 col sc c0 = R2 := ⟨_, rfl⟩
                        rw [hL2, hR2] at hT3
                        rw [hL2, hR2] at HGS
                        clear hL2 hR2
                        have HT3 : Hid (Two w wr c0 g1 g2 L2 R2) := hT3
                        clear hT3
                        go_wp2
                        go_loopw [13] (fun i wr => ∃ r0 : Nat, r0 ≤ c0 ∧ i = .int .i64 r0 ∧ Two w wr c0 g1 g2 (elim L2 L2 col r0) (elim L2 R2 col r0)) (fun i _ => c0 - (intOf i).toNat)
                        case atStart => exact ⟨0, Nat.zero_le _, rfl, Two.congr HT3.out (fun r _ c _ => by simp [elim]) (fun r _ c _ => by simp [elim])⟩
                        case round =>
                          obtain ⟨r0, hr0, rfl, hT6⟩ := hrel
                          clear HT3
                          by_cases hrk : r0 < c0
                          · have hrk' : (r0 : Int) < (c0 : Int) := by omega
                            have HT6 : Hid (Two w wr c0 g1 g2 (elim L2 L2 col r0) (elim L2 R2 col r0)) := hT6
                            clear hT6
                            by_cases hrc : r0 = col
                            · have HS1 : Hid (Two w wr c0 g1 g2 (elim L2 L2 col (r0 + 1)) (elim L2 R2 col (r0 + 1))) := Two.congr HT6.out (fun r _ c _ => elim_skip L2 L2 col r0 r c (.inl hrc)) (fun r _ c _ => elim_skip L2 R2 col r0 r c (.inl hrc))
                              subst hrc
                              clear HT6
                              go_wp2
                              go_roundw
                              case rel => exact ⟨r0 + 1, by omega, by go_num, HS1.out⟩
                              case measure => simp [intOf]; omega
                            · have hrc' : ((r0 : Int) == (col : Int)) = false := by simp; omega
                              have c1 := HT6.out.mL.hdr.cell hrk
                              have c2 := (HT6.out.mL.row r0 hrk).cell hlt
                              have hf8 := (HT6.out.mL.row r0 hrk).1 col hlt
                              have e1 : elim L2 L2 col r0 r0 col = L2 r0 col := by simp [elim]
                              rw [e1] at c2 hf8
                              by_cases h0 : L2 r0 col = 0
                              · have HS1 : Hid (Two w wr c0 g1 g2 (elim L2 L2 col (r0 + 1)) (elim L2 R2 col (r0 + 1))) := Two.congr HT6.out (fun r _ c _ => elim_skip L2 L2 col r0 r c (.inr h0)) (fun r _ c _ => elim_skip L2 R2 col r0 r c (.inr h0))
                                rw [h0] at c2
                                clear HT6 e1 h0
                                go_wp2
                                go_roundw
                                case rel => exact ⟨r0 + 1, by omega, by go_num, HS1.out⟩
                                case measure => simp [intOf]; omega
                              · have HA1 : Hid (∀ q, Calls Tryd.prog 67 #[.slice (some ⟨g1 r0, 0, none⟩) c0 c0, .slice (some ⟨g1 col, 0, none⟩) c0 c0, .int .u8 ((L2 r0 col : Nat) : Int)] (wr.drewN q) fun r w' => r = .returned (.tuple #[]) ∧ Two w w' c0 g1 g2 (elim L2 L2 col (r0 + 1)) (elim L2 R2 col r0) ∧ Only (g1 r0) wr w') := by
                                  intro q
                                  have hq := HT6.out.drewN q
                                  refine (mulAdd_any (g1 r0) c0 c0 (elim L2 L2 col r0 r0) (some ⟨g1 col, 0, none⟩) c0 c0 (elim L2 L2 col r0 col) (L2 r0 col) (wr.drewN q) (hq.mL.row r0 hrk) (hq.mL.row col hlt).frow ?_ hf8 (by omega) (by omega)).mono ?_
                                  · intro _ b o he e
                                    simp at he
                                    exact hrc (HT6.out.mL.inj r0 col hrk hlt (by omega))
                                  · rintro r w' ⟨rfl, h1, h2⟩
                                    exact ⟨rfl, (hq.setL hrk h2 h1).congr (fun r hr c hc => elim_step L2 L2 col c0 r0 r c hrc hc) (fun _ _ _ _ => rfl), ((Only.refl _ _).drewN q).trans h2⟩
                                have HA2 : Hid (∀ W, Two w W c0 g1 g2 (elim L2 L2 col (r0 + 1)) (elim L2 R2 col r0) → ∀ q, Calls Tryd.prog 67 #[.slice (some ⟨g2 r0, 0, none⟩) c0 c0, .slice (some ⟨g2 col, 0, none⟩) c0 c0, .int .u8 ((L2 r0 col : Nat) : Int)] (W.drewN q) fun r w' => r = .returned (.tuple #[]) ∧ Two w w' c0 g1 g2 (elim L2 L2 col (r0 + 1)) (elim L2 R2 col (r0 + 1)) ∧ Only (g2 r0) W w') := by
                                  intro W hW q
                                  have hq := hW.drewN q
                                  refine (mulAdd_any (g2 r0) c0 c0 (elim L2 R2 col r0 r0) (some ⟨g2 col, 0, none⟩) c0 c0 (elim L2 R2 col r0 col) (L2 r0 col) (W.drewN q) (hq.mR.row r0 hrk) (hq.mR.row col hlt).frow ?_ hf8 (by omega) (by omega)).mono ?_
                                  · intro _ b o he e
                                    simp at he
                                    exact hrc (hW.mR.inj r0 col hrk hlt (by omega))
                                  · rintro r w' ⟨rfl, h1, h2⟩
                                    exact ⟨rfl, (hq.setR hrk h2 h1).congr (fun _ _ _ _ => rfl) (fun r hr c hc => elim_step L2 R2 col c0 r0 r c hrc hc), ((Only.refl _ _).drewN q).trans h2⟩
                                have hn1 : w.heap.size ≠ g1 r0 := by have := HT6.out.rL r0 hrk; omega
                                have c3 := HT6.out.mL.hdr.cell hlt
                                have h0' : ((L2 r0 col : Int) != 0) = true := by simp; omega
                                have hb1 : ((r0 : Int) != (col : Int)) = true := by simp; omega
                                have hn2 : w.heap.size + 1 + c0 ≠ g2 r0 := by have := HT6.out.rR r0 hrk; omega
                                clear HT6 e1 h0
                                obtain ⟨fac, hfac⟩ : ∃ fac, L2 r0 col = fac := ⟨_, rfl⟩
                                rw [hfac] at c2 hf8 HA1 HA2 h0'
                                clear hfac
                                go_wp2
                                go_cut [] from 135 to 179 (fun wc => Two w wc c0 g1 g2 (elim L2 L2 col (r0 + 1)) (elim L2 R2 col r0))
                                case first =>
                                  go_region_held3 (fun w' => w'.cell? ⟨w.heap.size, r0, none⟩ = some (.slice (some ⟨g1 r0, 0, none⟩) c0 c0) ∧ w'.cell? ⟨w.heap.size, col, none⟩ = some (.slice (some ⟨g1 col, 0, none⟩) c0 c0))
                                    (first | go_keep | exact ⟨(H2.out.cell hn1).trans c1, (H2.out.cell hn1).trans c3⟩)
                                    (first | (go_at_call 67; refine (HA1.out 1).mono ?_; rintro r w3 ⟨rfl, h1, h2⟩; have H1 : Hid _ := h1; have H2 : Hid (Only (g1 r0) wr w3) := h2; clear h1 h2))
                                  go_wp2
                                  go_meet
                                  exact H1.out
                                case rest =>
                                  have HT7 : Hid (Two w wc c0 g1 g2 (elim L2 L2 col (r0 + 1)) (elim L2 R2 col r0)) := hcut
                                  clear hcut HA1 c1 c2 c3 hn1
                                  obtain ⟨we, hwe⟩ : ∃ we, we = wc := ⟨_, rfl⟩
                                  subst hwe
                                  have c1 := HT7.out.mR.hdr.cell hrk
                                  have c3 := HT7.out.mR.hdr.cell hlt
                                  go_wp2
                                  go_region_held3 (fun w' => w'.cell? ⟨w.heap.size + 1 + c0, r0, none⟩ = some (.slice (some ⟨g2 r0, 0, none⟩) c0 c0) ∧ w'.cell? ⟨w.heap.size + 1 + c0, col, none⟩ = some (.slice (some ⟨g2 col, 0, none⟩) c0 c0))
                                    (first | go_keep | exact ⟨(H2.out.cell hn2).trans c1, (H2.out.cell hn2).trans c3⟩)
                                    (first | (go_at_call 67; refine (HA2.out we HT7.out 1).mono ?_; rintro r w3 ⟨rfl, h1, h2⟩; have H1 : Hid _ := h1; have H2 : Hid (Only (g2 r0) we w3) := h2; clear h1 h2))
                                  go_wp2
                                  go_roundw
                                  case rel => exact ⟨r0 + 1, by omega, by go_num, H1.out⟩
                                  case measure => simp [intOf]; omega
                          · have hrr : r0 = c0 := by omega
                            subst hrr
                            have HT6 : Hid (Two w wr r0 g1 g2 (elim L2 L2 col r0) (elim L2 R2 col r0)) := hT6
                            clear hT6
                            go_wp2
                            go_roundw
                            case rel => exact ⟨col + 1, g1, g2, _, _, by omega, by go_num, HGS.out, HT6.out⟩
                            case measure => simp [intOf]; omega
            · have hpkk : p = k := by omega
              subst hpkk
              have HN : Hid (gjS p A p = none) := by
                have h1 : gjS p A (col + 1) = none := by
                  rw [gjS, HG.out]
                  show gjStep p col (L, R) = none
                  unfold gjStep
                  simp only [hpv, Nat.sub_self, pivN]
                  rfl
                have h2 := gjS_none h1 (p - (col + 1))
                rw [show col + 1 + (p - (col + 1)) = p by omega] at h2
                exact h2
              clear hpv HG
              go_wp2
              go_ret2
              unfold invPost
              rw [HN.out]
              exact ⟨HT.out.bel, rfl⟩
        · have hck : col = k := by omega
          subst hck
          have HT : Hid (Two w wr col gL gR L R) := hT
          have HG : Hid (gjS col A col = some (L, R)) := hgj
          clear hT hgj
          go_wp2
          go_ret2
          unfold invPost
          rw [HG.out]
          exact ⟨HT.out.bel, rfl, gR, fun r hr => by have := HT.out.rR r hr; omega, HT.out.mR⟩
end Go.Proofs.Qxb6500697aDoor
