/-
  THE MODEL's WEIGHTS: THE WALKS OF Div, Coefficient, Weights.
-/
import Derived.Test.Qxb6500697aDoorMSmall
import Derived.Deep.RegionWith
namespace Go.Proofs.Qxb6500697aDoor
open Go.RowKit

set_option maxRecDepth 100000 in
set_option maxHeartbeats 1000000 in
theorem div_any (a b : Nat) (w : World) (ha : a < 256) (hb : b < 256) :
    Calls Tryd.prog 94 #[.int .u8 a, .int .u8 b] w fun r w' => r = .returned (.tuple #[.int .u8 ((gmul a (ginv b) : Nat) : Int), .bool (decide (ginv b ≠ 0))]) ∧ w' = w := by
  have HI : Hid _ := inv_any b w hb
  have HM : Hid _ := mul_any a (ginv b) w ha (ginv_lt b)
  have hi := ginv_lt b
  have hm := gmul_lt a (ginv b)
  obtain ⟨v, hv⟩ : ∃ v, decide (ginv b ≠ 0) = v := ⟨_, rfl⟩
  rw [hv] at HI ⊢
  clear hv
  generalize gmul a (ginv b) = q at *
  generalize ginv b = i at *
  go_enter Tryd.func94, Tryd.ntmps94
  go_wp2_with fail
  refine Calls.mono HI.out ?_
  rintro r w' ⟨rfl, hw⟩
  have hw := hw.symm; subst hw
  clear HI
  go_wp2_with fail
  refine Calls.mono HM.out ?_
  rintro r w' ⟨rfl, hw⟩
  have hw := hw.symm; subst hw
  clear HM
  go_wp2
  go_ret2
  exact ⟨rfl, rfl⟩

theorem xor_i64 (a b : Nat) (ha : a < 16) (hb : b < 16) : bits .xor .i64 (a : Int) (b : Int) = ((a ^^^ b : Nat) : Int) := i64_xor_nat a b (by omega) (by omega)
theorem xor16 (a b : Nat) (ha : a < 16) (hb : b < 16) : a ^^^ b < 16 := Nat.xor_lt_two_pow (n := 4) ha hb

set_option maxRecDepth 100000 in
set_option maxHeartbeats 2000000 in
theorem coef_any (g k i j : Nat) (w : World) (hg : g < 256) (hk : k ≤ 16) (hi : i < 16) (hj : j < k) (hj2 : j < 16) :
    Calls Tryd.prog 78 #[.int .u8 g, .int .i64 k, .int .i64 i, .int .i64 j] w fun r w' => r = .returned (.int .u8 ((mcoef g k i j : Nat) : Int)) ∧ w' = w := by
  by_cases hik : i < k
  · have hik' : (i : Int) < (k : Int) := by omega
    by_cases e : i = j
    · have HE : Hid (mcoef g k i j = 1) := by show mcoef g k i j = 1; unfold mcoef; rw [if_pos hik, if_pos e]
      have e' : ((i : Int) == (j : Int)) = true := by simp; omega
      clear e
      go_enter Tryd.func78, Tryd.ntmps78
      go_wp2
      go_ret
      exact ⟨by rw [HE.out]; rfl, rfl⟩
    · have HE : Hid (mcoef g k i j = 0) := by show mcoef g k i j = 0; unfold mcoef; rw [if_pos hik, if_neg e]
      have e' : ((i : Int) == (j : Int)) = false := by simp; omega
      clear e
      go_enter Tryd.func78, Tryd.ntmps78
      go_wp2
      go_ret
      exact ⟨by rw [HE.out]; rfl, rfl⟩
  · have hik' : ¬ (i : Int) < (k : Int) := by omega
    by_cases h1 : g = 1
    · subst h1
      have HE : Hid (mcoef 1 k i j = gmul (lprod i j k) (ginv (lprod j j k))) := by show mcoef 1 k i j = _; unfold mcoef; rw [if_neg hik, if_pos rfl]
      clear hik
      go_enter Tryd.func78, Tryd.ntmps78
      go_wp2
      go_loop [11, 12, 13] (fun a b t => ∃ n : Nat, n ≤ k ∧ t = .int .i64 n ∧ a = .int .u8 ((lprod i j n : Nat) : Int) ∧ b = .int .u8 ((lprod j j n : Nat) : Int)) (fun _ _ t => k - (intOf t).toNat)
      case atStart => exact ⟨0, Nat.zero_le _, rfl, rfl, rfl⟩
      case round =>
        obtain ⟨n, hn, rfl, rfl, rfl⟩ := hrel
        have ha := lprod_lt i j n
        have hb := lprod_lt j j n
        by_cases hlt : n < k
        · have hlt' : (n : Int) < (k : Int) := by omega
          by_cases e : n = j
          · have e' : ((n : Int) != (j : Int)) = false := by simp; omega
            have HS1 : Hid (lprod i j (n + 1) = lprod i j n) := by show lprod i j (n + 1) = _; rw [lprod, if_pos e]
            have HS2 : Hid (lprod j j (n + 1) = lprod j j n) := by show lprod j j (n + 1) = _; rw [lprod, if_pos e]
            clear e
            go_wp2
            go_round
            case rel => exact ⟨n + 1, by omega, by go_num, by rw [HS1.out], by rw [HS2.out]⟩
            case measure => simp [intOf]; omega
          · have e' : ((n : Int) != (j : Int)) = true := by simp; omega
            have HS1 : Hid (lprod i j (n + 1) = gmul (lprod i j n) (i ^^^ n)) := by show lprod i j (n + 1) = _; rw [lprod, if_neg e]
            have HS2 : Hid (lprod j j (n + 1) = gmul (lprod j j n) (j ^^^ n)) := by show lprod j j (n + 1) = _; rw [lprod, if_neg e]
            have x1 := xor_i64 i n hi (by omega)
            have x2 := xor_i64 j n (by omega) (by omega)
            have y1 := xor16 i n hi (by omega)
            have y2 := xor16 j n (by omega) (by omega)
            have HM1 : Hid _ := mul_any (lprod i j n) (i ^^^ n) w ha (by omega)
            have HM2 : Hid _ := mul_any (lprod j j n) (j ^^^ n) w hb (by omega)
            rw [← HS1.out] at HM1
            rw [← HS2.out] at HM2
            clear HS1 HS2
            generalize lprod i j n = p1 at *
            generalize lprod j j n = p2 at *
            generalize i ^^^ n = q1 at *
            generalize j ^^^ n = q2 at *
            clear e
            go_wp2_with fail
            refine Calls.mono HM1.out ?_
            rintro r w' ⟨rfl, hw⟩
            have hw := hw.symm; subst hw
            clear HM1
            go_wp2_with fail
            refine Calls.mono HM2.out ?_
            rintro r w' ⟨rfl, hw⟩
            have hw := hw.symm; subst hw
            clear HM2
            go_wp2
            go_round
            case rel => exact ⟨n + 1, by omega, by go_num, rfl, rfl⟩
            case measure => simp [intOf]; omega
        · have hnk : n = k := by omega
          subst hnk
          have HD : Hid _ := div_any (lprod i j n) (lprod j j n) w ha hb
          rw [← HE.out] at HD
          obtain ⟨c, hc⟩ : ∃ c, mcoef 1 n i j = c := ⟨_, rfl⟩
          obtain ⟨v, hv⟩ : ∃ v, decide (ginv (lprod j j n) ≠ 0) = v := ⟨_, rfl⟩
          rw [hc, hv] at HD
          have HC : Hid (mcoef 1 n i j = c) := hc
          clear hc hv HE
          generalize lprod i j n = p1 at *
          generalize lprod j j n = p2 at *
          go_wp2_with fail
          refine Calls.mono HD.out ?_
          rintro r w' ⟨rfl, hw⟩
          have hw := hw.symm; subst hw
          clear HD
          go_wp2
          go_ret
          exact ⟨by rw [HC.out]; rfl, rfl⟩
    · have h1' : ((g : Int) != 1) = true := by simp; omega
      have HE : Hid (mcoef g k i j = ginv (i ^^^ j)) := by show mcoef g k i j = _; unfold mcoef; rw [if_neg hik, if_neg h1]
      have x1 := xor_i64 i j hi hj2
      have y1 := xor16 i j hi hj2
      have HI : Hid _ := inv_any (i ^^^ j) w (by omega)
      rw [← HE.out] at HI
      obtain ⟨c, hc⟩ : ∃ c, mcoef g k i j = c := ⟨_, rfl⟩
      rw [hc] at HI ⊢
      obtain ⟨v, hv⟩ : ∃ v, decide (c ≠ 0) = v := ⟨_, rfl⟩
      rw [hv] at HI
      clear hc hv HE h1
      generalize i ^^^ j = q1 at *
      go_enter Tryd.func78, Tryd.ntmps78
      go_wp2_with fail
      refine Calls.mono HI.out ?_
      rintro r w' ⟨rfl, hw⟩
      have hw := hw.symm; subst hw
      clear HI
      go_wp2
      go_ret
      exact ⟨rfl, rfl⟩

/-- The weights, rows below r0 whole, row r0 up to j0. -/
def weiTo (g k r0 j0 r c : Nat) : Nat := if r < r0 ∨ (r = r0 ∧ c < j0) then mcoef g k r c else 0

set_option maxRecDepth 100000 in
set_option maxHeartbeats 2000000 in
theorem weights_any (g k m : Nat) (w : World) (hg : g < 256) (hk : 1 ≤ k) (hn : k + m ≤ 16) :
    Calls Tryd.prog 61 #[.int .u8 g, .int .i64 k, .int .i64 m] w fun e w' => Below w.heap.size w w' ∧ e = .returned (.slice (some ⟨w.heap.size, 0, none⟩) ((k + m : Nat)) ((k + m : Nat))) ∧ MatAt w' w.heap.size (k + m) k (fun r => w.heap.size + 1 + r) (genr g k) := by
  have HZ : Hid _ := zero_any (k + m) k w (by omega) (by omega)
  rw [Int.natCast_add] at HZ
  go_enter Tryd.func61, Tryd.ntmps61
  go_wp2_with fail
  refine Calls.mono HZ.out ?_
  rintro r w1 ⟨rfl, hM, hb, hsz⟩
  have HM : Hid (MatAt w1 w.heap.size (k + m) k (fun r => w.heap.size + 1 + r) (fun _ _ => 0)) := hM
  have HB : Hid (Below w.heap.size w w1) := hb
  clear hM hb HZ hsz
  obtain ⟨n, hkm⟩ : ∃ n, k + m = n := ⟨_, rfl⟩
  rw [hkm] at HM ⊢
  have hn16 : n ≤ 16 := by omega
  have hkn : k ≤ n := by omega
  have HKM : Hid (k + m = n) := hkm
  obtain ⟨H, hH⟩ : ∃ H, w.heap.size = H := ⟨_, rfl⟩
  rw [hH] at HM HB ⊢
  have HHs : Hid (w.heap.size = H) := hH
  clear hkm hH
  go_wp2
  go_loopw [17] (fun i wr => ∃ r0 : Nat, r0 ≤ n ∧ i = .int .i64 r0 ∧ MatAt wr H n k (fun r => H + 1 + r) (weiTo g k r0 0) ∧ Below H w wr) (fun i _ => n - (intOf i).toNat)
  case atStart => exact ⟨0, Nat.zero_le _, rfl, MatAt.congr HM.out (fun r _ c _ => by simp [weiTo]), HB.out⟩
  case round =>
    obtain ⟨r0, hr0, rfl, hM, hb⟩ := hrel
    clear HM HB
    by_cases hlt : r0 < n
    · have HM : Hid (MatAt wr H n k (fun r => H + 1 + r) (weiTo g k r0 0)) := hM
      have HB : Hid (Below H w wr) := hb
      have hlt' : (r0 : Int) < (n : Int) := by omega
      have c1 := hM.hdr.cell hlt
      clear hM hb
      go_wp2
      clear c1
      go_loopw [25] (fun j wr => ∃ j0 : Nat, j0 ≤ k ∧ j = .int .i64 j0 ∧ MatAt wr H n k (fun r => H + 1 + r) (weiTo g k r0 j0) ∧ Below H w wr) (fun j _ => k - (intOf j).toNat)
      case atStart => exact ⟨0, Nat.zero_le _, rfl, HM.out, HB.out⟩
      case round =>
        obtain ⟨j0, hj0, rfl, hM, hb⟩ := hrel
        clear HM HB
        by_cases hjk : j0 < k
        · have c1 := hM.hdr.cell hlt
          have hrow := hM.row r0 hlt
          have c2 := hrow.cell hjk
          have fr := hrow.2.frozen j0
          have hp8 := mcoef_lt g k r0 j0
          have HF : Hid (∀ V, (V = wr.setCell ⟨H + 1 + r0, j0, none⟩ (.int .u8 ((mcoef g k r0 j0 : Nat) : Int)) ∨ V = (wr.setCell ⟨H + 1 + r0, j0, none⟩ (.int .u8 ((mcoef g k r0 j0 : Nat) : Int))).drew) → MatAt V H n k (fun r => H + 1 + r) (weiTo g k r0 (j0 + 1)) ∧ Below H w V) := by
            have hO : Only (H + 1 + r0) wr (wr.setCell ⟨H + 1 + r0, j0, none⟩ (.int .u8 ((mcoef g k r0 j0 : Nat) : Int))) := (Only.refl _ _).setCell _ _
            have h1 : MatAt (wr.setCell ⟨H + 1 + r0, j0, none⟩ (.int .u8 ((mcoef g k r0 j0 : Nat) : Int))) H n k (fun r => H + 1 + r) (weiTo g k r0 (j0 + 1)) := by
              refine (hM.rowSet hlt hO (hrow.set j0 _ hp8)).congr fun r hr c hc => ?_
              by_cases e : r = r0
              · subst e
                rw [if_pos rfl]
                unfold weiTo
                by_cases e2 : c = j0
                · subst e2; simp
                · rw [if_neg e2]
                  by_cases h3 : c < j0
                  · simp [h3, show c < j0 + 1 by omega]
                  · simp [h3, show ¬ c < j0 + 1 by omega]
              · rw [if_neg e]
                unfold weiTo
                simp [e]
            have h2 : Below H w (wr.setCell ⟨H + 1 + r0, j0, none⟩ (.int .u8 ((mcoef g k r0 j0 : Nat) : Int))) := hb.trans (hO.below (by omega))
            intro V hV
            rcases hV with rfl | rfl
            · exact ⟨h1, h2⟩
            · exact ⟨h1.of_blocks rfl (fun _ _ => rfl), h2.drew⟩
          have HCo : Hid (∀ V, Calls Tryd.prog 78 #[.int .u8 g, .int .i64 k, .int .i64 r0, .int .i64 j0] V fun r w' => r = .returned (.int .u8 ((mcoef g k r0 j0 : Nat) : Int)) ∧ w' = V) := fun V => coef_any g k r0 j0 V hg (by omega) (by omega) hjk (by omega)
          have hjk' : (j0 : Int) < (k : Int) := by omega
          clear hM hb hrow
          obtain ⟨q, hq⟩ : ∃ q, mcoef g k r0 j0 = q := ⟨_, rfl⟩
          rw [hq] at HF HCo hp8
          clear hq
          go_upto_region 8 with fail
          go_region_with (go_at_call 78; refine (HCo.out _).mono ?_; rintro r w9 ⟨rfl, hw⟩; subst hw)
          all_goals
            go_wp2
            go_roundw
            case rel => exact ⟨j0 + 1, by omega, by go_num, HF.out _ (by first | exact .inl rfl | exact .inr rfl)⟩
            case measure => simp [intOf]; omega
        · have hjj : j0 = k := by omega
          subst hjj
          have HF : Hid (MatAt wr H n j0 (fun r => H + 1 + r) (weiTo g j0 (r0 + 1) 0) ∧ Below H w wr) := by
            refine ⟨hM.congr fun r hr c hc => ?_, hb⟩
            unfold weiTo
            by_cases e : r < r0 + 1
            · rw [if_pos (by omega), if_pos (.inl e)]
            · rw [if_neg (by omega), if_neg (by omega)]
          clear hM hb
          go_wp2
          go_roundw
          case rel => exact ⟨r0 + 1, by omega, by go_num, HF.out⟩
          case measure => simp [intOf]; omega
    · have hrn : r0 = n := by omega
      subst hrn
      have HM : Hid (MatAt wr H r0 k (fun r => H + 1 + r) (genr g k)) := hM.congr fun r hr c hc => by
        unfold weiTo
        rw [if_pos (.inl hr)]
        exact mcoef_genr g k r c (by omega) (by omega) hc
      have HB : Hid (Below H w wr) := hb
      clear hM hb
      go_wp2
      go_ret
      rw [HHs.out, HKM.out]
      exact ⟨HB.out, rfl, HM.out⟩
end Go.Proofs.Qxb6500697aDoor
