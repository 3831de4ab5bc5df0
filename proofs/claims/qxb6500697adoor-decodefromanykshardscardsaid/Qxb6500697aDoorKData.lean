/-
  THE WALK OF dataRows.
-/
import Derived.Test.Qxb6500697aDoorKStr
import Derived.BigQuiet
namespace Go.Proofs.Qxb6500697aDoor
open Go.RowKit

theorem FRow.congr {w : World} {ao : Option Addr} {m : Nat} {s s' : Nat → Nat} (h : FRow w ao m s) (e : ∀ i, i < m → s i = s' i) : FRow w ao m s' := by
  refine ⟨fun i hi => by rw [← e i hi]; exact h.1 i hi, fun h0 => ?_⟩
  obtain ⟨b, o, ha, hc⟩ := h.2 h0
  exact ⟨b, o, ha, fun i hi => by rw [← e i hi]; exact hc i hi⟩

set_option maxRecDepth 100000 in
set_option maxHeartbeats 4000000 in
theorem dataRows_any (X : Nat → Prop) (w : World) (F : Nat → Prop) (cb mb k m sb g n h : Nat) (P : Nat → Nat → Nat) (hC : CodecAt w F cb mb k m) (hK : Cache X w mb k (k + m)) (hX : ∀ b, X b → b < w.heap.size) (hS : Str w sb g k (k + m) n h P) :
    Calls Tryd.prog 69 #[.pointer (some ⟨cb, 0, none⟩), .pointer (some ⟨sb, 0, none⟩)] w fun e w' => ∃ da dc u D, e = .returned (.tuple #[.slice da k dc, .int .u16 ((u : Nat) : Int), .nilIface]) ∧ k ≤ dc ∧ dc ≤ 9223372036854775807 ∧ RMat w' da k (psize g k n) D ∧ DataOk g k (k + m) (psize g k n) h u P D ∧ Cache X w' mb k (k + m) ∧ Mut mb w w' := by
  have hI : Tryd.prog.isIface 48 = true := by kernel_rfl
  have hk := hC.hk
  have hm := hC.hm
  have hkn := hC.hn
  have hsize := psize_le g k n hk hS.hn
  obtain ⟨rv, hrow, hpay⟩ := hS.row
  have HPay : Hid (∀ i, i < k + m → h.testBit i = true → ∃ pa pc, rv i = .slice pa (psize g k n) pc ∧ psize g k n ≤ pc ∧ pc ≤ 9223372036854775807 ∧ FRow w pa (psize g k n) (P i)) := hpay
  have HRow : Hid (w.rowIs sb 120 22 (stc (pfam g) (psize g k n) (punit g k n) g n h rv)) := hrow
  have HP8 : Hid (∀ i, i < k + m → h.testBit i = true → ∀ c, c < psize g k n → P i c < 256) := fun i hi hb c hc => by
    obtain ⟨pa, pc, _, _, _, e4⟩ := hpay i hi hb
    exact e4.1 c hc
  have hh := hS.hh
  have hcnt := hS.cnt
  have HC : Hid (CodecAt w F cb mb k m) := hC
  have HK : Hid (Cache X w mb k (k + m)) := hK
  have HS : Hid (Str w sb g k (k + m) n h P) := hS
  have s0 : w.cell? ⟨sb, 0, none⟩ = some (.int .u8 ((pfam g : Nat) : Int)) := hrow.cell (i := 0) (by decide)
  have s1 : w.cell? ⟨sb, 1, none⟩ = some (.int .i64 ((psize g k n : Nat) : Int)) := hrow.cell (i := 1) (by decide)
  have s5 : w.cell? ⟨sb, 5, none⟩ = some (.int .u16 (h : Int)) := hrow.cell (i := 5) (by decide)
  have sr : ∀ i, i < 16 → w.cell? ⟨sb, 6 + i, none⟩ = some (rv i) := fun i hi => by rw [hrow.cell (i := 6 + i) (by omega), stc_row]
  have HSr : Hid (∀ i, i < 16 → w.cell? ⟨sb, 6 + i, none⟩ = some (rv i)) := sr
  have c0 := hC.c0
  have hsb : sb < w.heap.size := hrow.lt
  obtain ⟨N, hN⟩ : ∃ N, k + m = N := ⟨_, rfl⟩
  have HN : Hid (k + m = N) := hN
  have hkN : k < N := by omega
  have hN16 : N ≤ 16 := by omega
  rw [hN] at HPay HP8 HK HS hcnt ⊢
  obtain ⟨size, hsz⟩ : ∃ size, psize g k n = size := ⟨_, rfl⟩
  have HSz : Hid (psize g k n = size) := hsz
  rw [hsz] at HPay HP8 HRow s1 hsize ⊢
  obtain ⟨fam, hfam⟩ : ∃ fam, pfam g = fam := ⟨_, rfl⟩
  have HFam : Hid (pfam g = fam) := hfam
  rw [hfam] at s0
  have hfrl := first_lt (k := k) (by omega)
  have HFi : Hid (∀ V q, Calls Tryd.prog 81 #[.int .i64 k] (World.drewN V q) fun r w' => r = .returned (.int .u16 ((2 ^ k - 1 : Nat) : Int)) ∧ w' = World.drewN V q) := fun V q => first_any k _ (by omega)
  have HHo : Hid (∀ V q, Calls Tryd.prog 80 #[.int .u16 h, .int .u16 ((2 ^ k - 1 : Nat) : Int)] (World.drewN V q) fun r w' => r = .returned (.bool (decide (h &&& (2 ^ k - 1) = 2 ^ k - 1))) ∧ w' = World.drewN V q) := fun V q => holds_any h (2 ^ k - 1) _ hh hfrl
  clear hC hK hS hpay hrow hsz hfam hN sr
  by_cases hall : h &&& (2 ^ k - 1) = 2 ^ k - 1
  · have HD : Hid (DataOk g k N size h (2 ^ k - 1) P P) := DataOk.first (by omega) (by omega) ((holds_iff h k).1 hall) (fun i hi => HP8.out i (by omega) ((holds_iff h k).1 hall i hi))
    have HR : Hid (RMat w (some ⟨sb, 6, none⟩) k size P) := fun _ => ⟨sb, 6, rfl, fun r hr => by
      obtain ⟨pa, pc, e1, e2, e3, e4⟩ := HPay.out r (by omega) ((holds_iff h k).1 hall r hr)
      exact ⟨pa, pc, by rw [HSr.out r (by omega), e1], e2, e3, e4⟩⟩
    rw [decide_eq_true hall] at HHo
    obtain ⟨fr, hfr⟩ : ∃ fr, 2 ^ k - 1 = fr := ⟨_, rfl⟩
    rw [hfr] at HFi HHo HD
    clear hall hfr hfrl
    have hk16 : (k : Int) ≤ 16 := by omega
    go_enter Tryd.func69, Tryd.ntmps69
    go_wp2
    go_quiet (first | (go_at_call 81; with_reducible exact Calls.quiet_of_same (HFi.out _ _)) | (go_at_call 80; with_reducible exact Calls.quiet_of_same (HHo.out _ _)))
    go_wp2
    obtain ⟨V, hV⟩ : ∃ V, w.drewN nq = V := ⟨_, rfl⟩
    have c0V : V.cell? ⟨cb, 0, none⟩ = some (.int .i64 k) := by rw [← hV, drewN_cell]; exact c0
    have HV : Hid (Below w.heap.size w V) := by rw [← hV]; exact drewN_below _ _ _
    rw [hV]
    clear hV
    go_quiet (first | (go_at_call 81; with_reducible exact Calls.quiet_of_same (HFi.out _ _)))
    go_wp2
    have hb : Below w.heap.size w (V.drewN nq) := HV.out.trans (drewN_below _ _ _)
    refine bodyPost_ret (v := .tuple #[.slice (some ⟨sb, 6, none⟩) k 16, .int .u16 (fr : Int), .nilIface]) (by simp [results, Tryd.results69, go_sem]) rfl ?_
    exact ⟨some ⟨sb, 6, none⟩, 16, fr, P, rfl, by omega, by omega, HR.out.below hb, HD.out, HK.out.below hb, Below.mut hb mb⟩
  · rw [decide_eq_false hall] at HHo
    obtain ⟨fr, hfr⟩ : ∃ fr, 2 ^ k - 1 = fr := ⟨_, rfl⟩
    rw [hfr] at HFi HHo
    clear hall hfr hfrl
    go_enter Tryd.func69, Tryd.ntmps69
    go_wp2
    go_cut [23] from 14 (fun u wc => u = .bool false ∧ ∃ q, wc = w.drewN q)
    case first =>
      go_quiet (first | (go_at_call 81; with_reducible exact Calls.quiet_of_same (HFi.out _ _)) | (go_at_call 80; with_reducible exact Calls.quiet_of_same (HHo.out _ _)))
      go_wp2
      go_meet
      exact ⟨rfl, _, rfl⟩
    case rest =>
      obtain ⟨rfl, q, hwc⟩ := hcut
      subst hwc
      clear HFi HHo
      have hb0 : Below w.heap.size w (w.drewN q) := drewN_below _ _ _
      have HCV : Hid (CodecAt (w.drewN q) F cb mb k m) := CodecAt.below HC.out hb0
      have HKV : Hid (Cache X (w.drewN q) mb k N) := Cache.below HK.out hb0
      have HMV : Hid (Mut mb w (w.drewN q)) := Below.mut hb0 mb
      have HPV : Hid (∀ i, i < N → h.testBit i = true → ∃ pa pc, rv i = .slice pa size pc ∧ size ≤ pc ∧ pc ≤ 9223372036854775807 ∧ FRow (w.drewN q) pa size (P i)) := by
        intro i hi hb
        obtain ⟨pa, pc, e1, e2, e3, e4⟩ := HPay.out i hi hb
        exact ⟨pa, pc, e1, e2, e3, e4.below hb0⟩
      have kp := Below.keeps hb0
      have t0 := kp _ _ _ s0
      have t1 := kp _ _ _ s1
      have t5 := kp _ _ _ s5
      have d0 := kp _ _ _ c0
      have HSV : Hid (∀ i, i < 16 → (w.drewN q).cell? ⟨sb, 6 + i, none⟩ = some (rv i)) := fun i hi => kp _ _ _ (HSr.out i hi)
      obtain ⟨V, hV⟩ : ∃ V, w.drewN q = V := ⟨_, rfl⟩
      rw [hV] at HCV HKV HMV HPV t0 t1 t5 d0 HSV ⊢
      clear hV hb0 kp HPay HSr HRow HS HC HK s0 s1 s5 c0 hsb
      have hmk := make_hdr0 98 Tryd.underlying98 k (by omega)
      have HH0 : Hid _ := HOut.made V k (by omega)
      go_wp2
      clear hmk
      go_loopw [7, 8, 9] (fun uu v i wr => ∃ (i0 u : Nat) (xs : List Value), i0 ≤ N ∧ i = .int .i64 i0 ∧ uu = .int .u16 (u : Int) ∧ u < 65536 ∧ (∀ i, u.testBit i = (decide (i < i0) && h.testBit i)) ∧ xs.length ≤ k ∧ HOut V wr v xs ∧ Pick V xs size P (bitsL h i0)) (fun _ _ i _ => N - (intOf i).toNat)
      case atStart => exact ⟨0, 0, [], Nat.zero_le _, rfl, rfl, by decide, fun i => by simp, by simp, HH0.out, Pick.nil _ _ _⟩
      case round =>
        obtain ⟨i0, u, xs, hi0, rfl, rfl, hu, hub, hxk, hH, hP⟩ := hrel
        clear HH0
        obtain ⟨va, vc, rfl⟩ := hH.form
        have hbr := hH.bel
        have HNn : Hid _ := codecN_drew wr F cb mb k m (CodecAt.below HCV.out hbr)
        rw [HN.out] at HNn
        have e5 : wr.drew.cell? ⟨sb, 5, none⟩ = some (.int .u16 (h : Int)) := Below.keeps hbr _ _ _ t5
        have e0 : wr.drew.cell? ⟨cb, 0, none⟩ = some (.int .i64 k) := Below.keeps hbr _ _ _ d0
        have HHd : Hid (HOut V wr.drew (.slice va xs.length vc) xs) := hH.below (Below.refl _ _).drew
        have HPk : Hid (Pick V xs size P (bitsL h i0)) := hP
        have HUb : Hid (∀ i, u.testBit i = (decide (i < i0) && h.testBit i)) := hub
        obtain ⟨Xl, hXl⟩ : ∃ Xl, xs.length = Xl := ⟨_, rfl⟩
        have HX : Hid (xs.length = Xl) := hXl
        rw [hXl] at hxk HHd ⊢
        clear hH hP hub hXl
        go_upto_region 6 with fail
        go_cut [54] from 42 to 74 (fun b wc => b = .bool (decide (i0 < N ∧ Xl < k)) ∧ wc = wr.drew)
        case first =>
          by_cases hlt : i0 < N
          · have hlt' : (i0 : Int) < (N : Int) := by omega
            go_wp2_with fail
            refine Calls.mono HNn.out ?_
            rintro r1 w3 ⟨rfl, hw⟩
            subst hw
            go_wp2
            go_meet
            exact ⟨by simp [hlt], rfl⟩
          · have hlt' : ¬ (i0 : Int) < (N : Int) := by omega
            go_wp2_with fail
            refine Calls.mono HNn.out ?_
            rintro r1 w3 ⟨rfl, hw⟩
            subst hw
            go_wp2
            go_meet
            exact ⟨by simp [hlt], rfl⟩
        case rest =>
          obtain ⟨rfl, hwc⟩ := hcut
          subst hwc
          have hbr' : Below V.heap.size V wr.drew := hbr.drew
          obtain ⟨R, hR⟩ : ∃ R, wr.drew = R := ⟨_, rfl⟩
          rw [hR] at e5 e0 HHd hbr' ⊢
          clear hR hbr HNn
          have HBr : Hid (Below V.heap.size V R) := hbr'
          by_cases hgo : i0 < N ∧ Xl < k
          · rw [decide_eq_true hgo]
            obtain ⟨hlt, hXk⟩ := hgo
            have HHas : Hid _ := has_any h i0 R hh (by omega)
            go_wp2_with fail
            refine Calls.mono HHas.out ?_
            rintro r1 w3 ⟨rfl, hw⟩
            have hw := hw.symm
            subst hw
            cases hbit : h.testBit i0 with
            | false =>
              have HF : Hid ((∀ i, u.testBit i = (decide (i < i0 + 1) && h.testBit i)) ∧ Pick V xs size P (bitsL h (i0 + 1))) := by
                refine ⟨fun i => ?_, by rw [bitsL_succ, hbit]; simpa using HPk.out⟩
                rw [HUb.out i]
                by_cases e : i = i0
                · subst e; simp [hbit]
                · by_cases h1 : i < i0
                  · simp [h1, show i < i0 + 1 by omega]
                  · simp [h1, show ¬ i < i0 + 1 by omega]
              clear hbit hbr'
              go_wp2
              go_roundw
              case rel => exact ⟨i0 + 1, u, xs, by omega, by go_num, rfl, hu, HF.out.1, by rw [HX.out]; omega, HHd.out, HF.out.2⟩
              case measure => simp [intOf]; omega
            | true =>
              obtain ⟨pa, pc, e1, e2, e3, e4⟩ := HPV.out i0 hlt hbit
              have hcell : R.cell? ⟨sb, 6 + i0, none⟩ = some (.slice pa size pc) := by rw [← e1]; exact Below.keeps HBr.out _ _ _ (HSV.out i0 (by omega))
              have HFR : Hid (FRow V pa size (P i0)) := e4
              have HHx : Hid (∀ o, HOut V (R.alloc o) (.slice va Xl vc) xs) := fun o => HHd.out.below ((Below.refl _ _).alloc (Nat.le_refl _) o)
              have HWi : Hid _ := with_any u i0 R hu (by omega)
              have hu2 : u ||| 2 ^ i0 < 65536 := with_lt hu (by omega)
              have HUb2 : Hid (∀ i, (u ||| 2 ^ i0).testBit i = (decide (i < i0 + 1) && h.testBit i)) := by
                intro i
                rw [with_bit, HUb.out i]
                by_cases e : i0 = i
                · subst e; simp [hbit]
                · by_cases h1 : i < i0
                  · simp [h1, show i < i0 + 1 by omega, e]
                  · simp [h1, show ¬ i < i0 + 1 by omega, e]
              have HBit : Hid (bitsL h (i0 + 1) = bitsL h i0 ++ [i0]) := by
                show bitsL h (i0 + 1) = bitsL h i0 ++ [i0]
                rw [bitsL_succ, hbit]; rfl
              obtain ⟨u2, hu2e⟩ : ∃ u2, u ||| 2 ^ i0 = u2 := ⟨_, rfl⟩
              rw [hu2e] at HWi hu2 HUb2
              have hi16 : (i0 : Int) < 16 := by omega
              have hRs : V.heap.size ≤ R.heap.size := HBr.out.size
              clear hbit hbr' e1 e4 hu2e
              go_wp2_with fail
              refine Calls.mono HWi.out ?_
              rintro r1 w3 ⟨rfl, hw⟩
              have hw := hw.symm
              subst hw
              go_wp2_with (at_builtin; refine wpList_append_hd _ rfl _ _ 98 Tryd.underlying98 rfl V (.slice va Xl vc) xs rfl (HHx.out _) (by have := HX.out; omega) R.heap.size 1 rfl pa size pc (by simp) ?_; intro v' w' hC'; have HC' : Hid (HOut V w' v' (xs ++ [.slice pa size pc])) := hC'; clear hC')
              go_roundw
              case rel => exact ⟨i0 + 1, u2, _, by omega, by go_num, rfl, hu2, HUb2.out, by simp [HX.out]; omega, HC'.out, by rw [HBit.out]; exact HPk.out.push i0 pa pc e2 e3 HFR.out⟩
              case measure => simp [intOf]; omega
          · rw [decide_eq_false hgo]
            have hXk : Xl = k := by
              have h1 := HPk.out.1
              rw [HX.out] at h1
              rcases Nat.lt_or_ge i0 N with hl | hl
              · omega
              · have : i0 = N := by omega
                rw [this] at h1
                omega
            have hcu : bitsL u N = bitsL h i0 := bitsL_cut hi0 HUb.out
            have hcl : (bitsL u N).length = k := by rw [hcu, ← HPk.out.1, HX.out, hXk]
            have HD : Hid (DataOk g k N size h u P (drow g k N u P)) := DataOk.calc (by omega) hN16 hu hi0 HUb.out hcl HP8.out
            obtain ⟨PH, pcp, hv, hc1, hc2, hRp⟩ := HHd.out.rmat (by rw [HX.out, hXk]; exact hk) HPk.out.2
            rw [HX.out, hXk] at hv hRp
            rw [hXk]
            have hva : va = some ⟨PH, 0, none⟩ ∧ vc = pcp := by simpa using hv
            obtain ⟨rfl, rfl⟩ := hva
            have HRP : Hid (RMat R (some ⟨PH, 0, none⟩) k size (fun t => P ((bitsL u N).getD t 0))) := by rw [hcu]; exact hRp
            have HDM : Hid _ := decM_any X R F cb mb k m g u (CodecAt.below HCV.out HBr.out) (by rw [HN.out]; exact Cache.below HKV.out HBr.out) (fun b hb => Nat.lt_of_lt_of_le (hX b hb) (Nat.le_trans HMV.out.size HBr.out.size)) hu (by rw [HN.out]; exact hcl)
            rw [HN.out, HFam.out] at HDM
            have f0 : R.cell? ⟨sb, 0, none⟩ = some (.int .u8 (fam : Int)) := Below.keeps HBr.out _ _ _ t0
            have HKR : Hid (Cache X R mb k N) := Cache.below HKV.out HBr.out
            have HMR : Hid (Mut mb w R) := HMV.out.trans (Below.mut HBr.out mb)
            have hkk : ¬ (k : Int) < (k : Int) := by omega
            clear hgo hXk hcu hcl hv hRp HHd HPk hc1 hc2 hbr' HX hxk HUb
            go_wp2_with fail
            refine Calls.mono HDM.out ?_
            rintro r1 w4 ⟨IH, ic, rfl, hic1, hic2, hRI, hK4, hM4⟩
            have kp4 : Keeps R w4 := hM4.keepsC HKR.out
            have HRI : Hid (RMat w4 (some ⟨IH, 0, none⟩) k k (dmat fam k N u)) := hRI
            have HK4 : Hid (Cache X w4 mb k N) := hK4
            have HM4 : Hid (Mut mb w w4) := HMR.out.trans hM4
            have HRP4 : Hid (RMat w4 (some ⟨PH, 0, none⟩) k size (fun t => P ((bitsL u N).getD t 0))) := RMat.keeps HRP.out kp4
            have kpV : Keeps V w4 := (Below.keeps HBr.out).trans kp4
            have g0 := kp4 _ _ _ e0
            have g5 := kp4 _ _ _ e5
            have g1 := kpV _ _ _ t1
            have HSV4 : Hid (∀ i, i < 16 → w4.cell? ⟨sb, 6 + i, none⟩ = some (rv i)) := fun i hi => kpV _ _ _ (HSV.out i hi)
            have HPV4 : Hid (∀ i, i < N → h.testBit i = true → ∃ pa pc, rv i = .slice pa size pc ∧ size ≤ pc ∧ pc ≤ 9223372036854775807 ∧ FRow w4 pa size (P i)) := by
              intro i hi hb
              obtain ⟨pa, pc, e1, e2, e3, e4⟩ := HPV.out i hi hb
              exact ⟨pa, pc, e1, e2, e3, e4.keeps kpV⟩
            clear hRI hK4 hM4 kp4 kpV e0 e5 t0 t1 t5 d0 HSV HPV f0 HKR HMR HRP HDM HMV HKV HCV
            have hmk := run_make_row' (P := Tryd.prog) 98 30 (.slice none 0 0) 24 Tryd.underlying98 Tryd.info30 rfl .i64 .i64 k (by omega) (by omega)
            go_wp2
            clear hmk
            go_loopw [104] (fun i wq => ∃ j0 : Nat, j0 ≤ k ∧ i = .int .i64 j0 ∧ DRel w4 wq w4.heap.size k size j0 (drow g k N u P)) (fun i _ => k - (intOf i).toNat)
            case atStart => exact ⟨0, Nat.zero_le _, rfl, DRel.start w4 k size _⟩
            case round =>
              obtain ⟨j0, hj0, rfl, hDR⟩ := hrel
              by_cases hjk : j0 < k
              · have hjk' : (j0 : Int) < (k : Int) := by omega
                obtain ⟨hv, hr, _⟩ := hDR.row
                have hz := hDR.lt
                have hbq := hDR.bel
                have kpq : Keeps w4 wr := fun b o _ hv => (hbq.cell (p := ⟨b, o, none⟩) (cell_lt hv)).trans hv
                have hx := hr.cell (i := j0) hjk
                have hfz := hr.frozen j0
                have g5q := kpq _ _ _ g5
                have g1q := kpq _ _ _ g1
                have hsr := kpq _ _ _ (HSV4.out j0 (by omega))
                have HHas : Hid _ := has_any h j0 wr hh (by omega)
                have HDR : Hid (DRel w4 wr w4.heap.size k size j0 (drow g k N u P)) := hDR
                have hj16 : (j0 : Int) < 16 := by omega
                have hsb4 : sb < w4.heap.size := cell_lt g5
                cases hbit : h.testBit j0 with
                | true =>
                  rw [hbit] at HHas
                  obtain ⟨pa, pc, e1, e2, e3, e4⟩ := HPV4.out j0 (by omega) hbit
                  rw [e1] at hsr
                  have HF : Hid (DRel w4 (wr.setCell ⟨w4.heap.size, j0, none⟩ (.slice pa size pc)) w4.heap.size k size (j0 + 1) (drow g k N u P)) := by
                    refine HDR.out.step (Below.refl _ _) pa pc e2 e3 ((FRow.keeps e4 kpq).congr (fun c hc => (HD.out.held j0 hjk hbit c hc).symm)) (fun h0 b o he => ?_)
                    obtain ⟨b', o', hb', hc'⟩ := e4.2 h0
                    rw [he] at hb'
                    have : b = b' := congrArg (fun x : Option Addr => (x.getD ⟨0, 0, none⟩).block) hb'
                    have := cell_lt (hc' 0 h0)
                    omega
                  clear hbit e1 e4 kpq hr hDR hbq
                  go_wp2_with fail
                  refine Calls.mono HHas.out ?_
                  rintro r1 w3 ⟨rfl, hw⟩
                  have hw := hw.symm
                  subst hw
                  go_wp2
                  go_roundw
                  case rel => exact ⟨j0 + 1, by omega, by go_num, HF.out⟩
                  case measure => simp [intOf]; omega
                | false =>
                  rw [hbit] at HHas
                  obtain ⟨bI, oI, hbe, hrr⟩ := (RMat.keeps HRI.out kpq) (by omega)
                  obtain ⟨rfl, rfl⟩ : IH = bI ∧ 0 = oI := by simpa using hbe
                  obtain ⟨so, sc, r1, r2, r3, r4⟩ := hrr j0 hjk
                  rw [Nat.zero_add] at r1
                  have HCm : Hid (∀ V, (V = wr ∨ V = wr.drew) → Calls Tryd.prog 51 #[.slice so k sc, .slice (some ⟨PH, 0, none⟩) k vc, .int .i64 (size : Int)] V fun e w' => e = .returned (.slice (some ⟨wr.heap.size, 0, none⟩) size size) ∧ DRel w4 (w'.setCell ⟨w4.heap.size, j0, none⟩ (.slice (some ⟨wr.heap.size, 0, none⟩) size size)) w4.heap.size k size (j0 + 1) (drow g k N u P) ∧ Below wr.heap.size wr w') := by
                    intro V hV
                    have hb : Below wr.heap.size wr V := by rcases hV with rfl | rfl; exact Below.refl _ _; exact (Below.refl _ _).drew
                    have hsz : V.heap.size = wr.heap.size := by rcases hV with rfl | rfl <;> rfl
                    refine (combine_any so (some ⟨PH, 0, none⟩) sc vc k size (dmat fam k N u j0) (fun t => P ((bitsL u N).getD t 0)) V (FRow.below r4 hb) ((RMat.keeps HRP4.out kpq).below hb) (by omega) (by omega)).mono ?_
                    rintro e w' ⟨h1, h2, h3, h4⟩
                    rw [hsz] at h1 h2 h3 h4
                    have hb2 := hb.trans h3
                    refine ⟨h1, HDR.out.step hb2 _ size (Nat.le_refl _) (by omega) ?_ (fun _ b o he => ?_), hb2⟩
                    · refine (Row.frow h2).congr (fun c _ => ?_)
                      unfold drow
                      rw [HFam.out]
                    · have : wr.heap.size = b := congrArg (fun x : Option Addr => (x.getD ⟨0, 0, none⟩).block) he
                      omega
                  clear hbit kpq hbq hDR hrr r4 hbe
                  go_wp2_with fail
                  refine Calls.mono HHas.out ?_
                  rintro r1 w3 ⟨rfl, hw⟩
                  have hw := hw.symm
                  subst hw
                  go_wp2
                  go_region_with (go_at_call 51; refine (HCm.out _ (by first | exact .inl rfl | exact .inr rfl)).mono ?_; rintro e wq ⟨rfl, q1, q2⟩; have z3 : wq.cell? ⟨w4.heap.size, j0, none⟩ = some (hv j0) := (q2.cell (p := ⟨w4.heap.size, j0, none⟩) hz).trans hx; have zf : wq.frozen? ⟨w4.heap.size, j0, none⟩ = false := (q2.frozen (p := ⟨w4.heap.size, j0, none⟩) hz).trans hfz; have HQ : Hid _ := q1; clear q1 q2)
                  all_goals
                    go_wp2
                    go_roundw
                    case rel => exact ⟨j0 + 1, by omega, by go_num, HQ.out⟩
                    case measure => simp [intOf]; omega
              · have hjk' : ¬ (j0 : Int) < (k : Int) := by omega
                have hjk2 : j0 = k := by omega
                rw [hjk2] at hDR
                have HR : Hid (RMat wr (some ⟨w4.heap.size, 0, none⟩) k size (drow g k N u P)) := hDR.rmat
                have HBq : Hid (Below w4.heap.size w4 wr) := hDR.bel
                clear hDR
                go_wp2
                refine bodyPost_ret (v := .tuple #[.slice (some ⟨w4.heap.size, 0, none⟩) k k, .int .u16 (u : Int), .nilIface]) (by simp [results, Tryd.results69, go_sem]) rfl ?_
                exact ⟨some ⟨w4.heap.size, 0, none⟩, k, u, rfl, Nat.le_refl _, by omega, drow g k N u P, HR.out, HD.out, HK4.out.below HBq.out, HM4.out.trans (Below.mut HBq.out mb)⟩
end Go.Proofs.Qxb6500697aDoor
