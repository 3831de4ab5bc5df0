/-
  THE WALK OF THE LAW DecodeFromAnyKShards.
-/
import Derived.Test.Qxb6500697aDoorKR30
namespace Go.Proofs.Qxb6500697aDoor
open Go.RowKit

set_option maxRecDepth 100000 in
set_option maxHeartbeats 40000000 in
theorem dec_any (ops : List KOp) (ao : Option Addr) (cap : Nat) (w : World) (e : Nat → Addr) (E : KErrs 10 w e) (hG : Gens w) (hs : KScript w ao ops) (hm : ops.length ≤ 140737488355328) (hb : ∀ x ∈ ops, x.bs.length ≤ 140737488355328 ∧ x.pick.length ≤ 140737488355328) :
    Calls Tryd.prog 4 #[.slice ao ops.length cap] w fun r w' => r = .returned (.bool true) ∧ Below w.heap.size w w' := by
  have hI : Tryd.prog.isIface 48 = true := by kernel_rfl
  have HSm : Hid _ := ksmall_any ao ops cap w hs hm hb
  cases hsm : ksmall ops with
  | false =>
    rw [hsm] at HSm
    clear hs E hG
    go_enter Tryd.func4, Tryd.ntmps4
    go_wp2_with fail
    refine Calls.mono HSm.out ?_
    rintro r w' ⟨rfl, hw⟩
    have hw := hw.symm; subst hw
    go_wp2
    go_ret
    exact ⟨rfl, Below.refl _ _⟩
  | true =>
    rw [hsm] at HSm
    obtain ⟨hn, hbs⟩ := ksmall_len hsm
    have HTr : Hid _ := trials_any 10 ops ao cap w e E (by omega) hs hn hbs
    have HG : Hid (Gens w) := hG
    have HE : Hid (KErrs 10 w e) := E
    clear hs hb hsm E hG
    go_enter Tryd.func4, Tryd.ntmps4
    go_wp2_with fail
    refine Calls.mono HSm.out ?_
    rintro r w' ⟨rfl, hw⟩
    have hw := hw.symm; subst hw
    clear HSm
    go_wp2_with fail
    refine Calls.mono HTr.out ?_
    rintro r w1 ⟨v, ts, rfl, hT, htl⟩
    have hts : ts.length ≤ 140737488355328 := by omega
    clear htl
    obtain ⟨ta, tcap, rfl, htc⟩ := hT.form
    have HT : Hid (TOut w w1 (.slice ta ts.length tcap) ts) := hT
    have HTC : Hid _ := htc
    have HE1 : Hid (KErrs 10 w1 e) := HE.out.below hT.bel
    clear hT htc HTr
    go_wp2
    go_loopw [24] (fun i wr => ∃ j : Nat, j ≤ ts.length ∧ i = .int .i64 j ∧ TW NoX w1 wr ts) (fun i _ => ts.length - (intOf i).toNat)
    case atStart => exact ⟨0, Nat.zero_le _, rfl, TW.start HT.out⟩
    case round =>
      obtain ⟨w2, hw2⟩ : ∃ x, x = wr := ⟨_, rfl⟩
      subst hw2
      obtain ⟨j, hj, rfl, hTW⟩ := hrel
      by_cases hlt : j < ts.length
      · obtain ⟨g0, rfl, hcs⟩ := HTC.out (by omega)
        have hmem : ts[j] ∈ ts := List.getElem_mem hlt
        have kp := hTW.keeps HT.out
        have hok := (HT.out.ok ts[j] hmem).keeps kp
        have kc : ∀ i, i < 14 → w2.cell? ⟨g0, j * 14 + i, none⟩ = (ts[j]).cells[i]? := by
          intro i hi
          have h1 := hcs j hlt i hi
          have hl : (ts[j]).cells.length = 14 := rfl
          have h2 : (ts[j]).cells[i]? = some ((ts[j]).cells[i]'(by rw [hl]; exact hi)) := List.getElem?_eq_getElem _
          rw [h2] at h1 ⊢
          exact kp _ _ _ h1
        have HMem : Hid (ts[j] ∈ ts) := hmem
        obtain ⟨t, ht⟩ : ∃ t, ts[j] = t := ⟨_, rfl⟩
        rw [ht] at kc hok HMem
        have HOk : Hid (TrOk w2 w.heap.size (fun b => w.heap.size ≤ b ∧ (Value.slice (some ⟨g0, 0, none⟩) ts.length tcap).ownBlock ≠ some b) t) := hok
        have HTW : Hid (TW NoX w1 w2 ts) := hTW
        have k0 := kc 0 (by omega)
        have k1 := kc 1 (by omega)
        have k2 := kc 2 (by omega)
        have k3 := kc 3 (by omega)
        have k4 := kc 4 (by omega)
        have k5 := kc 5 (by omega)
        have k6 := kc 6 (by omega)
        have k7 := kc 7 (by omega)
        have k8 := kc 8 (by omega)
        have k9 := kc 9 (by omega)
        have k10 := kc 10 (by omega)
        have k11 := kc 11 (by omega)
        have k12 := kc 12 (by omega)
        have k13 := kc 13 (by omega)
        simp only [Tr.cells, KOp.cells, List.getElem?_cons_zero, List.getElem?_cons_succ, Nat.add_zero] at k0 k1 k2 k3 k4 k5 k6 k7 k8 k9 k10 k11 k12 k13
        have hlt' : (j : Int) < (ts.length : Int) := by omega
        have hidx := hok.idx
        have hkn := hok.codec.hn
        have hk1 := hok.codec.hk
        have hm1 := hok.codec.hm
        have hvalue := hok.hvalue
        have hmask := hok.hmask
        have hTF := hok.trF
        clear hcs hok kc ht hTW kp hmem
        obtain ⟨w5, hw5⟩ : ∃ w5, w2.alloc (.cells #[.pointer (some ⟨t.cb, 0, none⟩), .slice t.oa t.obs.length t.oc, .slice t.sa t.sub.length t.sc, .int .i64 t.idx, .int .u8 t.op.kind, .int .i64 t.op.k, .int .i64 t.op.m, .int .u8 t.op.gen, .slice t.op.da t.op.bs.length t.op.dc, .slice t.op.pa t.op.pick.length t.op.pc, .int .i64 t.op.index, .int .u8 t.op.field, .int .i64 t.op.value, .int .u8 t.op.mask] 45) = w5 := ⟨_, rfl⟩
        have HBox : Hid (TrBox w5 w2.heap.size t) := by
          show w5.heap[w2.heap.size]? = _
          rw [← hw5]; exact heap_alloc_new w2 _
        have hb5 : Below w2.heap.size w2 w5 := by rw [← hw5]; exact (Below.refl _ _).alloc (Nat.le_refl _) _
        have HTWd : Hid (TW NoX w1 w5 ts) := HTW.out.belowStep hb5
        have hGr : Gens w5 := ((HG.out.below HT.out.bel).keeps (HTW.out.keeps HT.out)).keeps (Below.keeps hb5)
        obtain ⟨gb, go, gc, hg0, hg1, hg2⟩ := hGr
        have HKS : Hid (∀ wq, Keeps w5 wq → TrOk wq w.heap.size (fun b => w.heap.size ≤ b ∧ (Value.slice (some ⟨g0, 0, none⟩) ts.length tcap).ownBlock ≠ some b) t) := fun wq kq => (HOk.out.keeps (Below.keeps hb5)).keeps kq
        obtain ⟨B, hB⟩ : ∃ B, w2.heap.size = B := ⟨_, rfl⟩
        have b0 : w5.cell? ⟨w2.heap.size, 0, none⟩ = some (.pointer (some ⟨t.cb, 0, none⟩)) := HBox.out.cell 0
        have b1 : w5.cell? ⟨w2.heap.size, 1, none⟩ = some (.slice t.oa t.obs.length t.oc) := HBox.out.cell 1
        have b2 : w5.cell? ⟨w2.heap.size, 2, none⟩ = some (.slice t.sa t.sub.length t.sc) := HBox.out.cell 2
        have b3 : w5.cell? ⟨w2.heap.size, 3, none⟩ = some (.int .i64 t.idx) := HBox.out.cell 3
        have b12 : w5.cell? ⟨w2.heap.size, 12, none⟩ = some (.int .i64 t.op.value) := HBox.out.cell 12
        have b13 : w5.cell? ⟨w2.heap.size, 13, none⟩ = some (.int .u8 t.op.mask) := HBox.out.cell 13
        have HKP : Hid (∀ i, i < 3 → w5.cell? ⟨gb, go + i, none⟩ = some (.int .u8 ((i + 1 : Nat) : Int))) := hg2
        clear hg2 hb5
        rw [hB] at b0 b1 b2 b3 b12 b13
        obtain ⟨n, hn⟩ : ∃ n, t.obs.length = n := ⟨_, rfl⟩
        obtain ⟨N, hN⟩ : ∃ N, t.k + t.m = N := ⟨_, rfl⟩
        rw [hn] at k1 b1 hw5
        rw [hn, hN] at hTF
        rw [hN] at hidx hkn
        have HTF : Hid (TrF t n N) := hTF
        have hn256 := hTF.hn256
        have hkN : t.k < N := by omega
        obtain ⟨L, hL⟩ : ∃ L, t.sub.length = L := ⟨_, rfl⟩
        have HL : Hid (t.sub.length = L) := hL
        have hLN : L ≤ N := by rw [← hL]; exact hTF.slen
        rw [hL] at k2 b2 hw5
        obtain ⟨hv1, hv2⟩ := hvalue
        clear hn hN hTF hL
        go_wp2
        clear hw5 hB k0 k1 k2 k3 k4 k5 k6 k7 k8 k9 k10 k11 k12 k13
        go_loopw [30] (fun i wq => ∃ q : Nat, q ≤ 3 ∧ i = .int .i64 q ∧ St w1 w5 ts wq) (fun i _ => 3 - (intOf i).toNat)
        case atStart => exact ⟨0, by omega, rfl, St.start HTWd.out⟩
        case round =>
          obtain ⟨q, hq, rfl, hSt⟩ := hrel
          have HSt : Hid (St w1 w5 ts wr) := hSt
          by_cases hlq : q < 3
          · have hlq' : (q : Int) < 3 := by omega
            have gq := hSt.kp _ _ _ (HKP.out q hlq)
            obtain ⟨g, hg⟩ : ∃ g, g = q + 1 := ⟨_, rfl⟩
            rw [← hg] at gq
            have HGG : Hid (g = 1 ∨ g = 2 ∨ g = 3) := by show g = 1 ∨ g = 2 ∨ g = 3; omega
            have HEn : Hid _ := enc_t (HKS.out wr hSt.kp) HTF.out HGG.out
            have a0 := hSt.kp _ _ _ b0
            have a1 := hSt.kp _ _ _ b1
            have hg256 : g < 256 := by omega
            have Hgq : Hid (g = q + 1) := hg
            have bN : ((N : Int) != (N : Int)) = false := by simp
            clear hSt hg
            go_wp2_with fail
            refine Calls.mono HEn.out ?_
            rintro r w7 ⟨HS, pb, po, rfl, _, _, hSd, hb7⟩
            have hSt7 := HSt.out.below hb7
            have HSt7 : Hid (St w1 w5 ts w7) := hSt7
            have HSd : Hid (SdRow w7 (some ⟨HS, 0, none⟩) (t.shs N g n pb po)) := hSd
            have c0 := hSt7.kp _ _ _ b0
            have HNn : Hid _ := codecN_drew w7 _ t.cb t.mb t.k t.m (HKS.out w7 hSt7.kp).codec
            rw [HTF.out.hN] at HNn
            clear hSt7 hSd hb7 HEn a0 a1 gq
            go_wp2_with fail
            refine Calls.mono HNn.out ?_
            rintro r w8 ⟨rfl, hw⟩
            have hb8 : Below w7.heap.size w7 w8 := by rw [hw]; exact (Below.refl _ _).drew
            clear hw HNn c0
            have hSt8 := HSt7.out.below hb8
            have HSt8 : Hid (St w1 w5 ts w8) := hSt8
            have HSd8 : Hid (SdRow w8 (some ⟨HS, 0, none⟩) (t.shs N g n pb po)) := HSd.out.keeps (Below.keeps hb8)
            have c2 := hSt8.kp _ _ _ b2
            have HCh : Hid _ := choose_t (sc := t.sc) HSd8.out (HKS.out w8 hSt8.kp).sub HTF.out.slt (by have := HL.out; omega)
            rw [HL.out] at HCh
            clear hSt8 hb8 HSd
            go_wp2_with fail
            refine Calls.mono HCh.out ?_
            rintro r w9 ⟨cB, rfl, hCo, hb9⟩
            have HCo : Hid (SdRow w9 (some ⟨cB, 0, none⟩) (t.cho t.sub N g n pb po)) := hCo
            have hSt9 := HSt8.out.below hb9
            have HSt9 : Hid (St w1 w5 ts w9) := hSt9
            have hps := psize_le g t.k n hk1 hn256
            have HPl1 : Hid (∀ s ∈ t.cho t.sub N g n pb po, s.pl ≤ 140737488355328) := fun s hs => by
              obtain ⟨i, _, rfl⟩ := chosen_mem HTF.out.slt hs
              show psize g t.k n ≤ _
              omega
            have HCp : Hid _ := copies_any w9 (some ⟨cB, 0, none⟩) L (t.cho t.sub N g n pb po) hCo (by rw [cho_len, HL.out]; omega) HPl1.out
            rw [cho_len, HL.out] at HCp
            clear hSt9 hCo hb9 HCh c2 HSd8 HSt7 HSt8
            go_wp2_with fail
            refine Calls.mono HCp.out ?_
            rintro r w10 ⟨rfl, f, hCp⟩
            have hcl : (t.cho t.sub N g n pb po).length = L := by rw [cho_len]; exact HL.out
            have HBf : Hid (SdRow w10 (some ⟨w9.heap.size, 0, none⟩) (cps f L)) := by
              rw [← hcl] at hCp ⊢
              exact hCp.sdrow HCo.out
            have HCof : Hid (CpsOf f (t.cho t.sub N g n pb po) ∧ ∀ i, i < L → (f i).P = ((t.cho t.sub N g n pb po).getD i Sd.zero).P) := by
              rw [← hcl] at hCp
              refine ⟨hCp.cpsOf, fun i hi => ?_⟩
              obtain ⟨pa, pc, h1, _⟩ := hCp.eq i (by rw [hcl]; exact hi)
              rw [h1]; rfl
            have hb10 := hCp.bel
            have hSt10 := HSt9.out.below hb10
            have HSt10 : Hid (St w1 w5 ts w10) := hSt10
            have HCo10 : Hid (SdRow w10 (some ⟨cB, 0, none⟩) (t.cho t.sub N g n pb po)) := HCo.out.keeps (Below.keeps hb10)
            have d0 := hSt10.kp _ _ _ b0
            have HDc : Hid _ := dec_t (cap := L) HT.out HMem.out hSt10 (HKS.out w10 hSt10.kp) HTF.out (hSt10.tw.errs HT.out HE1.out) HGG.out HCo10.out HL.out
            obtain ⟨bH, hbH⟩ : ∃ bH, w9.heap.size = bH := ⟨_, rfl⟩
            rw [hbH] at HBf ⊢
            clear hCp hb10 hSt10 HCp HSt9 HCo hcl hbH
            go_wp2_with fail
            refine Calls.mono HDc.out ?_
            rintro r w11 ⟨ov, ev, rfl, hSt11, hk11, hcase⟩
            have HSt11 : Hid (St w1 w5 ts w11) := hSt11
            have HK11 : Hid (Keeps w10 w11) := hk11
            have e0 := hSt11.kp _ _ _ b0
            have e1 := hSt11.kp _ _ _ b1
            have HKk : Hid _ := codecK_any w11 _ t.cb t.mb t.k t.m (HKS.out w11 hSt11.kp).codec
            have HObj : Hid (FRow w11 t.oa n (fun i => t.obs.getD i 0)) := by
              have h := (HKS.out w11 hSt11.kp).obj
              show FRow w11 t.oa n (fun i => t.obs.getD i 0)
              rw [← HTF.out.hn]
              exact h.frow
            have HCl : Hid _ := class_any w11 e (hSt11.tw.errs HT.out HE1.out) 7 (by omega)
            clear hSt11 hk11 HDc d0
            go_wp2_with fail
            refine Calls.mono HKk.out ?_
            rintro r w12 ⟨rfl, hw⟩
            have hw := hw.symm; subst hw
            clear HKk
            go_upto_if 72 with fail
            go_cut [81] from 31 to 156 (fun bv wx => Below w11.heap.size w11 wx)
            case first =>
              rcases hcase with ⟨hge, rfl, ob, rfl, hFo⟩ | ⟨hlt', rfl, rfl⟩
              · have hge' : (t.k : Int) ≤ (L : Int) := by omega
                have HEq : Hid _ := equal_frow (some ⟨ob, 0, none⟩) t.oa n n t.oc _ _ w11 hFo HObj.out
                rw [decide_eq_true (fun i hi => rfl)] at HEq
                clear hFo
                go_wp2_with fail
                refine Calls.mono HEq.out ?_
                rintro r w12 ⟨rfl, hw⟩
                have hw := hw.symm; subst hw
                clear HEq
                go_wp2
                go_meet
                exact Below.refl _ _
              · have hge' : ¬ (t.k : Int) ≤ (L : Int) := by omega
                unfold errV at HCl ⊢
                go_wp2_with fail
                refine Calls.mono HCl.out ?_
                rintro r w12 ⟨rfl, hb12⟩
                have HB12 : Hid (Below w11.heap.size w11 w12) := hb12
                clear HCl hb12
                go_wp2
                go_meet
                exact HB12.out
            case rest =>
              obtain ⟨w12, hw12⟩ : ∃ x, x = wc := ⟨_, rfl⟩
              subst hw12
              have hSt12 := HSt11.out.below hcut
              have HSt12 : Hid (St w1 w5 ts w12) := hSt12
              have hk12 : Keeps w10 w12 := HK11.out.trans (Below.keeps hcut)
              have HCo12 : Hid (SdRow w12 (some ⟨cB, 0, none⟩) (t.cho t.sub N g n pb po)) := HCo10.out.keeps hk12
              have hcl : (t.cho t.sub N g n pb po).length = L := by rw [cho_len]; exact HL.out
              have HSS : Hid _ := sameShards_true w12 (some ⟨cB, 0, none⟩) (some ⟨bH, 0, none⟩) L L L (t.cho t.sub N g n pb po) (cps f L) HCo12.out (HBf.out.keeps hk12) hcl (cps_len f L) (by omega) (fun i hi => by
                obtain ⟨pa, pc, h1⟩ := HCof.out.1 i (by rw [hcl]; exact hi)
                have h2 : (cps f L).getD i Sd.zero = f i := by rw [getD_lt (by rw [cps_len]; exact hi)]; simp [cps]
                rw [h2, h1]
                exact ⟨rfl, rfl, rfl, rfl, fun _ _ => rfl⟩) (fun i hi => HPl1.out _ (getD_mem (by rw [hcl]; exact hi)))
              clear hcut hcase HSt11 hk12 HK11 HObj HCl e0 e1 hSt12 HBf HCof HCo10 HSt10 hcl
              go_wp2_with fail
              refine Calls.mono HSS.out ?_
              rintro r w13 ⟨rfl, hb13⟩
              have HSt13 : Hid (St w1 w5 ts w13) := HSt12.out.below hb13
              have HCo13 : Hid (SdRow w13 (some ⟨cB, 0, none⟩) (t.cho t.sub N g n pb po)) := HCo12.out.keeps (Below.keeps hb13)
              clear hb13 HSS HSt12 HCo12
              by_cases hL0 : L = 0
              · have bL : ((L : Int) == 0) = true := by simp; omega
                clear hL0
                go_wp2
                go_roundw
                case rel => exact ⟨q + 1, by omega, by go_num, HSt13.out⟩
                case measure => simp [intOf]; omega
              · have bL : ((L : Int) == 0) = false := by simp; omega
                have hL1 : 0 < L := by omega
                have hL65 : L ≤ 65535 := by omega
                obtain ⟨p, hp⟩ : ∃ p, place (t.idx : Int) L = p := ⟨_, rfl⟩
                have hpL : p < L := by rw [← hp]; exact place_lt _ _ hL1
                have HPl : Hid (∀ V, Calls Tryd.prog 27 #[.int .i64 (t.idx : Int), .int .i64 (L : Int)] V fun r w' => r = .returned (.int .i64 (p : Int)) ∧ w' = V) := fun V => by
                  rw [← hp]
                  exact place_any (t.idx : Int) L V hL1 (by omega) (by omega) (by omega)
                have hCo13 := HCo13.out
                have hcl : (t.cho t.sub N g n pb po).length = L := by rw [cho_len]; exact HL.out
                obtain ⟨hb', hbe, hrr⟩ := hCo13.row (by rw [hcl]; exact hL1)
                obtain rfl : cB = hb' := congrArg (fun x : Option Addr => (x.getD ⟨0, 0, none⟩).block) hbe
                obtain ⟨r0, r1, r2, r3⟩ := hrr p (by rw [hcl]; exact hpL)
                obtain ⟨x, hx⟩ : ∃ x, (t.cho t.sub N g n pb po).getD p Sd.zero = x := ⟨_, rfl⟩
                have hxg : (t.cho t.sub N g n pb po)[p]'(by rw [hcl]; exact hpL) = x := by rw [← hx, getD_lt (by rw [hcl]; exact hpL)]
                rw [hxg] at r0 r1 r2 r3
                have Hx : Hid ((t.cho t.sub N g n pb po).getD p Sd.zero = x) := hx
                have hxok : SdOk w13 x := hCo13.ok _ (by rw [← hxg]; exact List.getElem_mem _)
                have HXok : Hid (SdOk w13 x) := hxok
                have c3 := HSt13.out.kp _ _ _ b3
                have HCp : Hid _ := copies_own (wz := w13) (cap := L) hCo13 hcl (by omega) HPl1.out
                have hcB : cB < w13.heap.size := cell_lt r0
                have hBw : B < w13.heap.size := cell_lt c3
                clear hp hCo13 hcl hrr hbe hx hxg hxok hL0
                go_upto_region 23 with fail
                go_cut [12] from 31 to 156 (fun av wx => ∃ f ao cap, av = .slice ao (L + 1) cap ∧ SdRow wx ao (cps f L ++ [x]) ∧ CpsOf f (t.cho t.sub N g n pb po) ∧ Below w13.heap.size w13 wx)
                case first =>
                  go_region_held3 (fun w' => w'.cell? ⟨B, 3, none⟩ = some (.int .i64 (t.idx : Int)) ∧ w'.cell? ⟨cB, p * 4, none⟩ = some (.int .u8 (x.g : Int)) ∧ w'.cell? ⟨cB, p * 4 + 1, none⟩ = some (.int .i64 x.ix) ∧ w'.cell? ⟨cB, p * 4 + 2, none⟩ = some (.int .i64 x.ol) ∧ w'.cell? ⟨cB, p * 4 + 3, none⟩ = some (.slice x.pa x.pl x.pc))
                    (first | go_keep)
                    (first
                    | (go_at_call 21; refine (HCp.out _ (by first | with_reducible exact Below.refl _ _ | with_reducible exact (Below.refl _ _).drew | with_reducible exact (Below.refl _ _).alloc (Nat.le_refl _) _ | with_reducible exact ((Below.refl _ _).alloc (Nat.le_refl _) _).drew | with_reducible exact (Below.refl _ _).drew.alloc (Nat.le_refl _) _)).mono ?_; rintro r w14 ⟨H, f, rfl, hH, h1, h2, h3, h4⟩; have H1 : Hid (SOut w13.heap.size w14 (.slice (some ⟨H, 0, none⟩) L L) (cps f L)) := h1; have H2 : Hid (CpsOf f (t.cho t.sub N g n pb po)) := h2; have H3 : Hid _ := h3; have H4 : Hid (Below w13.heap.size w13 w14) := h4; have d3 : w14.cell? ⟨B, 3, none⟩ = some (.int .i64 (t.idx : Int)) := (Below.keeps h4 _ _ _ c3); have s0 : w14.cell? ⟨cB, p * 4, none⟩ = some (.int .u8 (x.g : Int)) := (Below.keeps h4 _ _ _ r0); have s1 : w14.cell? ⟨cB, p * 4 + 1, none⟩ = some (.int .i64 x.ix) := (Below.keeps h4 _ _ _ r1); have s2 : w14.cell? ⟨cB, p * 4 + 2, none⟩ = some (.int .i64 x.ol) := (Below.keeps h4 _ _ _ r2); have s3 : w14.cell? ⟨cB, p * 4 + 3, none⟩ = some (.slice x.pa x.pl x.pc) := (Below.keeps h4 _ _ _ r3); clear h1 h2 h3 h4 hH)
                    | (go_at_call 27; refine (HPl.out _).mono ?_; rintro r w9 ⟨rfl, hw⟩; rw [hw]; clear hw w9)
                    | ((with_reducible refine step_append_lit (by first | exact AppR.mk1 H1.out H4.out hL65 HXok.out | exact AppR.mk1d H1.out H4.out hL65 HXok.out | exact AppR.mk2 H1.out H4.out hL65 HXok.out H3.out w13.heap.size (heap_alloc_new w13 _) | exact AppR.mk2 H1.out H4.out hL65 HXok.out H3.out w13.heap.size (heap_alloc_drew w13 _)) ?_ ?_ ?_); rfl; rfl; intro ao1 cap1 w15 g1 g2; have G1 : Hid _ := g1; have G2 : Hid _ := g2; have y3 := Below.keeps g2 _ _ _ c3; have z0 := Below.keeps g2 _ _ _ r0; have z1 := Below.keeps g2 _ _ _ r1; have z2 := Below.keeps g2 _ _ _ r2; have z3 := Below.keeps g2 _ _ _ r3; clear g1 g2 H1))
                  all_goals
                    go_wp2
                    go_meet
                    exact ⟨f, ao1, cap1, rfl, G1.out, H2.out, G2.out⟩
                case rest =>
                  obtain ⟨w14, hw14⟩ : ∃ x, x = wc := ⟨_, rfl⟩
                  subst hw14
                  obtain ⟨f2, ao1, cap1, rfl, hR1, hC1, hb14⟩ := hcut
                  have hSt14 := HSt13.out.below hb14
                  have HSt14 : Hid (St w1 w5 ts w14) := hSt14
                  have hl1 : (cps f2 L ++ [x]).length = L + 1 := by rw [List.length_append, cps_len]; rfl
                  have HD1 : Hid _ := decE_t (cap := cap1) (i := 5) HT.out HMem.out hSt14 (HKS.out w14 hSt14.kp) HTF.out (hSt14.tw.errs HT.out HE1.out) hR1 (by rw [hl1]; omega) (by rw [← Hx.out, ← HL.out]; exact cho_dup HTF.out HGG.out hC1 (by rw [HL.out]; exact hpL))
                  rw [hl1] at HD1
                  have HCo14 : Hid (SdRow w14 (some ⟨cB, 0, none⟩) (t.cho t.sub N g n pb po)) := HCo13.out.keeps (Below.keeps hb14)
                  have d0 := hSt14.kp _ _ _ b0
                  clear hR1 hC1 hb14 hSt14 hl1 HPl HCp r0 r1 r2 r3 c3 hcB hBw HXok Hx HCo13 HSt13
                  go_wp2_with fail
                  refine Calls.mono HD1.out ?_
                  rintro r w15 ⟨rfl, hSt15, hk15⟩
                  have HSt15 : Hid (St w1 w5 ts w15) := hSt15
                  have HCo15 : Hid (SdRow w15 (some ⟨cB, 0, none⟩) (t.cho t.sub N g n pb po)) := HCo14.out.keeps hk15
                  have HCl : Hid _ := class_any w15 e (hSt15.tw.errs HT.out HE1.out) 5 (by omega)
                  clear hSt15 hk15 HD1 d0 HCo14 HSt14
                  unfold errV at HCl ⊢
                  go_wp2_with fail
                  refine Calls.mono HCl.out ?_
                  rintro r w16 ⟨rfl, hb16⟩
                  have hSt16 := HSt15.out.below hb16
                  have HSt16 : Hid (St w1 w5 ts w16) := hSt16
                  have HCo16 : Hid (SdRow w16 (some ⟨cB, 0, none⟩) (t.cho t.sub N g n pb po)) := HCo15.out.keeps (Below.keeps hb16)
                  obtain ⟨r2, hr2⟩ : ∃ r2, t.idx % 2 = r2 := ⟨_, rfl⟩
                  have hr2' : r2 < 2 := by omega
                  have zr : (t.idx : Int).tmod 2 = (r2 : Int) := by rw [Int.tmod_eq_emod_of_nonneg (by omega)]; omega
                  have hwr : IntKind.i64.wrap (r2 : Int) = (r2 : Int) := by simp [IntKind.wrap, IntKind.bits, IntKind.signed]; omega
                  obtain ⟨q1, hq1⟩ : ∃ q1, q + 1 = q1 := ⟨_, rfl⟩
                  have z1 : (q : Int) + 1 = (q1 : Int) := by omega
                  have hw1 : IntKind.i64.wrap (q1 : Int) = (q1 : Int) := by simp [IntKind.wrap, IntKind.bits, IntKind.signed]; omega
                  obtain ⟨sm, hsm⟩ : ∃ sm, q1 + r2 = sm := ⟨_, rfl⟩
                  have zs : (q1 : Int) + (r2 : Int) = (sm : Int) := by omega
                  have hws : IntKind.i64.wrap (sm : Int) = (sm : Int) := by simp [IntKind.wrap, IntKind.bits, IntKind.signed]; omega
                  obtain ⟨q2, hq2⟩ : ∃ q2, sm % 3 = q2 := ⟨_, rfl⟩
                  have zq : (sm : Int).tmod 3 = (q2 : Int) := by rw [Int.tmod_eq_emod_of_nonneg (by omega)]; omega
                  have hwq : IntKind.i64.wrap (q2 : Int) = (q2 : Int) := by simp [IntKind.wrap, IntKind.bits, IntKind.signed]; omega
                  have hq23 : q2 < 3 := by omega
                  have hq23' : (q2 : Int) < 3 := by omega
                  have hq20' : (0 : Int) ≤ (q2 : Int) := by omega
                  have hqne : q2 ≠ q := by omega
                  obtain ⟨g2, hg2⟩ : ∃ g2, g2 = q2 + 1 := ⟨_, rfl⟩
                  have HGG2 : Hid (g2 = 1 ∨ g2 = 2 ∨ g2 = 3) := by show g2 = 1 ∨ g2 = 2 ∨ g2 = 3; omega
                  have HGne : Hid (g2 ≠ g) := by have := Hgq.out; show g2 ≠ g; omega
                  have gq2 := hSt16.kp _ _ _ (HKP.out q2 hq23)
                  rw [← hg2] at gq2
                  have g0z := hSt16.kp _ _ _ hg0
                  have d0 := hSt16.kp _ _ _ b0
                  have d1 := hSt16.kp _ _ _ b1
                  have d3 := hSt16.kp _ _ _ b3
                  have HEn : Hid (∀ V, Below w16.heap.size w16 V → Calls Tryd.prog 18 #[.pointer (some ⟨t.cb, 0, none⟩), .int .u8 (g2 : Int), .slice t.oa n t.oc] V fun e w' => ∃ HS pb po, e = .returned (.tuple #[.slice (some ⟨HS, 0, none⟩) N N, .nilIface]) ∧ SdRow w' (some ⟨HS, 0, none⟩) (t.shs N g2 n pb po) ∧ Below w16.heap.size w16 w') := fun V hV => by
                    refine (enc_t (HKS.out V (hSt16.kp.trans (Below.keeps hV))) HTF.out HGG2.out).mono ?_
                    rintro e w' ⟨HS, pb, po, h1, _, _, h2, h3⟩
                    exact ⟨HS, pb, po, h1, h2, hV.trans (h3.mono hV.size)⟩
                  have hg2256 : g2 < 256 := by omega
                  clear hb16 hSt16 HCl HSt15 HCo15 hr2 hsm hq2 hg2 hqne hq1
                  go_upto_region 27 with fail
                  go_region_held3 (fun w' => w'.cell? ⟨B, 0, none⟩ = some (.pointer (some ⟨t.cb, 0, none⟩)) ∧ w'.cell? ⟨B, 1, none⟩ = some (.slice t.oa n t.oc) ∧ w'.cell? ⟨B, 3, none⟩ = some (.int .i64 (t.idx : Int)) ∧ w'.cell? ⟨0, 0, none⟩ = some (.slice (some ⟨gb, go, none⟩) 3 gc) ∧ w'.cell? ⟨gb, go + q2, none⟩ = some (.int .u8 (g2 : Int)))
                    (first | go_keep)
                    (first
                    | (go_at_call 18; refine (HEn.out _ (by first | with_reducible exact Below.refl _ _ | with_reducible exact (Below.refl _ _).drew)).mono ?_; rintro r w17 ⟨HS2, pb2, po2, rfl, h1, h2⟩; have H1 : Hid _ := h1; have H2 : Hid (Below w16.heap.size w16 w17) := h2; have f0 := Below.keeps h2 _ _ _ d0; have f1 := Below.keeps h2 _ _ _ d1; have f3 := Below.keeps h2 _ _ _ d3; have f4 := Below.keeps h2 _ _ _ g0z; have f5 := Below.keeps h2 _ _ _ gq2; clear h1 h2))
                  clear d0 d1 d3 g0z gq2 f1 f4 f5 zr hwr z1 hw1 zs hws zq hwq hq23' hq20' HEn
                  have hSt17 := HSt16.out.below H2.out
                  have HSt17 : Hid (St w1 w5 ts w17) := hSt17
                  have HCo17 : Hid (SdRow w17 (some ⟨cB, 0, none⟩) (t.cho t.sub N g n pb po)) := HCo16.out.keeps (Below.keeps H2.out)
                  have hcl : (t.cho t.sub N g n pb po).length = L := by rw [cho_len]; exact HL.out
                  have hshl : (t.shs N g2 n pb2 po2).length = N := shL_len _ _ _ _ _ _ _
                  have hSh2 := H1.out
                  obtain ⟨hb', hbe, hrr⟩ := hSh2.row (by rw [hshl]; omega)
                  obtain rfl : HS2 = hb' := congrArg (fun x : Option Addr => (x.getD ⟨0, 0, none⟩).block) hbe
                  obtain ⟨r0, r1, r2', r3⟩ := hrr t.idx (by rw [hshl]; exact hidx)
                  obtain ⟨y, hy⟩ : ∃ y, (t.shs N g2 n pb2 po2).getD t.idx Sd.zero = y := ⟨_, rfl⟩
                  have hyg : (t.shs N g2 n pb2 po2)[t.idx]'(by rw [hshl]; exact hidx) = y := by rw [← hy, getD_lt (by rw [hshl]; exact hidx)]
                  rw [hyg] at r0 r1 r2' r3
                  have HYok : Hid (SdOk w17 y) := hSh2.ok _ (by rw [← hyg]; exact List.getElem_mem _)
                  have HCp2 : Hid _ := copies_own (wz := w17) (cap := L) HCo17.out hcl (by omega) HPl1.out
                  have HDc2 : Hid (∀ V f ao cap, Below w17.heap.size w17 V → SdRow V ao (cps f L ++ [y]) → CpsOf f (t.cho t.sub N g n pb po) → Calls Tryd.prog 22 #[.pointer (some ⟨t.cb, 0, none⟩), .slice ao (L + 1) cap] V fun r w' => r = .returned (.tuple #[.slice none 0 0, .iface 186 (.pointer (some (e 4)))]) ∧ St w1 w5 ts w' ∧ Keeps w17 w') := by
                    intro V f ao cap hbV hRV hCV
                    have hStV := HSt17.out.below hbV
                    have hl1 : (cps f L ++ [y]).length = L + 1 := by rw [List.length_append, cps_len]; rfl
                    have h := decE_t (cap := cap) (i := 4) HT.out HMem.out hStV (HKS.out V hStV.kp) HTF.out (hStV.tw.errs HT.out HE1.out) hRV (by rw [hl1]; omega) (by rw [← hy, ← HL.out]; exact cho_mix HTF.out HGG.out HGG2.out HGne.out hCV (by rw [HL.out]; exact hL1) hidx)
                    rw [hl1] at h
                    refine h.mono ?_
                    rintro r w' ⟨h1, h2, h3⟩
                    exact ⟨h1, h2, (Below.keeps hbV).trans h3⟩
                  have hidx' : (t.idx : Int) < (N : Int) := by omega
                  clear hSt17 hcl hshl hSh2 hrr hbe hy hyg H1 H2 HCo16 HSt16
                  go_upto_region 30 with fail
                  go_cut [16, 17] from 31 to 156 (fun ov ev wx => ov = .slice none 0 0 ∧ ev = .iface 186 (.pointer (some (e 4))) ∧ St w1 w5 ts wx)
                  case first =>
                    have HSx : Hid (∀ V, Keeps w17 V → V.cell? ⟨B, 0, none⟩ = some (.pointer (some ⟨t.cb, 0, none⟩)) ∧ V.cell? ⟨B, 3, none⟩ = some (.int .i64 (t.idx : Int)) ∧ V.cell? ⟨HS2, t.idx * 4, none⟩ = some (.int .u8 (y.g : Int)) ∧ V.cell? ⟨HS2, t.idx * 4 + 1, none⟩ = some (.int .i64 y.ix) ∧ V.cell? ⟨HS2, t.idx * 4 + 2, none⟩ = some (.int .i64 y.ol) ∧ V.cell? ⟨HS2, t.idx * 4 + 3, none⟩ = some (.slice y.pa y.pl y.pc)) := fun V hk => ⟨hk _ _ _ f0, hk _ _ _ f3, hk _ _ _ r0, hk _ _ _ r1, hk _ _ _ r2', hk _ _ _ r3⟩
                    have HKd : Hid (Keeps w17 w17.drew ∧ ∀ o, Keeps w17 (w17.alloc o).drew) := ⟨Below.keeps (Below.refl _ _).drew, fun o => Below.keeps ((Below.refl _ _).alloc (Nat.le_refl _) o).drew⟩
                    refine reg30 (by kernel_rfl) hL65 hidx HYok HCp2 HDc2 HSx HKd ?_
                    intro x138 x139 x140 x141 x142 x143 x144 x145 x146 x147 x148 x149 x150 x151 x152 w20 hK1
                    have K1 : Hid (St w1 w5 ts w20) := hK1
                    clear hK1 HSx HKd HCp2 HDc2 HYok f0 f3 r0 r1 r2' r3
                    go_wp2
                    go_meet
                    exact ⟨rfl, rfl, K1.out⟩
                  case rest =>
                    obtain ⟨w20, hw20⟩ : ∃ x, x = wc := ⟨_, rfl⟩
                    subst hw20
                    obtain ⟨rfl, rfl, hSt20⟩ := hcut
                    have HSt20 : Hid (St w1 w5 ts w20) := hSt20
                    have HCl4 : Hid _ := class_any w20 e (hSt20.tw.errs HT.out HE1.out) 4 (by omega)
                    unfold errV at HCl4
                    clear hSt20 HCp2 HDc2 HYok r0 r1 r2' r3 f0 f3 HCo17 HSt17
                    go_wp2_with fail
                    refine Calls.mono HCl4.out ?_
                    rintro r w21 ⟨rfl, hb21⟩
                    have HF : Hid (St w1 w5 ts w21) := HSt20.out.below hb21
                    clear hb21 HCl4
                    go_wp2
                    go_roundw
                    case rel => exact ⟨q + 1, by omega, by go_num, HF.out⟩
                    case measure => simp [intOf]; omega
          · have hlq' : ¬ (q : Int) < 3 := by omega
            have HF : Hid (TW NoX w1 wr ts) := hSt.tw
            clear hSt
            go_wp2
            go_roundw
            case rel => exact ⟨j + 1, by omega, by go_num, HF.out⟩
            case measure => simp [intOf]; omega
      · have hlt' : ¬ (j : Int) < (ts.length : Int) := by omega
        have HB : Hid (Below w.heap.size w w2) := hTW.fin HT.out
        clear hTW
        go_wp2
        go_ret
        exact ⟨rfl, HB.out⟩
end Go.Proofs.Qxb6500697aDoor
