/-
  THE WALK OF THE LAW ResultsShareNoMemory.
-/
import Derived.Test.Qxb6500697aDoorKRes
namespace Go.Proofs.Qxb6500697aDoor
open Go.RowKit

set_option maxRecDepth 100000 in
set_option maxHeartbeats 8000000 in
theorem res_any (ops : List KOp) (ao : Option Addr) (cap : Nat) (w : World) (e : Nat → Addr) (E : KErrs 10 w e) (hG : Gens w) (hs : KScript w ao ops) (hm : ops.length ≤ 140737488355328) (hb : ∀ x ∈ ops, x.bs.length ≤ 140737488355328 ∧ x.pick.length ≤ 140737488355328) :
    Calls Tryd.prog 10 #[.slice ao ops.length cap] w fun r w' => r = .returned (.bool true) ∧ Below w.heap.size w w' := by
  have hI : Tryd.prog.isIface 48 = true := by kernel_rfl
  have HSm : Hid _ := ksmall_any ao ops cap w hs hm hb
  cases hsm : ksmall ops with
  | false =>
    rw [hsm] at HSm
    clear hs E hG
    go_enter Tryd.func10, Tryd.ntmps10
    go_wp2_with fail
    refine Calls.mono HSm.out ?_
    rintro r w' ⟨rfl, hw⟩
    have hw := hw.symm; subst hw
    go_wp2
    go_ret
    exact ⟨rfl, Below.refl _ _⟩
  | true =>
    rw [hsm] at HSm
    obtain ⟨hn, hbs⟩ := ksmall_len hsm
    have HTr : Hid _ := trials_any 10 ops ao cap w e E (by omega) hs hn hbs
    have HG : Hid (Gens w) := hG
    have HE : Hid (KErrs 10 w e) := E
    clear hs hb hsm E hG
    go_enter Tryd.func10, Tryd.ntmps10
    go_wp2_with fail
    refine Calls.mono HSm.out ?_
    rintro r w' ⟨rfl, hw⟩
    have hw := hw.symm; subst hw
    clear HSm
    go_wp2_with fail
    refine Calls.mono HTr.out ?_
    rintro r w1 ⟨v, ts, rfl, hT, htl⟩
    have hts : ts.length ≤ 140737488355328 := by omega
    clear htl
    obtain ⟨ta, tcap, rfl, htc⟩ := hT.form
    have HT : Hid (TOut w w1 (.slice ta ts.length tcap) ts) := hT
    have HTC : Hid _ := htc
    have HE1 : Hid (KErrs 10 w1 e) := HE.out.below hT.bel
    clear hT htc HTr
    go_wp2
    go_loopw [23] (fun i wr => ∃ j : Nat, j ≤ ts.length ∧ i = .int .i64 j ∧ TW NoX w1 wr ts) (fun i _ => ts.length - (intOf i).toNat)
    case atStart => exact ⟨0, Nat.zero_le _, rfl, TW.start HT.out⟩
    case round =>
      obtain ⟨w2, hw2⟩ : ∃ x, x = wr := ⟨_, rfl⟩
      subst hw2
      obtain ⟨j, hj, rfl, hTW⟩ := hrel
      by_cases hlt : j < ts.length
      · obtain ⟨g0, rfl, hcs⟩ := HTC.out (by omega)
        have hmem : ts[j] ∈ ts := List.getElem_mem hlt
        have kp := hTW.keeps HT.out
        have hok := (HT.out.ok ts[j] hmem).keeps kp
        have kc : ∀ i, i < 14 → w2.cell? ⟨g0, j * 14 + i, none⟩ = (ts[j]).cells[i]? := by
          intro i hi
          have h1 := hcs j hlt i hi
          have hl : (ts[j]).cells.length = 14 := rfl
          have h2 : (ts[j]).cells[i]? = some ((ts[j]).cells[i]'(by rw [hl]; exact hi)) := List.getElem?_eq_getElem _
          rw [h2] at h1 ⊢
          exact kp _ _ _ h1
        have HMem : Hid (ts[j] ∈ ts) := hmem
        obtain ⟨t, ht⟩ : ∃ t, ts[j] = t := ⟨_, rfl⟩
        rw [ht] at kc hok HMem
        have HOk : Hid (TrOk w2 w.heap.size (fun b => w.heap.size ≤ b ∧ (Value.slice (some ⟨g0, 0, none⟩) ts.length tcap).ownBlock ≠ some b) t) := hok
        have HTW : Hid (TW NoX w1 w2 ts) := hTW
        have k0 := kc 0 (by omega)
        have k1 := kc 1 (by omega)
        have k2 := kc 2 (by omega)
        have k3 := kc 3 (by omega)
        have k4 := kc 4 (by omega)
        have k5 := kc 5 (by omega)
        have k6 := kc 6 (by omega)
        have k7 := kc 7 (by omega)
        have k8 := kc 8 (by omega)
        have k9 := kc 9 (by omega)
        have k10 := kc 10 (by omega)
        have k11 := kc 11 (by omega)
        have k12 := kc 12 (by omega)
        have k13 := kc 13 (by omega)
        simp only [Tr.cells, KOp.cells, List.getElem?_cons_zero, List.getElem?_cons_succ, Nat.add_zero] at k0 k1 k2 k3 k4 k5 k6 k7 k8 k9 k10 k11 k12 k13
        have hlt' : (j : Int) < (ts.length : Int) := by omega
        have hidx := hok.idx
        have hkn := hok.codec.hn
        have hk1 := hok.codec.hk
        have hm1 := hok.codec.hm
        have hvalue := hok.hvalue
        have hmask := hok.hmask
        have hTF := hok.trF
        clear hcs hok kc ht hTW kp hmem
        obtain ⟨w5, hw5⟩ : ∃ w5, w2.alloc (.cells #[.pointer (some ⟨t.cb, 0, none⟩), .slice t.oa t.obs.length t.oc, .slice t.sa t.sub.length t.sc, .int .i64 t.idx, .int .u8 t.op.kind, .int .i64 t.op.k, .int .i64 t.op.m, .int .u8 t.op.gen, .slice t.op.da t.op.bs.length t.op.dc, .slice t.op.pa t.op.pick.length t.op.pc, .int .i64 t.op.index, .int .u8 t.op.field, .int .i64 t.op.value, .int .u8 t.op.mask] 45) = w5 := ⟨_, rfl⟩
        have HBox : Hid (TrBox w5 w2.heap.size t) := by
          show w5.heap[w2.heap.size]? = _
          rw [← hw5]; exact heap_alloc_new w2 _
        have hb5 : Below w2.heap.size w2 w5 := by rw [← hw5]; exact (Below.refl _ _).alloc (Nat.le_refl _) _
        have HTWd : Hid (TW NoX w1 w5 ts) := HTW.out.belowStep hb5
        have hGr : Gens w5 := ((HG.out.below HT.out.bel).keeps (HTW.out.keeps HT.out)).keeps (Below.keeps hb5)
        obtain ⟨gb, go, gc, hg0, hg1, hg2⟩ := hGr
        have HKS : Hid (∀ wq, Keeps w5 wq → TrOk wq w.heap.size (fun b => w.heap.size ≤ b ∧ (Value.slice (some ⟨g0, 0, none⟩) ts.length tcap).ownBlock ≠ some b) t) := fun wq kq => (HOk.out.keeps (Below.keeps hb5)).keeps kq
        obtain ⟨B, hB⟩ : ∃ B, w2.heap.size = B := ⟨_, rfl⟩
        have b0 : w5.cell? ⟨w2.heap.size, 0, none⟩ = some (.pointer (some ⟨t.cb, 0, none⟩)) := HBox.out.cell 0
        have b1 : w5.cell? ⟨w2.heap.size, 1, none⟩ = some (.slice t.oa t.obs.length t.oc) := HBox.out.cell 1
        have b2 : w5.cell? ⟨w2.heap.size, 2, none⟩ = some (.slice t.sa t.sub.length t.sc) := HBox.out.cell 2
        have b3 : w5.cell? ⟨w2.heap.size, 3, none⟩ = some (.int .i64 t.idx) := HBox.out.cell 3
        have b12 : w5.cell? ⟨w2.heap.size, 12, none⟩ = some (.int .i64 t.op.value) := HBox.out.cell 12
        have b13 : w5.cell? ⟨w2.heap.size, 13, none⟩ = some (.int .u8 t.op.mask) := HBox.out.cell 13
        have HKP : Hid (∀ i, i < 3 → w5.cell? ⟨gb, go + i, none⟩ = some (.int .u8 ((i + 1 : Nat) : Int))) := hg2
        clear hg2 hb5
        rw [hB] at b0 b1 b2 b3 b12 b13
        obtain ⟨n, hn⟩ : ∃ n, t.obs.length = n := ⟨_, rfl⟩
        obtain ⟨N, hN⟩ : ∃ N, t.k + t.m = N := ⟨_, rfl⟩
        rw [hn] at k1 b1 hw5
        rw [hn, hN] at hTF
        rw [hN] at hidx hkn
        have HTF : Hid (TrF t n N) := hTF
        have hn256 := hTF.hn256
        have hkN : t.k < N := by omega
        obtain ⟨L, hL⟩ : ∃ L, t.sub.length = L := ⟨_, rfl⟩
        have HL : Hid (t.sub.length = L) := hL
        have hLN : L ≤ N := by rw [← hL]; exact hTF.slen
        rw [hL] at k2 b2 hw5
        obtain ⟨hv1, hv2⟩ := hvalue
        clear hn hN hTF hL
        have H15 : Hid (w1.heap.size ≤ w5.heap.size) := HTWd.out.size
        have HKd : Hid (∀ q, Calls Tryd.prog 23 #[.pointer (some ⟨t.cb, 0, none⟩)] (World.drewN w5 q) fun r w' => r = .returned (.int .i64 (t.k : Int)) ∧ w' = World.drewN w5 q) := fun q => codecK_any _ _ t.cb t.mb t.k t.m (HKS.out _ (Below.keeps (drewN_below w5 q _))).codec
        by_cases hLk : L < t.k
        · have hLk' : (L : Int) < (t.k : Int) := by omega
          have HF : Hid (∀ q, TW NoX w1 (World.drewN w5 q) ts) := fun q => HTWd.out.belowStep (drewN_below _ _ _)
          go_upto_region 6 with fail
          clear hw5 hB k0 k1 k2 k3 k4 k5 k6 k7 k8 k9 k10 k11 k12 k13
          go_quiet (first | (go_at_call 23; with_reducible exact Calls.quiet_of_same (HKd.out _)))
          go_wp2
          go_roundw
          case rel => exact ⟨j + 1, by omega, by go_num, HF.out _⟩
          case measure => simp [intOf]; omega
        · have hLk' : ¬ (L : Int) < (t.k : Int) := by omega
          have hkL : t.k ≤ L := by omega
          go_upto_region 6 with fail
          clear hw5 hB k0 k1 k2 k3 k4 k5 k6 k7 k8 k9 k10 k11 k12 k13
          go_cut [33] from 24 to 103 (fun bv wx => bv = .bool false ∧ ∃ q, wx = w5.drewN q)
          case first =>
            go_quiet (first | (go_at_call 23; with_reducible exact Calls.quiet_of_same (HKd.out _)))
            go_wp2
            go_meet
            exact ⟨rfl, _, rfl⟩
          case rest =>
            obtain ⟨rfl, q5, hwc⟩ := hcut
            subst hwc
            have HS5 : Hid (St w1 w5 ts (w5.drewN q5)) := (St.start HTWd.out).below (drewN_below _ _ _)
            obtain ⟨w6, hw6⟩ : ∃ w6, w5.drewN q5 = w6 := ⟨_, rfl⟩
            rw [hw6] at HS5 ⊢
            have g06 := HS5.out.kp _ _ _ hg0
            clear hw6 HKd hLk hLk'
            go_wp2
            go_loopw [36] (fun i wq => ∃ q : Nat, q ≤ 3 ∧ i = .int .i64 q ∧ St w1 w5 ts wq) (fun i _ => 3 - (intOf i).toNat)
            case atStart => exact ⟨0, by omega, rfl, HS5.out⟩
            case round =>
              obtain ⟨q, hq, rfl, hSt⟩ := hrel
              have HSt : Hid (St w1 w5 ts wr) := hSt
              by_cases hlq : q < 3
              · have hlq' : (q : Int) < 3 := by omega
                have gq := hSt.kp _ _ _ (HKP.out q hlq)
                obtain ⟨g, hg⟩ : ∃ g, g = q + 1 := ⟨_, rfl⟩
                rw [← hg] at gq
                have HGG : Hid (g = 1 ∨ g = 2 ∨ g = 3) := by show g = 1 ∨ g = 2 ∨ g = 3; omega
                have a1 := hSt.kp _ _ _ b1
                have hg256 : g < 256 := by omega
                have hps := psize_le g t.k n hk1 hn256
                have HObj : Hid (FRow wr t.oa n (fun i => t.obs.getD i 0)) := by
                  have h := (HKS.out wr hSt.kp).obj
                  show FRow wr t.oa n (fun i => t.obs.getD i 0)
                  rw [← HTF.out.hn]
                  exact h.frow
                have HCl : Hid _ := clone_any t.oa n t.oc _ wr HObj.out (by omega)
                clear hSt hg g06
                go_wp2_with fail
                refine Calls.mono HCl.out ?_
                rintro r w7 ⟨oa2, oc2, rfl, ho1, ho2, hFr, hb7⟩
                have HFr : Hid (Fresh wr w7 oa2 n (fun i => t.obs.getD i 0)) := hFr
                have hSt7 := HSt.out.below hb7
                have HSt7 : Hid (St w1 w5 ts w7) := hSt7
                have HB7 : Hid (Below wr.heap.size wr w7) := hb7
                have a0 := hSt7.kp _ _ _ b0
                have HEn : Hid _ := enc2_t (HKS.out w7 hSt7.kp) HTF.out HGG.out hFr.1 ho1 ho2
                clear hSt7 hFr hb7 HCl a1 gq HObj ho1 ho2
                go_wp2_with fail
                refine Calls.mono HEn.out ?_
                rintro r w8 ⟨HS, pb, po, rfl, hHS, hpb, hSd, hb8⟩
                have HHS : Hid (w7.heap.size ≤ HS ∧ ∀ i, i < N → w7.heap.size ≤ pb i) := ⟨hHS, hpb⟩
                have HSd : Hid (SdRow w8 (some ⟨HS, 0, none⟩) (t.shs N g n pb po)) := hSd
                have HSt8 : Hid (St w1 w5 ts w8) := HSt7.out.below hb8
                have HB8 : Hid (Below w7.heap.size w7 w8) := hb8
                have HCp : Hid _ := copies_any w8 (some ⟨HS, 0, none⟩) N (t.shs N g n pb po) hSd (by rw [shL_len]; omega) (fun s hs => by obtain ⟨i, _, rfl⟩ := List.mem_map.1 hs; show psize g t.k n ≤ _; omega)
                rw [shL_len] at HCp
                clear hHS hpb hSd hb8 HEn a0
                go_wp2_with fail
                refine Calls.mono HCp.out ?_
                rintro r w9 ⟨rfl, f, hCp⟩
                have HCpr : Hid (CpRel w8 w9 (t.shs N g n pb po) f N) := hCp
                have hb9 := hCp.bel
                have HSt9 : Hid (St w1 w5 ts w9) := HSt8.out.below hb9
                have HSc : Hid _ := scribble_any oa2 n oc2 (fun i => t.obs.getD i 0) w9 (fun h0 => by
                  obtain ⟨d, q1, q2, q3⟩ := HFr.out.2 h0
                  exact ⟨d, q1, (q3.below HB8.out).below hb9⟩) (by omega)
                obtain ⟨bH, hbH⟩ : ∃ bH, w8.heap.size = bH := ⟨_, rfl⟩
                have HbH : Hid (w8.heap.size = bH) := hbH
                rw [hbH]
                clear hCp hb9 HCp hbH
                go_wp2_with fail
                refine Calls.mono HSc.out ?_
                rintro r w10 ⟨rfl, hOn⟩
                have hAll : St w1 w5 ts w10 ∧ SdRow w10 (some ⟨HS, 0, none⟩) (t.shs N g n pb po) ∧ SdRow w10 (some ⟨bH, 0, none⟩) (cps f N) := by
                  have s78 := HB8.out.size
                  have s89 := HCpr.out.bel.size
                  have s67 := HB7.out.size
                  have hbH := HbH.out
                  obtain ⟨d, hd0, hd1, hd2⟩ : ∃ d, (0 < n → oa2 = some ⟨d, 0, none⟩) ∧ wr.heap.size ≤ d ∧ (d < w7.heap.size ∨ w9.heap.size ≤ d) := by
                    rcases Nat.eq_zero_or_pos n with h0 | h0
                    · exact ⟨w9.heap.size, fun h => by omega, by omega, .inr (Nat.le_refl _)⟩
                    · obtain ⟨d, q1, q2, q3⟩ := HFr.out.2 h0
                      exact ⟨d, fun _ => q1, q2, .inl q3.lt⟩
                  have hO := hOn d hd0
                  have hbAll : Below wr.heap.size wr w9 := (HB7.out.trans (HB8.out.mono s67)).trans (HCpr.out.bel.mono (by omega))
                  have hSz := HSt.out.sz
                  have hSd9 := HSd.out.keeps (Below.keeps HCpr.out.bel)
                  have hHS9 : HS < w9.heap.size := by
                    obtain ⟨b', he, hr⟩ := hSd9.row (by rw [shL_len]; omega)
                    obtain rfl : HS = b' := congrArg (fun x : Option Addr => (x.getD ⟨0, 0, none⟩).block) he
                    exact cell_lt (hr 0 (by rw [shL_len]; omega)).1
                  refine ⟨HSt9.out.scrib HT.out (HSt.out.tw.addX hbAll (fun b hb => .inr (by omega))) H15.out (by omega) hO, hSd9.only hO (by have := HHS.out.1; omega) (fun s hs h0 b o he => ?_), ?_⟩
                  · obtain ⟨i, hi, rfl⟩ := List.mem_map.1 hs
                    have h1 := HHS.out.2 i (List.mem_range.1 hi)
                    have h2 := (hSd9.ok _ hs).pay.at_lt h0 he
                    have h3 : pb i = b := congrArg (fun x : Option Addr => (x.getD ⟨0, 0, none⟩).block) he
                    omega
                  · have hl : (t.shs N g n pb po).length = N := shL_len _ _ _ _ _ _ _
                    have hC := HCpr.out
                    have hR : SdRow w9 (some ⟨w8.heap.size, 0, none⟩) (cps f N) := by
                      have h := CpRel.sdrow (w := w8) (wr := w9) (ss := t.shs N g n pb po) (f := f) (by rw [hl]; exact hC) HSd.out
                      rw [hl] at h
                      exact h
                    have hlt8 : w8.heap.size < w9.heap.size := hC.row.lt
                    rw [← hbH]
                    refine hR.only hO (by omega) (fun s hs h0 b o he => ?_)
                    obtain ⟨i, hi, rfl⟩ := List.mem_map.1 hs
                    obtain ⟨gg, q1, q2, q3⟩ := hC.own i (List.mem_range.1 hi) h0
                    have h4 := q3.lt
                    rw [q1] at he
                    have h3 : gg = b := congrArg (fun x : Option Addr => (x.getD ⟨0, 0, none⟩).block) he
                    omega
                obtain ⟨hSt10, hSd10, hBf10⟩ := hAll
                have HSt10 : Hid (St w1 w5 ts w10) := hSt10
                have HSd10 : Hid (SdRow w10 (some ⟨HS, 0, none⟩) (t.shs N g n pb po)) := hSd10
                have HBf10 : Hid (SdRow w10 (some ⟨bH, 0, none⟩) (cps f N)) := hBf10
                have HCe : Hid (∀ i, i < N → ∃ pa pc, f i = ((t.shs N g n pb po).getD i Sd.zero).with pa pc) := fun i hi => by
                  obtain ⟨pa, pc, h1, _⟩ := HCpr.out.eq i hi
                  exact ⟨pa, pc, h1⟩
                have c2 := hSt10.kp _ _ _ b2
                have HCh : Hid _ := choose_t (sc := t.sc) hSd10 (HKS.out w10 hSt10.kp).sub HTF.out.slt (by have := HL.out; omega)
                rw [HL.out] at HCh
                clear hOn hSt10 hSd10 hBf10 HSc HCpr HFr HB7 HB8 HHS HSt7 HSt8 HSt9 HSd HbH HSt
                go_wp2_with fail
                refine Calls.mono HCh.out ?_
                rintro r w11 ⟨cB, rfl, hCo, hb11⟩
                have HCo : Hid (SdRow w11 (some ⟨cB, 0, none⟩) (t.cho t.sub N g n pb po)) := hCo
                have hSt11 := HSt10.out.below hb11
                have HSt11 : Hid (St w1 w5 ts w11) := hSt11
                have HSd11 : Hid (SdRow w11 (some ⟨HS, 0, none⟩) (t.shs N g n pb po) ∧ SdRow w11 (some ⟨bH, 0, none⟩) (cps f N)) := ⟨HSd10.out.keeps (Below.keeps hb11), HBf10.out.keeps (Below.keeps hb11)⟩
                have d0 := hSt11.kp _ _ _ b0
                have HDc : Hid _ := decX_t (cap := L) HT.out HMem.out hSt11 (HKS.out w11 hSt11.kp) HTF.out (hSt11.tw.errs HT.out HE1.out) HGG.out hCo HTF.out.nodup HTF.out.slt (by rw [HL.out]; exact hkL)
                rw [HL.out] at HDc
                clear hCo hb11 hSt11 HCh c2 HSd10 HBf10 HSt10
                go_wp2_with fail
                refine Calls.mono HDc.out ?_
                rintro r w12 ⟨ob, s, rfl, hob, hWo, hSt12, hk12, hTW12⟩
                have HSc : Hid _ := scribble_any (some ⟨ob, 0, none⟩) n n s w12 (fun h0 => ⟨ob, rfl, hWo⟩) (by omega)
                have HA12 : Hid (∀ w13, Only ob w12 w13 → St w1 w5 ts w13 ∧ Keeps w11 w13) := fun w13 hO => ⟨hSt12.scrib HT.out hTW12 H15.out (Nat.le_trans HSt11.out.sz hob) hO, hk12.only hO hob⟩
                clear hob hWo hSt12 hk12 hTW12 HDc d0
                go_wp2_with fail
                refine Calls.mono HSc.out ?_
                rintro r w13 ⟨rfl, hOn⟩
                obtain ⟨hSt13, hk13⟩ := HA12.out w13 (hOn ob (fun _ => rfl))
                have HSt13 : Hid (St w1 w5 ts w13) := hSt13
                have HSd13 : Hid (SdRow w13 (some ⟨HS, 0, none⟩) (t.shs N g n pb po) ∧ SdRow w13 (some ⟨bH, 0, none⟩) (cps f N) ∧ SdRow w13 (some ⟨cB, 0, none⟩) (t.cho t.sub N g n pb po)) := ⟨HSd11.out.1.keeps hk13, HSd11.out.2.keeps hk13, HCo.out.keeps hk13⟩
                obtain ⟨sb, so, hsa, _, hsc⟩ := (HKS.out w13 hSt13.kp).sub (fun h => by have := HL.out; rw [h] at this; simp at this; omega)
                have e2 := hSt13.kp _ _ _ b2
                have e3 := hSt13.kp _ _ _ b3
                have hs0N : t.sub.getD 0 0 < N := HTF.out.slt _ (getD_mem (by have := HL.out; omega))
                have es0 : w13.cell? ⟨sb, so, none⟩ = some (.int .i64 ((t.sub.getD 0 0 : Nat) : Int)) := hsc 0 (by have := HL.out; omega)
                obtain ⟨s0, hs0⟩ : ∃ s0, t.sub.getD 0 0 = s0 := ⟨_, rfl⟩
                rw [hs0] at es0 hs0N
                rw [hsa] at e2
                have hL0' : (0 : Int) < (L : Int) := by omega
                have hL0n : 0 < L := by omega
                clear hOn hSt13 hk13 hsc hs0 HSc HA12 HSd11 HCo HSt11
                go_upto_region 21 with fail
                go_region_held3 (fun w' => w'.cell? ⟨B, 3, none⟩ = some (.int .i64 (t.idx : Int)) ∧ w'.cell? ⟨B, 2, none⟩ = some (.slice (some ⟨sb, so, none⟩) L t.sc) ∧ w'.cell? ⟨sb, so, none⟩ = some (.int .i64 (s0 : Int))) (first | go_keep) (first | fail)
                rename_i hHeld
                clear hHeld
                obtain ⟨w14, hw14⟩ : ∃ w14, (w13.alloc (.cells #[.int .i64 (t.idx : Int), .int .i64 (s0 : Int)] 3)).drew = w14 := ⟨_, rfl⟩
                rw [hw14]
                have hb14 : Below w13.heap.size w13 w14 := by rw [← hw14]; exact ((Below.refl _ _).alloc (Nat.le_refl _) _).drew
                have hbk : w14.heap[w13.heap.size]? = some (.cells #[.int .i64 (t.idx : Int), .int .i64 (s0 : Int)] 3 (0, 0)) := by rw [← hw14]; exact heap_alloc_drew w13 _
                have HSt14 : Hid (St w1 w5 ts w14) := HSt13.out.below hb14
                obtain ⟨xb, hxb⟩ : ∃ xb, w13.heap.size = xb := ⟨_, rfl⟩
                rw [hxb] at hbk ⊢
                have HIx : Hid (∀ q : Nat, q < 2 → ∃ ix : Nat, w14.cell? ⟨xb, q, none⟩ = some (.int .i64 (ix : Int)) ∧ ix < N) := by
                  intro q hq
                  rcases (show q = 0 ∨ q = 1 by omega) with rfl | rfl
                  · exact ⟨t.idx, by simp [World.cell?, hbk], hidx⟩
                  · exact ⟨s0, by simp [World.cell?, hbk], hs0N⟩
                have HSd14 : Hid (SdRow w14 (some ⟨HS, 0, none⟩) (t.shs N g n pb po) ∧ SdRow w14 (some ⟨bH, 0, none⟩) (cps f N) ∧ SdRow w14 (some ⟨cB, 0, none⟩) (t.cho t.sub N g n pb po)) := ⟨HSd13.out.1.keeps (Below.keeps hb14), HSd13.out.2.1.keeps (Below.keeps hb14), HSd13.out.2.2.keeps (Below.keeps hb14)⟩
                clear hw14 hb14 hbk hxb e2 e3 es0 HSd13 HSt13 hsa
                go_wp2
                go_loopw [80] (fun i wq => ∃ q' : Nat, q' ≤ 2 ∧ i = .int .i64 q' ∧ St w1 w5 ts wq ∧ Keeps w14 wq) (fun i _ => 2 - (intOf i).toNat)
                case atStart => exact ⟨0, by omega, rfl, HSt14.out, Keeps.refl _⟩
                case round =>
                  obtain ⟨q', hq', rfl, hSt15, hk15⟩ := hrel
                  obtain ⟨w15, hw15⟩ : ∃ x, x = wr := ⟨_, rfl⟩
                  subst hw15
                  have HSt15 : Hid (St w1 w5 ts w15) := hSt15
                  have HK15 : Hid (Keeps w14 w15) := hk15
                  by_cases hlq2 : q' < 2
                  · have hlq2' : (q' : Int) < 2 := by omega
                    obtain ⟨ix, hix, hixN⟩ := HIx.out q' hlq2
                    have f5 := hk15 _ _ _ hix
                    have f0 := hSt15.kp _ _ _ b0
                    have HRb : Hid _ := rebX_t (cap := L) (ix := ix) HT.out HMem.out hSt15 (HKS.out w15 hSt15.kp) HTF.out (hSt15.tw.errs HT.out HE1.out) HGG.out (HSd14.out.2.2.keeps hk15) HTF.out.nodup HTF.out.slt (by rw [HL.out]; exact hkL) hixN
                    rw [HL.out] at HRb
                    obtain ⟨size, hsize⟩ : ∃ size, psize g t.k n = size := ⟨_, rfl⟩
                    rw [hsize] at HRb hps
                    clear hSt15 hk15 hix hsize
                    go_wp2_with fail
                    refine Calls.mono HRb.out ?_
                    rintro r w16 ⟨pa, pc, d, s, rfl, hd, hWp, hSt16, hk16, hTW16⟩
                    obtain ⟨w17, hw17⟩ : ∃ w17, w16.alloc (.cells #[.int .u8 (g : Int), .int .i64 (ix : Int), .int .i64 (n : Int), .slice pa size pc] 60) = w17 := ⟨_, rfl⟩
                    have hb17 : Below w16.heap.size w16 w17 := by rw [← hw17]; exact (Below.refl _ _).alloc (Nat.le_refl _) _
                    have y3 : w17.cell? ⟨w16.heap.size, 3, none⟩ = some (.slice pa size pc) := by
                      have h : w17.heap[w16.heap.size]? = some (.cells #[.int .u8 (g : Int), .int .i64 (ix : Int), .int .i64 (n : Int), .slice pa size pc] 60 (0, 0)) := by rw [← hw17]; exact heap_alloc_new w16 _
                      simp [World.cell?, h]
                    have HSc : Hid _ := scribble_any pa size pc s w17 (fun h0 => ⟨d, (hWp h0).1, (hWp h0).2.below hb17⟩) (by omega)
                    have HFin : Hid (∀ w18, Only d w17 w18 → St w1 w5 ts w18 ∧ Keeps w14 w18) := fun w18 hO => ⟨(hSt16.below hb17).scrib HT.out (hTW16.belowStep hb17) H15.out (Nat.le_trans HSt15.out.sz hd) hO, HK15.out.trans ((hk16.trans (Below.keeps hb17)).only hO hd)⟩
                    have Hpa : Hid (0 < size → pa = some ⟨d, 0, none⟩) := fun h0 => (hWp h0).1
                    clear hd hWp hSt16 hk16 hTW16 hb17 HRb f0 f5
                    go_wp2_with fail
                    refine Calls.mono HSc.out ?_
                    rintro r w18 ⟨rfl, hOn⟩
                    have HF : Hid (St w1 w5 ts w18 ∧ Keeps w14 w18) := HFin.out w18 (hOn d Hpa.out)
                    clear hOn HSc HFin Hpa
                    go_wp2
                    go_roundw
                    case rel => exact ⟨q' + 1, by omega, by go_num, HF.out⟩
                    case measure => simp [intOf]; omega
                  · have hlq2' : ¬ (q' : Int) < 2 := by omega
                    have HSS : Hid _ := sameShards_true w15 (some ⟨HS, 0, none⟩) (some ⟨bH, 0, none⟩) N N N (t.shs N g n pb po) (cps f N) (HSd14.out.1.keeps hk15) (HSd14.out.2.1.keeps hk15) (shL_len _ _ _ _ _ _ _) (cps_len f N) (by omega) (fun i hi => by
                      obtain ⟨pa, pc, h1⟩ := HCe.out i hi
                      have h2 : (cps f N).getD i Sd.zero = f i := by rw [getD_lt (by rw [cps_len]; exact hi)]; simp [cps]
                      rw [h2, h1]
                      exact ⟨rfl, rfl, rfl, rfl, fun _ _ => rfl⟩) (fun i hi => by rw [shL_get hi]; show psize g t.k n ≤ _; omega)
                    clear hSt15 hk15 HSd14
                    go_wp2_with fail
                    refine Calls.mono HSS.out ?_
                    rintro r w16 ⟨rfl, hb16⟩
                    have HF : Hid (St w1 w5 ts w16) := HSt15.out.below hb16
                    clear hb16 HSS
                    go_wp2
                    go_roundw
                    case rel => exact ⟨q + 1, by omega, by go_num, HF.out⟩
                    case measure => simp [intOf]; omega
              · have hlq' : ¬ (q : Int) < 3 := by omega
                have HF : Hid (TW NoX w1 wr ts) := hSt.tw
                clear hSt g06
                go_wp2
                go_roundw
                case rel => exact ⟨j + 1, by omega, by go_num, HF.out⟩
                case measure => simp [intOf]; omega
      · have hlt' : ¬ (j : Int) < (ts.length : Int) := by omega
        have HB : Hid (Below w.heap.size w w2) := hTW.fin HT.out
        clear hTW
        go_wp2
        go_ret
        exact ⟨rfl, HB.out⟩
end Go.Proofs.Qxb6500697aDoor
