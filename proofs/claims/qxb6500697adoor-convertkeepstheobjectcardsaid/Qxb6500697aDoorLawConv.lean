/-
  THE WALK OF THE LAW ConvertKeepsTheObject.
-/
import Derived.Test.Qxb6500697aDoorKSt
namespace Go.Proofs.Qxb6500697aDoor
open Go.RowKit

set_option maxRecDepth 100000 in
set_option maxHeartbeats 4000000 in
theorem conv_any (ops : List KOp) (ao : Option Addr) (cap : Nat) (w : World) (e : Nat → Addr) (E : KErrs 10 w e) (hG : Gens w) (hs : KScript w ao ops) (hm : ops.length ≤ 140737488355328) (hb : ∀ x ∈ ops, x.bs.length ≤ 140737488355328 ∧ x.pick.length ≤ 140737488355328) :
    Calls Tryd.prog 8 #[.slice ao ops.length cap] w fun r w' => r = .returned (.bool true) ∧ Below w.heap.size w w' := by
  have hI : Tryd.prog.isIface 48 = true := by kernel_rfl
  have HSm : Hid _ := ksmall_any ao ops cap w hs hm hb
  cases hsm : ksmall ops with
  | false =>
    rw [hsm] at HSm
    clear hs E hG
    go_enter Tryd.func8, Tryd.ntmps8
    go_wp2_with fail
    refine Calls.mono HSm.out ?_
    rintro r w' ⟨rfl, hw⟩
    have hw := hw.symm; subst hw
    go_wp2
    go_ret
    exact ⟨rfl, Below.refl _ _⟩
  | true =>
    rw [hsm] at HSm
    obtain ⟨hn, hbs⟩ := ksmall_len hsm
    have HTr : Hid _ := trials_any 10 ops ao cap w e E (by omega) hs hn hbs
    have HG : Hid (Gens w) := hG
    have HE : Hid (KErrs 10 w e) := E
    clear hs hb hsm E hG
    go_enter Tryd.func8, Tryd.ntmps8
    go_wp2_with fail
    refine Calls.mono HSm.out ?_
    rintro r w' ⟨rfl, hw⟩
    have hw := hw.symm; subst hw
    clear HSm
    go_wp2_with fail
    refine Calls.mono HTr.out ?_
    rintro r w1 ⟨v, ts, rfl, hT, htl⟩
    have hts : ts.length ≤ 140737488355328 := by omega
    clear htl
    obtain ⟨ta, tcap, rfl, htc⟩ := hT.form
    have HT : Hid (TOut w w1 (.slice ta ts.length tcap) ts) := hT
    have HTC : Hid _ := htc
    have HE1 : Hid (KErrs 10 w1 e) := HE.out.below hT.bel
    clear hT htc HTr
    go_wp2
    go_loopw [26] (fun i wr => ∃ j : Nat, j ≤ ts.length ∧ i = .int .i64 j ∧ TW NoX w1 wr ts) (fun i _ => ts.length - (intOf i).toNat)
    case atStart => exact ⟨0, Nat.zero_le _, rfl, TW.start HT.out⟩
    case round =>
      obtain ⟨w2, hw2⟩ : ∃ x, x = wr := ⟨_, rfl⟩
      subst hw2
      obtain ⟨j, hj, rfl, hTW⟩ := hrel
      by_cases hlt : j < ts.length
      · obtain ⟨g0, rfl, hcs⟩ := HTC.out (by omega)
        have hmem : ts[j] ∈ ts := List.getElem_mem hlt
        have kp := hTW.keeps HT.out
        have hok := (HT.out.ok ts[j] hmem).keeps kp
        have kc : ∀ i, i < 14 → w2.cell? ⟨g0, j * 14 + i, none⟩ = (ts[j]).cells[i]? := by
          intro i hi
          have h1 := hcs j hlt i hi
          have hl : (ts[j]).cells.length = 14 := rfl
          have h2 : (ts[j]).cells[i]? = some ((ts[j]).cells[i]'(by rw [hl]; exact hi)) := List.getElem?_eq_getElem _
          rw [h2] at h1 ⊢
          exact kp _ _ _ h1
        have HMem : Hid (ts[j] ∈ ts) := hmem
        obtain ⟨t, ht⟩ : ∃ t, ts[j] = t := ⟨_, rfl⟩
        rw [ht] at kc hok HMem
        have HOk : Hid (TrOk w2 w.heap.size (fun b => w.heap.size ≤ b ∧ (Value.slice (some ⟨g0, 0, none⟩) ts.length tcap).ownBlock ≠ some b) t) := hok
        have HTW : Hid (TW NoX w1 w2 ts) := hTW
        have k0 := kc 0 (by omega)
        have k1 := kc 1 (by omega)
        have k2 := kc 2 (by omega)
        have k3 := kc 3 (by omega)
        have k4 := kc 4 (by omega)
        have k5 := kc 5 (by omega)
        have k6 := kc 6 (by omega)
        have k7 := kc 7 (by omega)
        have k8 := kc 8 (by omega)
        have k9 := kc 9 (by omega)
        have k10 := kc 10 (by omega)
        have k11 := kc 11 (by omega)
        have k12 := kc 12 (by omega)
        have k13 := kc 13 (by omega)
        simp only [Tr.cells, KOp.cells, List.getElem?_cons_zero, List.getElem?_cons_succ, Nat.add_zero] at k0 k1 k2 k3 k4 k5 k6 k7 k8 k9 k10 k11 k12 k13
        have hlt' : (j : Int) < (ts.length : Int) := by omega
        have hidx := hok.idx
        have hkn := hok.codec.hn
        have hk1 := hok.codec.hk
        have hm1 := hok.codec.hm
        have hvalue := hok.hvalue
        have hmask := hok.hmask
        have hTF := hok.trF
        clear hcs hok kc ht hTW kp hmem
        obtain ⟨w5, hw5⟩ : ∃ w5, w2.alloc (.cells #[.pointer (some ⟨t.cb, 0, none⟩), .slice t.oa t.obs.length t.oc, .slice t.sa t.sub.length t.sc, .int .i64 t.idx, .int .u8 t.op.kind, .int .i64 t.op.k, .int .i64 t.op.m, .int .u8 t.op.gen, .slice t.op.da t.op.bs.length t.op.dc, .slice t.op.pa t.op.pick.length t.op.pc, .int .i64 t.op.index, .int .u8 t.op.field, .int .i64 t.op.value, .int .u8 t.op.mask] 45) = w5 := ⟨_, rfl⟩
        have HBox : Hid (TrBox w5 w2.heap.size t) := by
          show w5.heap[w2.heap.size]? = _
          rw [← hw5]; exact heap_alloc_new w2 _
        have hb5 : Below w2.heap.size w2 w5 := by rw [← hw5]; exact (Below.refl _ _).alloc (Nat.le_refl _) _
        have HTWd : Hid (TW NoX w1 w5 ts) := HTW.out.belowStep hb5
        have hGr : Gens w5 := ((HG.out.below HT.out.bel).keeps (HTW.out.keeps HT.out)).keeps (Below.keeps hb5)
        obtain ⟨gb, go, gc, hg0, hg1, hg2⟩ := hGr
        have HKS : Hid (∀ wq, Keeps w5 wq → TrOk wq w.heap.size (fun b => w.heap.size ≤ b ∧ (Value.slice (some ⟨g0, 0, none⟩) ts.length tcap).ownBlock ≠ some b) t) := fun wq kq => (HOk.out.keeps (Below.keeps hb5)).keeps kq
        obtain ⟨B, hB⟩ : ∃ B, w2.heap.size = B := ⟨_, rfl⟩
        have b0 : w5.cell? ⟨w2.heap.size, 0, none⟩ = some (.pointer (some ⟨t.cb, 0, none⟩)) := HBox.out.cell 0
        have b1 : w5.cell? ⟨w2.heap.size, 1, none⟩ = some (.slice t.oa t.obs.length t.oc) := HBox.out.cell 1
        have b2 : w5.cell? ⟨w2.heap.size, 2, none⟩ = some (.slice t.sa t.sub.length t.sc) := HBox.out.cell 2
        have b3 : w5.cell? ⟨w2.heap.size, 3, none⟩ = some (.int .i64 t.idx) := HBox.out.cell 3
        have b12 : w5.cell? ⟨w2.heap.size, 12, none⟩ = some (.int .i64 t.op.value) := HBox.out.cell 12
        have b13 : w5.cell? ⟨w2.heap.size, 13, none⟩ = some (.int .u8 t.op.mask) := HBox.out.cell 13
        have HKP : Hid (∀ i, i < 3 → w5.cell? ⟨gb, go + i, none⟩ = some (.int .u8 ((i + 1 : Nat) : Int))) := hg2
        clear hg2 hb5
        rw [hB] at b0 b1 b2 b3 b12 b13
        obtain ⟨n, hn⟩ : ∃ n, t.obs.length = n := ⟨_, rfl⟩
        obtain ⟨N, hN⟩ : ∃ N, t.k + t.m = N := ⟨_, rfl⟩
        rw [hn] at k1 b1 hw5
        rw [hn, hN] at hTF
        rw [hN] at hidx hkn
        have HTF : Hid (TrF t n N) := hTF
        have hn256 := hTF.hn256
        have hkN : t.k < N := by omega
        obtain ⟨L, hL⟩ : ∃ L, t.sub.length = L := ⟨_, rfl⟩
        have HL : Hid (t.sub.length = L) := hL
        have hLN : L ≤ N := by rw [← hL]; exact hTF.slen
        rw [hL] at k2 b2 hw5
        obtain ⟨hv1, hv2⟩ := hvalue
        clear hn hN hTF hL
        have HKd : Hid (∀ q, Calls Tryd.prog 23 #[.pointer (some ⟨t.cb, 0, none⟩)] (World.drewN w5 q) fun r w' => r = .returned (.int .i64 (t.k : Int)) ∧ w' = World.drewN w5 q) := fun q => codecK_any _ _ t.cb t.mb t.k t.m (HKS.out _ (Below.keeps (drewN_below w5 q _))).codec
        by_cases hLk : L < t.k
        · have hLk' : (L : Int) < (t.k : Int) := by omega
          have HF : Hid (∀ q, TW NoX w1 (World.drewN w5 q) ts) := fun q => HTWd.out.belowStep (drewN_below _ _ _)
          go_upto_region 6 with fail
          clear hw5 hB k0 k1 k2 k3 k4 k5 k6 k7 k8 k9 k10 k11 k12 k13
          go_quiet (first | (go_at_call 23; with_reducible exact Calls.quiet_of_same (HKd.out _)))
          go_wp2
          go_roundw
          case rel => exact ⟨j + 1, by omega, by go_num, HF.out _⟩
          case measure => simp [intOf]; omega
        · have hLk' : ¬ (L : Int) < (t.k : Int) := by omega
          have hkL : t.k ≤ L := by omega
          go_upto_region 6 with fail
          clear hw5 hB k0 k1 k2 k3 k4 k5 k6 k7 k8 k9 k10 k11 k12 k13
          go_cut [36] from 27 to 123 (fun bv wx => bv = .bool false ∧ ∃ q, wx = w5.drewN q)
          case first =>
            go_quiet (first | (go_at_call 23; with_reducible exact Calls.quiet_of_same (HKd.out _)))
            go_wp2
            go_meet
            exact ⟨rfl, _, rfl⟩
          case rest =>
            obtain ⟨rfl, q5, hwc⟩ := hcut
            subst hwc
            have HS5 : Hid (St w1 w5 ts (w5.drewN q5)) := (St.start HTWd.out).below (drewN_below _ _ _)
            obtain ⟨w6, hw6⟩ : ∃ w6, w5.drewN q5 = w6 := ⟨_, rfl⟩
            rw [hw6] at HS5 ⊢
            have g06 := HS5.out.kp _ _ _ hg0
            clear hw6 HKd hLk hLk'
            go_wp2
            go_loopw [39] (fun i wq => ∃ q : Nat, q ≤ 3 ∧ i = .int .i64 q ∧ St w1 w5 ts wq) (fun i _ => 3 - (intOf i).toNat)
            case atStart => exact ⟨0, by omega, rfl, HS5.out⟩
            case round =>
              obtain ⟨q, hq, rfl, hSt⟩ := hrel
              have HSt : Hid (St w1 w5 ts wr) := hSt
              by_cases hlq : q < 3
              · have hlq' : (q : Int) < 3 := by omega
                have gq := hSt.kp _ _ _ (HKP.out q hlq)
                obtain ⟨g, hg⟩ : ∃ g, g = q + 1 := ⟨_, rfl⟩
                rw [← hg] at gq
                have HGG : Hid (g = 1 ∨ g = 2 ∨ g = 3) := by show g = 1 ∨ g = 2 ∨ g = 3; omega
                have HEn : Hid _ := enc_t (HKS.out wr hSt.kp) HTF.out HGG.out
                have a0 := hSt.kp _ _ _ b0
                have a1 := hSt.kp _ _ _ b1
                have hg256 : g < 256 := by omega
                clear hSt hg g06
                go_wp2_with fail
                refine Calls.mono HEn.out ?_
                rintro r w7 ⟨HS, pb, po, rfl, _, _, hSd, hb7⟩
                have hSt7 := HSt.out.below hb7
                have HSt7 : Hid (St w1 w5 ts w7) := hSt7
                have HSd : Hid (SdRow w7 (some ⟨HS, 0, none⟩) (t.shs N g n pb po)) := hSd
                have c0 := hSt7.kp _ _ _ b0
                have c2 := hSt7.kp _ _ _ b2
                have HCh : Hid _ := choose_t (sc := t.sc) hSd (HKS.out w7 hSt7.kp).sub HTF.out.slt (by have := HL.out; omega)
                rw [HL.out] at HCh
                clear hSt7 hSd hb7 HEn a0 a1 gq
                go_wp2_with fail
                refine Calls.mono HCh.out ?_
                rintro r w8 ⟨cB, rfl, hCo, hb8⟩
                have HCo : Hid (SdRow w8 (some ⟨cB, 0, none⟩) (t.cho t.sub N g n pb po)) := hCo
                have hSt8 := HSt7.out.below hb8
                have HSt8 : Hid (St w1 w5 ts w8) := hSt8
                have HSd8 : Hid (SdRow w8 (some ⟨HS, 0, none⟩) (t.shs N g n pb po)) := HSd.out.keeps (Below.keeps hb8)
                have g08 := hSt8.kp _ _ _ hg0
                clear hSt8 hCo hb8 HCh c0 c2 HSd HSt7
                go_wp2
                go_loopw [60] (fun i wq => ∃ q' : Nat, q' ≤ 3 ∧ i = .int .i64 q' ∧ St w1 w5 ts wq ∧ Keeps w8 wq) (fun i _ => 3 - (intOf i).toNat)
                case atStart => exact ⟨0, by omega, rfl, HSt8.out, Keeps.refl _⟩
                case round =>
                  obtain ⟨q', hq', rfl, hSt9, hk9⟩ := hrel
                  have HSt9 : Hid (St w1 w5 ts wr) := hSt9
                  have HK9 : Hid (Keeps w8 wr) := hk9
                  by_cases hlq2 : q' < 3
                  · have hlq2' : (q' : Int) < 3 := by omega
                    have gq := hSt9.kp _ _ _ (HKP.out q' hlq2)
                    obtain ⟨g', hg'⟩ : ∃ g', g' = q' + 1 := ⟨_, rfl⟩
                    rw [← hg'] at gq
                    have HGG' : Hid (g' = 1 ∨ g' = 2 ∨ g' = 3) := by show g' = 1 ∨ g' = 2 ∨ g' = 3; omega
                    have HEn : Hid _ := enc_t (HKS.out wr hSt9.kp) HTF.out HGG'.out
                    have a0 := hSt9.kp _ _ _ b0
                    have a1 := hSt9.kp _ _ _ b1
                    clear hSt9 hk9 hg' g08
                    go_wp2_with fail
                    refine Calls.mono HEn.out ?_
                    rintro r w10 ⟨HS2, pb2, po2, rfl, _, _, hSd2, hb10⟩
                    have hSt10 := HSt9.out.below hb10
                    have HSt10 : Hid (St w1 w5 ts w10) := hSt10
                    have HSd2 : Hid (SdRow w10 (some ⟨HS2, 0, none⟩) (t.shs N g' n pb2 po2)) := hSd2
                    have HK10 : Hid (Keeps w8 w10) := HK9.out.trans (Below.keeps hb10)
                    have c0 := hSt10.kp _ _ _ b0
                    have HCv : Hid _ := conv_t (g' := g') HT.out HMem.out hSt10 (HKS.out w10 hSt10.kp) HTF.out (hSt10.tw.errs HT.out HE1.out) HGG.out HGG'.out (HCo.out.keeps HK10.out) HTF.out.nodup HTF.out.slt (by rw [HL.out]; exact hkL)
                    rw [HL.out] at HCv
                    clear hSt10 hSd2 hb10 HEn a0 a1 gq
                    go_wp2_with fail
                    refine Calls.mono HCv.out ?_
                    rintro r w11 ⟨HS3, pb3, po3, rfl, hSd3, hSt11, hk11⟩
                    have HSt11 : Hid (St w1 w5 ts w11) := hSt11
                    have HK11 : Hid (Keeps w8 w11) := HK10.out.trans hk11
                    have HSS : Hid _ := sameShards_true w11 (some ⟨HS3, 0, none⟩) (some ⟨HS2, 0, none⟩) N N N _ _ hSd3 (HSd2.out.keeps hk11) (shL_len _ _ _ _ _ _ _) (shL_len _ _ _ _ _ _ _) (by omega) (fun i hi => by rw [shL_get hi, shL_get hi]; exact ⟨rfl, rfl, rfl, rfl, fun _ _ => rfl⟩) (fun i hi => by rw [shL_get hi]; have := psize_le g' t.k n hk1 hn256; show psize g' t.k n ≤ _; omega)
                    clear hSd3 hSt11 hk11 HCv c0
                    go_wp2_with fail
                    refine Calls.mono HSS.out ?_
                    rintro r w12 ⟨rfl, hb12⟩
                    have HF : Hid (St w1 w5 ts w12 ∧ Keeps w8 w12) := ⟨HSt11.out.below hb12, HK11.out.trans (Below.keeps hb12)⟩
                    clear hb12 HSS
                    go_wp2
                    go_roundw
                    case rel => exact ⟨q' + 1, by omega, by go_num, HF.out⟩
                    case measure => simp [intOf]; omega
                  · have hlq2' : ¬ (q' : Int) < 3 := by omega
                    obtain ⟨w9, hw9⟩ : ∃ x, x = wr := ⟨_, rfl⟩
                    subst hw9
                    have HSd9 : Hid (SdRow w9 (some ⟨HS, 0, none⟩) (t.shs N g n pb po)) := HSd8.out.keeps hk9
                    have HCo9 : Hid (SdRow w9 (some ⟨cB, 0, none⟩) (t.cho t.sub N g n pb po)) := HCo.out.keeps hk9
                    clear hSt9 hk9 g08 HSd8 HCo HSt8 HK9
                    go_wp2
                    go_loopw [16, 92] (fun v i wq => ∃ i0 : Nat, i0 ≤ N ∧ i = .int .i64 i0 ∧ SOut w9.heap.size wq v ((absL t.sub i0).map (mkSd g n (psize g t.k n) pb po (t.pay g n))) ∧ Below w9.heap.size w9 wq) (fun _ i _ => N - (intOf i).toNat)
                    case atStart => exact ⟨0, by omega, rfl, SOut.nil _ _, Below.refl _ _⟩
                    case round =>
                      obtain ⟨i0, hi0, rfl, hSO, hb9⟩ := hrel
                      have HSO : Hid _ := hSO
                      have HB9 : Hid (Below w9.heap.size w9 wr) := hb9
                      by_cases hlN : i0 < N
                      · have hlN' : (i0 : Int) < (N : Int) := by omega
                        have hshl : (t.shs N g n pb po).length = N := shL_len _ _ _ _ _ _ _
                        obtain ⟨hb', hbe, hrr⟩ := (HSd9.out.keeps (Below.keeps hb9)).row (by rw [hshl]; omega)
                        obtain rfl : HS = hb' := congrArg (fun x : Option Addr => (x.getD ⟨0, 0, none⟩).block) hbe
                        obtain ⟨r0, r1, r2, r3⟩ := hrr i0 (by rw [hshl]; exact hlN)
                        have hge : (t.shs N g n pb po)[i0]'(by rw [hshl]; exact hlN) = mkSd g n (psize g t.k n) pb po (t.pay g n) i0 := by simp [shL]
                        rw [hge] at r0 r1 r2 r3
                        have z0 : wr.cell? ⟨HS, i0 * 4, none⟩ = some (.int .u8 (g : Int)) := r0
                        have z1 : wr.cell? ⟨HS, i0 * 4 + 1, none⟩ = some (.int .i64 (i0 : Int)) := r1
                        have z2 : wr.cell? ⟨HS, i0 * 4 + 2, none⟩ = some (.int .i64 (n : Int)) := r2
                        have z3 : wr.cell? ⟨HS, i0 * 4 + 3, none⟩ = some (.slice (some ⟨pb i0, po i0, none⟩) (psize g t.k n) (psize g t.k n)) := r3
                        have hokS : SdOk w9 (mkSd g n (psize g t.k n) pb po (t.pay g n) i0) := HSd9.out.ok _ (by rw [← hge]; exact List.getElem_mem _)
                        have hStr : St w1 w5 ts wr := HSt9.out.below hb9
                        obtain ⟨size, hsize⟩ : ∃ size, psize g t.k n = size := ⟨_, rfl⟩
                        rw [hsize] at z3 hokS HSO ⊢
                        obtain ⟨Pf, hPf⟩ : ∃ Pf, t.pay g n = Pf := ⟨_, rfl⟩
                        rw [hPf] at hokS HSO ⊢
                        -- the box of the shard
                        obtain ⟨ob, hob⟩ : ∃ ob, Obj.cells #[.int .u8 (g : Int), .int .i64 (i0 : Int), .int .i64 (n : Int), .slice (some ⟨pb i0, po i0, none⟩) size size] 60 = ob := ⟨_, rfl⟩
                        obtain ⟨W, hW⟩ : ∃ W, wr.alloc ob = W := ⟨_, rfl⟩
                        have hbW : Below wr.heap.size wr W := by rw [← hW]; exact (Below.refl _ _).alloc (Nat.le_refl _) _
                        have hBlk : W.heap[wr.heap.size]? = some (.cells #[.int .u8 (g : Int), .int .i64 (i0 : Int), .int .i64 (n : Int), .slice (some ⟨pb i0, po i0, none⟩) size size] 60 (0, 0)) := by rw [← hW, ← hob]; exact heap_alloc_new wr _
                        have y0 : W.cell? ⟨wr.heap.size, 0, none⟩ = some (.int .u8 (g : Int)) := by simp [World.cell?, hBlk]
                        have y1 : W.cell? ⟨wr.heap.size, 1, none⟩ = some (.int .i64 (i0 : Int)) := by simp [World.cell?, hBlk]
                        have y2 : W.cell? ⟨wr.heap.size, 2, none⟩ = some (.int .i64 (n : Int)) := by simp [World.cell?, hBlk]
                        have y3 : W.cell? ⟨wr.heap.size, 3, none⟩ = some (.slice (some ⟨pb i0, po i0, none⟩) size size) := by simp [World.cell?, hBlk]
                        have hStW := hStr.below hbW
                        have d2 := hStW.kp _ _ _ b2
                        have HCn : Hid _ := contains_any W _ t.sa t.sc i0 t.sub (HKS.out W hStW.kp).sub (by have := HL.out; omega) (fun i hi => by have := HTF.out.slt i hi; omega)
                        rw [HL.out] at HCn
                        have hbW9 : Below w9.heap.size w9 W := hb9.trans (hbW.mono hb9.size)
                        have HSOW : Hid (SOut w9.heap.size W u16 ((absL t.sub i0).map (mkSd g n size pb po Pf))) := HSO.out.below hbW
                        have HBW : Hid (Below w9.heap.size w9 W) := hbW9
                        have HokW : Hid (SdOk w9 (mkSd g n size pb po Pf i0)) := hokS
                        clear hSO hb9 hbW hBlk hStW hStr hrr hbe hge r0 r1 r2 r3 hokS hsize hPf hshl hbW9
                        by_cases hm : i0 ∈ t.sub
                        · rw [decide_eq_true hm] at HCn
                          have HF : Hid (absL t.sub (i0 + 1) = absL t.sub i0) := by
                            show absL t.sub (i0 + 1) = absL t.sub i0
                            rw [absL_succ, if_pos hm, List.append_nil]
                          clear hm
                          go_wp2_with fail
                          refine Calls.mono HCn.out ?_
                          rintro r w10 ⟨rfl, hw⟩
                          have hw := hw.symm; subst hw
                          clear HCn hW hob z0 z1 z2 z3
                          go_wp2
                          go_roundw
                          case rel => exact ⟨i0 + 1, by omega, by go_num, by rw [HF.out]; exact HSOW.out, HBW.out⟩
                          case measure => simp [intOf]; omega
                        · rw [decide_eq_false hm] at HCn
                          have HF : Hid (absL t.sub (i0 + 1) = absL t.sub i0 ++ [i0]) := by
                            show absL t.sub (i0 + 1) = absL t.sub i0 ++ [i0]
                            rw [absL_succ, if_neg hm]
                          clear hm
                          go_wp2_with fail
                          refine Calls.mono HCn.out ?_
                          rintro r w10 ⟨rfl, hw⟩
                          have hw := hw.symm; subst hw
                          clear HCn hW hob z0 z1 z2 z3
                          have HSO4 : Hid (∀ o, SOut w9.heap.size (W.alloc o) u16 ((absL t.sub i0).map (mkSd g n size pb po Pf))) := fun o => HSOW.out.below ((Below.refl _ _).alloc (Nat.le_refl _) o)
                          have HB4 : Hid (∀ o, Below w9.heap.size w9 (W.alloc o) ∧ w9.heap.size ≤ (W.alloc o).heap.size) := fun o => ⟨HBW.out.alloc HBW.out.size o, (HBW.out.alloc HBW.out.size o).size⟩
                          have HOk4 : Hid (∀ o, SdOk (W.alloc o) (mkSd g n size pb po Pf i0)) := fun o => HokW.out.keeps (Below.keeps (HB4.out o).1)
                          have HOl : Hid (∀ k, u16.ownBlock = some k → w9.heap.size ≤ k) := fun k hk => (HSOW.out.own.lt k hk).1
                          have HFar : Hid (0 < size → ∀ b o, (mkSd g n size pb po Pf i0).pa = some ⟨b, o, none⟩ → u16.ownBlock ≠ some b) := fun h0 b o he hq => by
                            have h1 := HOl.out b hq
                            have h2 := HokW.out.pay.at_lt h0 he
                            omega
                          have HBk : Hid (∀ o, o = .cells #[.int .u8 (g : Int), .int .i64 (i0 : Int), .int .i64 (n : Int), .slice (some ⟨pb i0, po i0, none⟩) size size] 60 → (W.alloc o).heap[W.heap.size]? = some (.cells #[.int .u8 (g : Int), .int .i64 (i0 : Int), .int .i64 (n : Int), .slice (some ⟨pb i0, po i0, none⟩) size size] 60 (0, 0))) := fun o ho => by rw [ho]; exact heap_alloc_new W _
                          have htl : ((absL t.sub i0).map (mkSd g n size pb po Pf)).length ≤ 65536 := by
                            have h2 := absL_len t.sub i0
                            rw [List.length_map]
                            omega
                          have HM : Hid (((absL t.sub i0).map (mkSd g n size pb po Pf)) ++ [mkSd g n size pb po Pf i0] = (absL t.sub (i0 + 1)).map (mkSd g n size pb po Pf)) := by
                            show _ = (absL t.sub (i0 + 1)).map (mkSd g n size pb po Pf)
                            rw [HF.out, List.map_append]; rfl
                          clear d2
                          go_wp2_with (at_builtin; refine wpList_append_sd _ rfl _ _ rfl w9.heap.size u16 ((absL t.sub i0).map (mkSd g n size pb po Pf)) rfl (HSO4.out _) (HB4.out _).2 htl W.heap.size 1 rfl (mkSd g n size pb po Pf i0) (HBk.out _ rfl) (HOk4.out _) HFar.out ?_; intro v' w11 h1 h2; have HT5 : Hid _ := h1; have HB5 : Hid (Below w9.heap.size w9 w11) := (HB4.out _).1.grown h2 (HB4.out _).2 HOl.out; clear h1 h2)
                          go_roundw
                          case rel => exact ⟨i0 + 1, by omega, by go_num, by rw [← HM.out]; exact HT5.out, HB5.out⟩
                          case measure => simp [intOf]; omega
                      · have hlN' : ¬ (i0 : Int) < (N : Int) := by omega
                        have hiN : i0 = N := by omega
                        rw [hiN] at hSO
                        obtain ⟨aa, ac, hv, hAb⟩ := hSO.form
                        rw [List.length_map] at hv
                        have HAb : Hid (SdRow wr aa ((absL t.sub N).map (mkSd g n (psize g t.k n) pb po (t.pay g n)))) := hAb
                        have hSt10 := HSt9.out.below hb9
                        have e0 := hSt10.kp _ _ _ b0
                        have HMi : Hid _ := miss_t HT.out HMem.out hSt10 (HKS.out wr hSt10.kp) HTF.out (hSt10.tw.errs HT.out HE1.out) HGG.out (HCo9.out.keeps (Below.keeps hb9)) HTF.out.nodup HTF.out.slt (by rw [HL.out]; exact hkL)
                        rw [HL.out] at HMi
                        obtain ⟨A, hA⟩ : ∃ A, (absL t.sub N).length = A := ⟨_, rfl⟩
                        have HA : Hid ((absL t.sub N).length = A) := hA
                        have hA16 : A ≤ N := by rw [← hA]; exact absL_len _ _
                        rw [hA] at hv
                        clear hSO hb9 hAb hSt10 hA HSO
                        subst hv
                        go_wp2_with fail
                        refine Calls.mono HMi.out ?_
                        rintro r w10 ⟨ho, hc, xs, hr, hX, hAl, hSt11, hk11⟩
                        have hxl : xs.length = A := hAl.1.trans HA.out
                        rw [hxl] at hr
                        subst hr
                        have HSt11 : Hid (St w1 w5 ts w10) := hSt11
                        have HSS : Hid _ := sameShards_true w10 ho aa hc ac A xs _ hX (HAb.out.keeps hk11) hxl (by rw [List.length_map]; exact HA.out) (by omega) (fun i hi => by
                          have h1 := hAl.2 i (by rw [HA.out]; exact hi)
                          rw [getD_lt (l := (absL t.sub N).map _) (by rw [List.length_map, HA.out]; exact hi), List.getElem_map, ← getD_lt (d := 0)]
                          exact h1) (fun i hi => by
                          have h1 := (hAl.2 i (by rw [HA.out]; exact hi)).2.2.2.1
                          rw [h1]
                          have := psize_le g t.k n hk1 hn256
                          show psize g t.k n ≤ _
                          omega)
                        clear hX hAl hSt11 hk11 hxl HMi e0
                        go_wp2_with fail
                        refine Calls.mono HSS.out ?_
                        rintro r w12 ⟨rfl, hb12⟩
                        have HF : Hid (St w1 w5 ts w12) := HSt11.out.below hb12
                        clear hb12 HSS
                        go_wp2
                        go_roundw
                        case rel => exact ⟨q + 1, by omega, by go_num, HF.out⟩
                        case measure => simp [intOf]; omega
              · have hlq' : ¬ (q : Int) < 3 := by omega
                have HF : Hid (TW NoX w1 wr ts) := hSt.tw
                clear hSt g06
                go_wp2
                go_roundw
                case rel => exact ⟨j + 1, by omega, by go_num, HF.out⟩
                case measure => simp [intOf]; omega
      · have hlt' : ¬ (j : Int) < (ts.length : Int) := by omega
        have HB : Hid (Below w.heap.size w w2) := hTW.fin HT.out
        clear hTW
        go_wp2
        go_ret
        exact ⟨rfl, HB.out⟩
end Go.Proofs.Qxb6500697aDoor
