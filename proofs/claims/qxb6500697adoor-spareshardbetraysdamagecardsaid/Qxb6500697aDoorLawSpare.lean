/-
  THE WALK OF THE LAW SpareShardBetraysDamage.
-/
import Derived.Test.Qxb6500697aDoorKSpare
import Derived.Test.Qxb6500697aDoorKRes
import Derived.Test.Qxb6500697aDoorKSplit
namespace Go.Proofs.Qxb6500697aDoor
open Go.RowKit

set_option maxRecDepth 100000 in
set_option maxHeartbeats 4000000 in
theorem spare_any (ops : List KOp) (ao : Option Addr) (cap : Nat) (w : World) (e : Nat → Addr) (E : KErrs 10 w e) (hG : Gens w) (hs : KScript w ao ops) (hm : ops.length ≤ 140737488355328) (hb : ∀ x ∈ ops, x.bs.length ≤ 140737488355328 ∧ x.pick.length ≤ 140737488355328) :
    Calls Tryd.prog 7 #[.slice ao ops.length cap] w fun r w' => r = .returned (.bool true) ∧ Below w.heap.size w w' := by
  have hI : Tryd.prog.isIface 48 = true := by kernel_rfl
  have HSm : Hid _ := ksmall_any ao ops cap w hs hm hb
  cases hsm : ksmall ops with
  | false =>
    rw [hsm] at HSm
    clear hs E hG
    go_enter Tryd.func7, Tryd.ntmps7
    go_wp2_with fail
    refine Calls.mono HSm.out ?_
    rintro r w' ⟨rfl, hw⟩
    have hw := hw.symm; subst hw
    go_wp2
    go_ret
    exact ⟨rfl, Below.refl _ _⟩
  | true =>
    rw [hsm] at HSm
    obtain ⟨hn, hbs⟩ := ksmall_len hsm
    have HTr : Hid _ := trials_any 10 ops ao cap w e E (by omega) hs hn hbs
    have HG : Hid (Gens w) := hG
    have HE : Hid (KErrs 10 w e) := E
    clear hs hb hsm E hG
    go_enter Tryd.func7, Tryd.ntmps7
    go_wp2_with fail
    refine Calls.mono HSm.out ?_
    rintro r w' ⟨rfl, hw⟩
    have hw := hw.symm; subst hw
    clear HSm
    go_wp2_with fail
    refine Calls.mono HTr.out ?_
    rintro r w1 ⟨v, ts, rfl, hT, htl⟩
    have hts : ts.length ≤ 140737488355328 := by omega
    clear htl
    obtain ⟨ta, tcap, rfl, htc⟩ := hT.form
    have HT : Hid (TOut w w1 (.slice ta ts.length tcap) ts) := hT
    have HTC : Hid _ := htc
    have HE1 : Hid (KErrs 10 w1 e) := HE.out.below hT.bel
    clear hT htc HTr
    go_wp2
    go_loopw [20] (fun i wr => ∃ j : Nat, j ≤ ts.length ∧ i = .int .i64 j ∧ TW NoX w1 wr ts) (fun i _ => ts.length - (intOf i).toNat)
    case atStart => exact ⟨0, Nat.zero_le _, rfl, TW.start HT.out⟩
    case round =>
      obtain ⟨w2, hw2⟩ : ∃ x, x = wr := ⟨_, rfl⟩
      subst hw2
      obtain ⟨j, hj, rfl, hTW⟩ := hrel
      by_cases hlt : j < ts.length
      · obtain ⟨g0, rfl, hcs⟩ := HTC.out (by omega)
        have hmem : ts[j] ∈ ts := List.getElem_mem hlt
        have kp := hTW.keeps HT.out
        have hok := (HT.out.ok ts[j] hmem).keeps kp
        have kc : ∀ i, i < 14 → w2.cell? ⟨g0, j * 14 + i, none⟩ = (ts[j]).cells[i]? := by
          intro i hi
          have h1 := hcs j hlt i hi
          have hl : (ts[j]).cells.length = 14 := rfl
          have h2 : (ts[j]).cells[i]? = some ((ts[j]).cells[i]'(by rw [hl]; exact hi)) := List.getElem?_eq_getElem _
          rw [h2] at h1 ⊢
          exact kp _ _ _ h1
        have HMem : Hid (ts[j] ∈ ts) := hmem
        obtain ⟨t, ht⟩ : ∃ t, ts[j] = t := ⟨_, rfl⟩
        rw [ht] at kc hok HMem
        have HOk : Hid (TrOk w2 w.heap.size (fun b => w.heap.size ≤ b ∧ (Value.slice (some ⟨g0, 0, none⟩) ts.length tcap).ownBlock ≠ some b) t) := hok
        have HTW : Hid (TW NoX w1 w2 ts) := hTW
        have k0 := kc 0 (by omega)
        have k1 := kc 1 (by omega)
        have k2 := kc 2 (by omega)
        have k3 := kc 3 (by omega)
        have k4 := kc 4 (by omega)
        have k5 := kc 5 (by omega)
        have k6 := kc 6 (by omega)
        have k7 := kc 7 (by omega)
        have k8 := kc 8 (by omega)
        have k9 := kc 9 (by omega)
        have k10 := kc 10 (by omega)
        have k11 := kc 11 (by omega)
        have k12 := kc 12 (by omega)
        have k13 := kc 13 (by omega)
        simp only [Tr.cells, KOp.cells, List.getElem?_cons_zero, List.getElem?_cons_succ, Nat.add_zero] at k0 k1 k2 k3 k4 k5 k6 k7 k8 k9 k10 k11 k12 k13
        have hlt' : (j : Int) < (ts.length : Int) := by omega
        have hidx := hok.idx
        have hkn := hok.codec.hn
        have hk1 := hok.codec.hk
        have hm1 := hok.codec.hm
        have hvalue := hok.hvalue
        have hmask := hok.hmask
        have hTF := hok.trF
        clear hcs hok kc ht hTW kp hmem
        obtain ⟨w5, hw5⟩ : ∃ w5, w2.alloc (.cells #[.pointer (some ⟨t.cb, 0, none⟩), .slice t.oa t.obs.length t.oc, .slice t.sa t.sub.length t.sc, .int .i64 t.idx, .int .u8 t.op.kind, .int .i64 t.op.k, .int .i64 t.op.m, .int .u8 t.op.gen, .slice t.op.da t.op.bs.length t.op.dc, .slice t.op.pa t.op.pick.length t.op.pc, .int .i64 t.op.index, .int .u8 t.op.field, .int .i64 t.op.value, .int .u8 t.op.mask] 45) = w5 := ⟨_, rfl⟩
        have HBox : Hid (TrBox w5 w2.heap.size t) := by
          show w5.heap[w2.heap.size]? = _
          rw [← hw5]; exact heap_alloc_new w2 _
        have hb5 : Below w2.heap.size w2 w5 := by rw [← hw5]; exact (Below.refl _ _).alloc (Nat.le_refl _) _
        have HTWd : Hid (TW NoX w1 w5 ts) := HTW.out.belowStep hb5
        have hGr : Gens w5 := ((HG.out.below HT.out.bel).keeps (HTW.out.keeps HT.out)).keeps (Below.keeps hb5)
        obtain ⟨gb, go, gc, hg0, hg1, hg2⟩ := hGr
        have HKS : Hid (∀ wq, Keeps w5 wq → TrOk wq w.heap.size (fun b => w.heap.size ≤ b ∧ (Value.slice (some ⟨g0, 0, none⟩) ts.length tcap).ownBlock ≠ some b) t) := fun wq kq => (HOk.out.keeps (Below.keeps hb5)).keeps kq
        obtain ⟨B, hB⟩ : ∃ B, w2.heap.size = B := ⟨_, rfl⟩
        have b0 : w5.cell? ⟨w2.heap.size, 0, none⟩ = some (.pointer (some ⟨t.cb, 0, none⟩)) := HBox.out.cell 0
        have b1 : w5.cell? ⟨w2.heap.size, 1, none⟩ = some (.slice t.oa t.obs.length t.oc) := HBox.out.cell 1
        have b2 : w5.cell? ⟨w2.heap.size, 2, none⟩ = some (.slice t.sa t.sub.length t.sc) := HBox.out.cell 2
        have b3 : w5.cell? ⟨w2.heap.size, 3, none⟩ = some (.int .i64 t.idx) := HBox.out.cell 3
        have b12 : w5.cell? ⟨w2.heap.size, 12, none⟩ = some (.int .i64 t.op.value) := HBox.out.cell 12
        have b13 : w5.cell? ⟨w2.heap.size, 13, none⟩ = some (.int .u8 t.op.mask) := HBox.out.cell 13
        have HKP : Hid (∀ i, i < 3 → w5.cell? ⟨gb, go + i, none⟩ = some (.int .u8 ((i + 1 : Nat) : Int))) := hg2
        clear hg2 hb5
        rw [hB] at b0 b1 b2 b3 b12 b13
        obtain ⟨n, hn⟩ : ∃ n, t.obs.length = n := ⟨_, rfl⟩
        obtain ⟨N, hN⟩ : ∃ N, t.k + t.m = N := ⟨_, rfl⟩
        rw [hn] at k1 b1 hw5
        rw [hn, hN] at hTF
        rw [hN] at hidx hkn
        have HTF : Hid (TrF t n N) := hTF
        have hn256 := hTF.hn256
        have hkN : t.k < N := by omega
        obtain ⟨L, hL⟩ : ∃ L, t.sub.length = L := ⟨_, rfl⟩
        have HL : Hid (t.sub.length = L) := hL
        have hLN : L ≤ N := by rw [← hL]; exact hTF.slen
        rw [hL] at k2 b2 hw5
        obtain ⟨hv1, hv2⟩ := hvalue
        clear hn hN hTF hL
        have H15 : Hid (w1.heap.size ≤ w5.heap.size) := HTWd.out.size
        have HKd : Hid (∀ q, Calls Tryd.prog 23 #[.pointer (some ⟨t.cb, 0, none⟩)] (World.drewN w5 q) fun r w' => r = .returned (.int .i64 (t.k : Int)) ∧ w' = World.drewN w5 q) := fun q => codecK_any _ _ t.cb t.mb t.k t.m (HKS.out _ (Below.keeps (drewN_below w5 q _))).codec
        have HF : Hid (∀ q, TW NoX w1 (World.drewN w5 q) ts) := fun q => HTWd.out.belowStep (drewN_below _ _ _)
        go_upto_region 6 with fail
        clear hw5 hB k0 k1 k2 k3 k4 k5 k6 k7 k8 k9 k10 k11 k12 k13
        by_cases hLk : L ≤ t.k
        · have bd : decide (L ≤ t.k) = true := by simp; omega
          have hLk' : (L : Int) ≤ (t.k : Int) := by omega
          go_quiet (first | (go_at_call 23; with_reducible exact Calls.quiet_of_same (HKd.out _)))
          go_wp2
          go_roundw
          case rel => exact ⟨j + 1, by omega, by go_num, HF.out _⟩
          case measure => simp [intOf]; omega
        · have bd : decide (L ≤ t.k) = false := by simp; omega
          have hkL : t.k + 1 ≤ L := by omega
          by_cases hn0 : n = 0
          · have bn : ((n : Int) == 0) = true := by simp; omega
            clear hLk hn0
            go_quiet (first | (go_at_call 23; with_reducible exact Calls.quiet_of_same (HKd.out _)))
            go_wp2
            go_roundw
            case rel => exact ⟨j + 1, by omega, by go_num, HF.out _⟩
            case measure => simp [intOf]; omega
          · have bn : ((n : Int) == 0) = false := by simp; omega
            by_cases hm0 : t.op.mask = 0
            · have bm : ((t.op.mask : Int) == 0) = true := by simp; omega
              clear hLk hn0 hm0
              go_quiet (first | (go_at_call 23; with_reducible exact Calls.quiet_of_same (HKd.out _)))
              go_wp2
              go_roundw
              case rel => exact ⟨j + 1, by omega, by go_num, HF.out _⟩
              case measure => simp [intOf]; omega
            · have bm : ((t.op.mask : Int) == 0) = false := by simp; omega
              have HMk : Hid (t.op.mask ≠ 0) := hm0
              clear hLk hm0
              go_cut [42] from 21 to 138 (fun bv wx => bv = .bool false ∧ ∃ q, wx = w5.drewN q)
              case first =>
                go_quiet (first | (go_at_call 23; with_reducible exact Calls.quiet_of_same (HKd.out _)))
                go_wp2
                go_meet
                exact ⟨rfl, _, rfl⟩
              case rest =>
                obtain ⟨rfl, q5, hwc⟩ := hcut
                subst hwc
                have HS5 : Hid (St w1 w5 ts (w5.drewN q5)) := (St.start HTWd.out).below (drewN_below _ _ _)
                obtain ⟨w6, hw6⟩ : ∃ w6, w5.drewN q5 = w6 := ⟨_, rfl⟩
                rw [hw6] at HS5 ⊢
                have g06 := HS5.out.kp _ _ _ hg0
                clear hw6 HKd bd bn bm HF
                go_wp2
                go_loopw [45] (fun i wq => ∃ q : Nat, q ≤ 3 ∧ i = .int .i64 q ∧ St w1 w5 ts wq) (fun i _ => 3 - (intOf i).toNat)
                case atStart => exact ⟨0, by omega, rfl, HS5.out⟩
                case round =>
                  obtain ⟨q, hq, rfl, hSt⟩ := hrel
                  have HSt : Hid (St w1 w5 ts wr) := hSt
                  by_cases hlq : q < 3
                  · have hlq' : (q : Int) < 3 := by omega
                    have gq := hSt.kp _ _ _ (HKP.out q hlq)
                    obtain ⟨g, hg⟩ : ∃ g, g = q + 1 := ⟨_, rfl⟩
                    rw [← hg] at gq
                    have HGG : Hid (g = 1 ∨ g = 2 ∨ g = 3) := by show g = 1 ∨ g = 2 ∨ g = 3; omega
                    have HEn : Hid _ := enc_t (HKS.out wr hSt.kp) HTF.out HGG.out
                    have a0 := hSt.kp _ _ _ b0
                    have a1 := hSt.kp _ _ _ b1
                    have hg256 : g < 256 := by omega
                    clear hSt hg g06
                    go_wp2_with fail
                    refine Calls.mono HEn.out ?_
                    rintro r w7 ⟨HS, pb, po, rfl, _, _, hSd, hb7⟩
                    have hSt7 := HSt.out.below hb7
                    have HSt7 : Hid (St w1 w5 ts w7) := hSt7
                    have c2 := hSt7.kp _ _ _ b2
                    have HCh : Hid _ := choose_t (sc := t.sc) hSd (HKS.out w7 hSt7.kp).sub HTF.out.slt (by have := HL.out; omega)
                    rw [HL.out] at HCh
                    clear hSt7 hSd hb7 HEn a0 a1 gq
                    go_wp2_with fail
                    refine Calls.mono HCh.out ?_
                    rintro r w8 ⟨cB, rfl, hCo, hb8⟩
                    have HCo : Hid (SdRow w8 (some ⟨cB, 0, none⟩) (t.cho t.sub N g n pb po)) := hCo
                    have HSt8 : Hid (St w1 w5 ts w8) := HSt7.out.below hb8
                    have hps := psize_le g t.k n hk1 hn256
                    have hcl : (t.cho t.sub N g n pb po).length = L := by rw [cho_len]; exact HL.out
                    have HCp : Hid _ := copies_any w8 (some ⟨cB, 0, none⟩) L (t.cho t.sub N g n pb po) hCo (by rw [hcl]; omega) (fun s hs => by
                      obtain ⟨i, _, rfl⟩ := chosen_mem HTF.out.slt hs
                      show psize g t.k n ≤ _
                      omega)
                    rw [hcl] at HCp
                    have HCL : Hid ((t.cho t.sub N g n pb po).length = L) := hcl
                    clear hCo hb8 HCh c2 HSt7 hcl
                    go_wp2_with fail
                    refine Calls.mono HCp.out ?_
                    rintro r w9 ⟨rfl, f, hCp⟩
                    have HCpr : Hid (CpRel w8 w9 (t.cho t.sub N g n pb po) f L) := hCp
                    have hb9 := hCp.bel
                    have hSt9 := HSt8.out.below hb9
                    have HSt9 : Hid (St w1 w5 ts w9) := hSt9
                    have hL1 : 0 < L := by omega
                    obtain ⟨p, hp⟩ : ∃ p, place (t.idx : Int) L = p := ⟨_, rfl⟩
                    have hpL : p < L := by rw [← hp]; exact place_lt _ _ hL1
                    have HPl : Hid (Calls Tryd.prog 27 #[.int .i64 (t.idx : Int), .int .i64 (L : Int)] w9 fun r w' => r = .returned (.int .i64 (p : Int)) ∧ w' = w9) := by
                      rw [← hp]
                      exact place_any (t.idx : Int) L w9 hL1 (by omega) (by omega) (by omega)
                    have d3 := hSt9.kp _ _ _ b3
                    have hpL' : (p : Int) < (L : Int) := by omega
                    obtain ⟨bH, hbH⟩ : ∃ bH, w8.heap.size = bH := ⟨_, rfl⟩
                    have HbH : Hid (w8.heap.size = bH) := hbH
                    rw [hbH]
                    clear hCp hb9 hSt9 HCp hp hbH
                    go_wp2_with fail
                    refine Calls.mono HPl.out ?_
                    rintro r w10 ⟨rfl, hw⟩
                    have hw := hw.symm; subst hw
                    clear HPl d3
                    -- the byte
                    have hCp := HCpr.out
                    obtain ⟨size, hsize⟩ : ∃ size, psize g t.k n = size := ⟨_, rfl⟩
                    have HSize : Hid (psize g t.k n = size) := hsize
                    have hsz0 : 0 < size := by
                      obtain ⟨_, _, hfn⟩ := plan_fits g t.k n hk1
                      rw [hsize] at hfn
                      rcases Nat.eq_zero_or_pos size with h0 | h0
                      · rw [h0, Nat.mul_zero] at hfn; omega
                      · exact h0
                    obtain ⟨pa, pc, hfp, hc1, hc2⟩ := hCp.eq p hpL
                    rw [cho_get t HTF.out.slt (by rw [HL.out]; exact hpL)] at hfp hc1
                    have hfpl : (f p).pl = size := by rw [hfp]; exact hsize
                    have hfP : (f p).P = t.pay g n (t.sub.getD p 0) := by rw [hfp]; rfl
                    have hfix : (f p).ix = ((t.sub.getD p 0 : Nat) : Int) := by rw [hfp]; rfl
                    have hfpc : (f p).pc = pc := by rw [hfp]; rfl
                    obtain ⟨gB, hgB, hgB2, hW⟩ := hCp.own p hpL (by rw [hfpl]; exact hsz0)
                    obtain ⟨off, hoffe⟩ : ∃ off, place t.op.value size = off := ⟨_, rfl⟩
                    have hof : off < size := by rw [← hoffe]; exact place_lt _ _ hsz0
                    have HPo : Hid (∀ V, Calls Tryd.prog 27 #[.int .i64 t.op.value, .int .i64 (size : Int)] V fun r w' => r = .returned (.int .i64 (off : Int)) ∧ w' = V) := fun V => by
                      rw [← hoffe]
                      exact place_any t.op.value size V hsz0 (by omega) hv1 hv2
                    have hx0 : (f p).P off < 256 := hW.1 off (by rw [hfpl]; exact hof)
                    obtain ⟨xb, hxb⟩ : ∃ xb, (f p).P off = xb := ⟨_, rfl⟩
                    rw [hxb] at hx0
                    obtain ⟨vb, hvb⟩ : ∃ vb, xb ^^^ t.op.mask = vb := ⟨_, rfl⟩
                    have hxor : bits .xor .u8 (xb : Int) (t.op.mask : Int) = (vb : Int) := by rw [← hvb]; exact u8_xor_nat xb t.op.mask hx0 hmask
                    have hv8 : vb < 256 := by rw [← hvb]; exact xor8n _ _ hx0 hmask
                    have e1 : w9.cell? ⟨bH, p * 4 + 1, none⟩ = some (.int .i64 ((t.sub.getD p 0 : Nat) : Int)) := by
                      have h := hCp.row.cell (i := p * 4 + 1) (by rw [HCL.out]; omega)
                      rw [if_pos (by omega), sdc1, hfix, HbH.out] at h
                      exact h
                    have e3 : w9.cell? ⟨bH, p * 4 + 3, none⟩ = some (.slice (some ⟨gB, 0, none⟩) size pc) := by
                      have h := hCp.row.cell (i := p * 4 + 3) (by rw [HCL.out]; omega)
                      rw [if_pos (by omega), sdc3, hgB, hfpl, hfpc, HbH.out] at h
                      exact h
                    have cb0 : w9.cell? ⟨gB, off, none⟩ = some (.int .u8 (xb : Int)) := by
                      obtain ⟨b', o', hb', hc'⟩ := (hW.frow).2 (by rw [hfpl]; exact hsz0)
                      obtain ⟨rfl, rfl⟩ : gB = b' ∧ 0 = o' := by simpa using hb'
                      have h2 := hc' off (by rw [hfpl]; exact hof)
                      rw [Nat.zero_add, hxb] at h2
                      exact h2
                    have cbf := hW.frozen off
                    have d12 := HSt9.out.kp _ _ _ b12
                    have d13 := HSt9.out.kp _ _ _ b13
                    have hBgB : B ≠ gB := by
                      have h1 := cell_lt b0
                      have h2 := HSt8.out.sz
                      omega
                    have hbHg : bH ≠ gB := by have := HbH.out; omega
                    have hDam : Dam t n N g L p off vb f := ⟨fun i hi => by
                        obtain ⟨pa, pc, h1, _⟩ := hCp.eq i hi
                        rw [cho_get t HTF.out.slt (by rw [HL.out]; exact hi)] at h1
                        exact ⟨pa, pc, h1⟩, hpL, by rw [hsize]; exact hof, by
                        have h1 : t.pay g n (t.sub.getD p 0) off = xb := by rw [← hxb, hfP]
                        rw [h1, ← hvb]
                        intro he
                        have h2 : xb ^^^ (xb ^^^ t.op.mask) = xb ^^^ xb := by rw [he]
                        rw [← Nat.xor_assoc, Nat.xor_self, Nat.zero_xor] at h2
                        exact HMk.out h2⟩
                    obtain ⟨hv8c, hsus⟩ := dam_list HTF.out HL.out HGG.out hDam hkL
                    have HVc : Hid (vcls t.k N ((List.range L).map (tamp f p off vb)) = some 8) := hv8c
                    have HSus : Hid (t.k + 2 ≤ L → susJ t.k N ((List.range L).map (tamp f p off vb)) L = [((t.sub.getD p 0 : Nat) : Int)]) := hsus
                    have hTam := CpRel.tamper (w := w8) (wr := w9) (ss := t.cho t.sub N g n pb po) (f := f) (j0 := p) (off := off) (v := vb) (gB := gB) (by rw [HCL.out]; exact hCp) HCo.out (by rw [HCL.out]; exact hpL) (by rw [hfpl]; exact hof) hv8 hgB
                    rw [HCL.out, HbH.out] at hTam
                    have HSd9 : Hid (SdRow (w9.setCell ⟨gB, off, none⟩ (.int .u8 (vb : Int))) (some ⟨bH, 0, none⟩) ((List.range L).map (tamp f p off vb))) := hTam.1
                    have hO : Only gB w9 (w9.setCell ⟨gB, off, none⟩ (.int .u8 (vb : Int))) := (Only.refl _ _).setCell _ _
                    have HSt10 : Hid (St w1 w5 ts (w9.setCell ⟨gB, off, none⟩ (.int .u8 (vb : Int)))) := HSt9.out.scrib HT.out (HSt8.out.tw.addX hCp.bel (fun b hb => .inr (by rw [hb]; have := hTam.2.1; have := HbH.out; omega))) H15.out (by have := HSt8.out.sz; have := hTam.2.1; have := HbH.out; omega) hO
                    have He1 : Hid ((w9.setCell ⟨gB, off, none⟩ (.int .u8 (vb : Int))).cell? ⟨bH, p * 4 + 1, none⟩ = some (.int .i64 ((t.sub.getD p 0 : Nat) : Int))) := (hO.cell hbHg).trans e1
                    have hof' : (off : Int) < (size : Int) := by omega
                    have hBgB' : gB ≠ B := fun h => hBgB h.symm
                    have hbHg' : gB ≠ bH := fun h => hbHg h.symm
                    clear hCp hfp hc1 hc2 hfpl hfP hfix hfpc hW hoffe hxb hvb hDam hv8c hsus hx0 hTam hO hgB hgB2 hsize HCpr HCo HSt8 HCL HbH e1
                    go_upto_region 15 with fail
                    go_cut [] from 46 to 137 (fun wx => ∃ q, wx = (w9.setCell ⟨gB, off, none⟩ (.int .u8 (vb : Int))).drewN q)
                    case first =>
                      refine region_last (C := fun w' => ∃ n, w' = w9.drewN n) 20 #[true, true, true, true, true, true, true, true, true, true, true, true, true, true, true, true, true, true, true, true, false] (by kernel_rfl) (by kernel_rfl) ⟨1, rfl⟩ ?_
                      simp only [List.take_succ_cons, List.take_zero]
                      repeat (go_big_quiet_step (first | (go_at_call 27; with_reducible exact Calls.quiet_of_same (HPo.out _))))
                      refine wpQuiet_nil ?_
                      rintro w' ⟨nq, rfl⟩
                      refine ⟨_, rfl, rfl, ?_⟩
                      refine wp_of_run_skip1 (w' := (w9.drewN nq).setCell ⟨gB, off, none⟩ (.int .u8 (vb : Int))) (by go_simp) ?_
                      go_wp2_with fail
                      go_meet
                      exact ⟨nq, rfl⟩
                    case rest =>
                      obtain ⟨q8, hwc⟩ := hcut
                      subst hwc
                      have hb10 : Below (w9.setCell ⟨gB, off, none⟩ (.int .u8 (vb : Int))).heap.size (w9.setCell ⟨gB, off, none⟩ (.int .u8 (vb : Int))) ((w9.setCell ⟨gB, off, none⟩ (.int .u8 (vb : Int))).drewN q8) := drewN_below _ _ _
                      obtain ⟨w10, hw10⟩ : ∃ w10, (w9.setCell ⟨gB, off, none⟩ (.int .u8 (vb : Int))).drewN q8 = w10 := ⟨_, rfl⟩
                      rw [hw10] at hb10 ⊢
                      have hSt10 := HSt10.out.below hb10
                      have HStA : Hid (St w1 w5 ts w10) := hSt10
                      have hSd10 := HSd9.out.keeps (Below.keeps hb10)
                      have HSdA : Hid (SdRow w10 (some ⟨bH, 0, none⟩) ((List.range L).map (tamp f p off vb))) := hSd10
                      have HeA : Hid (w10.cell? ⟨bH, p * 4 + 1, none⟩ = some (.int .i64 ((t.sub.getD p 0 : Nat) : Int))) := Below.keeps hb10 _ _ _ He1.out
                      have hdl : ((List.range L).map (tamp f p off vb)).length = L := by simp
                      have HDe : Hid _ := dec8_t (cap := L) HT.out HMem.out hSt10 (HKS.out w10 hSt10.kp) HTF.out (hSt10.tw.errs HT.out HE1.out) hSd10 (by rw [hdl]; omega) HVc.out
                      rw [hdl] at HDe
                      have h0 := hSt10.kp _ _ _ b0
                      clear hb10 hw10 hSt10 hSd10 hdl HSd9 HSt10 He1 cb0 cbf e3 d12 d13 HPo
                      go_wp2_with fail
                      refine Calls.mono HDe.out ?_
                      rintro r w11 ⟨rfl, hSt11, hk11⟩
                      have HSt11 : Hid (St w1 w5 ts w11) := hSt11
                      have HK11 : Hid (Keeps w10 w11) := hk11
                      have HCl : Hid _ := class_any w11 e (hSt11.tw.errs HT.out HE1.out) 8 (by omega)
                      unfold errV at HCl ⊢
                      clear HDe hSt11 hk11 h0
                      go_wp2_with fail
                      refine Calls.mono HCl.out ?_
                      rintro r w12 ⟨rfl, hb12⟩
                      have hSt12 := HSt11.out.below hb12
                      have HSt12 : Hid (St w1 w5 ts w12) := hSt12
                      have hk12 : Keeps w10 w12 := HK11.out.trans (Below.keeps hb12)
                      have HK12 : Hid (Keeps w10 w12) := hk12
                      have hdl : ((List.range L).map (tamp f p off vb)).length = L := by simp
                      have HSs : Hid _ := sus_t (cap := L) HT.out HMem.out hSt12 (HKS.out w12 hSt12.kp) HTF.out (hSt12.tw.errs HT.out HE1.out) (HSdA.out.keeps hk12) (by rw [hdl]; exact hL1) (by rw [hdl]; omega) (by rw [hdl]; exact Nat.le_refl _) (by omega) HVc.out
                      rw [hdl] at HSs
                      have h0 := hSt12.kp _ _ _ b0
                      clear hb12 hSt12 hk12 HCl hdl HSt11 HK11
                      go_wp2_with fail
                      refine Calls.mono HSs.out ?_
                      rintro r w13 ⟨sv, rfl, hOw, hSt13, hk13⟩
                      have HSt13 : Hid (St w1 w5 ts w13) := hSt13
                      have HKd : Hid (∀ q, Calls Tryd.prog 23 #[.pointer (some ⟨t.cb, 0, none⟩)] (World.drewN w13 q) fun r w' => r = .returned (.int .i64 (t.k : Int)) ∧ w' = World.drewN w13 q) := fun q => codecK_any _ _ t.cb t.mb t.k t.m (HKS.out _ (HSt13.out.below (drewN_below w13 q _)).kp).codec
                      have i0 := hSt13.kp _ _ _ b0
                      have i1 := hk13 _ _ _ (HK12.out _ _ _ HeA.out)
                      obtain ⟨k2, hk2⟩ : ∃ k2, t.k + 2 = k2 := ⟨_, rfl⟩
                      have zk : (t.k : Int) + 2 = (k2 : Int) := by omega
                      have hwk : IntKind.i64.wrap (k2 : Int) = (k2 : Int) := by simp [IntKind.wrap, IntKind.bits, IntKind.signed]; omega
                      have HF : Hid (∀ q, St w1 w5 ts (w13.drewN q)) := fun q => HSt13.out.below (drewN_below _ _ _)
                      by_cases hkk : k2 ≤ L
                      · have hs := HSus.out (by omega)
                        rw [hs, sortZ_one] at hOw
                        have hOw' : w13.ownsRow w12.heap.size 3 1 sv 1 [.int .i64 ((t.sub.getD p 0 : Nat) : Int)] := hOw
                        obtain ⟨O, cO, rfl, hcO⟩ : ∃ O cO, sv = .slice (some ⟨O, 0, none⟩) 1 cO ∧ w13.cell? ⟨O, 0, none⟩ = some (.int .i64 ((t.sub.getD p 0 : Nat) : Int)) := by
                          rcases hOw'.2 with ⟨_, h9⟩ | ⟨O, cO, cur, hv, hb', hg', hle, hm', hs', _⟩
                          · cases h9
                          · refine ⟨O, cO, hv, ?_⟩
                            have h5 := hOw'.cells (g := O) (by rw [hv]; rfl) 0 _ rfl
                            have e5 : (⟨O, 0, none⟩ : Addr).add 0 = ⟨O, 0, none⟩ := by unfold Addr.add; split <;> simp_all
                            rw [e5] at h5
                            exact h5
                        obtain ⟨ix, hix⟩ : ∃ ix : Int, ((t.sub.getD p 0 : Nat) : Int) = ix := ⟨_, rfl⟩
                        rw [hix] at i1 hcO
                        have bix : (ix != ix) = false := by simp
                        have bk : decide (k2 ≤ L) = true := by simp; omega
                        clear hSt13 hk13 hOw hOw' hix hs HSs hk2 h0
                        go_upto_region 22 with fail
                        go_quiet (first | (go_at_call 23; with_reducible exact Calls.quiet_of_same (HKd.out _)))
                        go_wp2
                        go_roundw
                        case rel => exact ⟨q + 1, by omega, by go_num, HF.out _⟩
                        case measure => simp [intOf]; omega
                      · have bk : decide (k2 ≤ L) = false := by simp; omega
                        clear hSt13 hk13 hOw HSs hkk hk2 h0
                        go_upto_region 22 with fail
                        go_quiet (first | (go_at_call 23; with_reducible exact Calls.quiet_of_same (HKd.out _)))
                        go_wp2
                        go_roundw
                        case rel => exact ⟨q + 1, by omega, by go_num, HF.out _⟩
                        case measure => simp [intOf]; omega
                  · have hlq' : ¬ (q : Int) < 3 := by omega
                    have HF : Hid (TW NoX w1 wr ts) := hSt.tw
                    clear hSt g06
                    go_wp2
                    go_roundw
                    case rel => exact ⟨j + 1, by omega, by go_num, HF.out⟩
                    case measure => simp [intOf]; omega
      · have hlt' : ¬ (j : Int) < (ts.length : Int) := by omega
        have HB : Hid (Below w.heap.size w w2) := hTW.fin HT.out
        clear hTW
        go_wp2
        go_ret
        exact ⟨rfl, HB.out⟩
end Go.Proofs.Qxb6500697aDoor
