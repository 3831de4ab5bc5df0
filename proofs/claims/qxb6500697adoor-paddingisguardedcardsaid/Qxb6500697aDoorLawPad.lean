/-
  THE WALK OF THE LAW PaddingIsGuarded.
-/
import Derived.Test.Qxb6500697aDoorKPad
import Derived.Test.Qxb6500697aDoorKDec
import Derived.Test.Qxb6500697aDoorKCls
import Derived.Test.Qxb6500697aDoorLawReb
namespace Go.Proofs.Qxb6500697aDoor
open Go.RowKit

set_option maxRecDepth 100000 in
set_option maxHeartbeats 4000000 in
theorem pad_any (ops : List KOp) (ao : Option Addr) (cap : Nat) (w : World) (e : Nat → Addr) (E : KErrs 10 w e) (hG : Gens w) (hs : KScript w ao ops) (hm : ops.length ≤ 140737488355328) (hb : ∀ x ∈ ops, x.bs.length ≤ 140737488355328 ∧ x.pick.length ≤ 140737488355328) :
    Calls Tryd.prog 9 #[.slice ao ops.length cap] w fun r w' => r = .returned (.bool true) ∧ Below w.heap.size w w' := by
  have hI : Tryd.prog.isIface 48 = true := by kernel_rfl
  have HSm : Hid _ := ksmall_any ao ops cap w hs hm hb
  cases hsm : ksmall ops with
  | false =>
    rw [hsm] at HSm
    clear hs E hG
    go_enter Tryd.func9, Tryd.ntmps9
    go_wp2_with fail
    refine Calls.mono HSm.out ?_
    rintro r w' ⟨rfl, hw⟩
    have hw := hw.symm; subst hw
    go_wp2
    go_ret
    exact ⟨rfl, Below.refl _ _⟩
  | true =>
    rw [hsm] at HSm
    obtain ⟨hn, hbs⟩ := ksmall_len hsm
    have HTr : Hid _ := trials_any 10 ops ao cap w e E (by omega) hs hn hbs
    have HG : Hid (Gens w) := hG
    have HE : Hid (KErrs 10 w e) := E
    clear hs hb hsm E hG
    go_enter Tryd.func9, Tryd.ntmps9
    go_wp2_with fail
    refine Calls.mono HSm.out ?_
    rintro r w' ⟨rfl, hw⟩
    have hw := hw.symm; subst hw
    clear HSm
    go_wp2_with fail
    refine Calls.mono HTr.out ?_
    rintro r w1 ⟨v, ts, rfl, hT, htl⟩
    have hts : ts.length ≤ 140737488355328 := by omega
    clear htl
    obtain ⟨ta, tcap, rfl, htc⟩ := hT.form
    have HT : Hid (TOut w w1 (.slice ta ts.length tcap) ts) := hT
    have HTC : Hid _ := htc
    clear hT htc HTr
    go_wp2
    go_loopw [23] (fun i wr => ∃ j : Nat, j ≤ ts.length ∧ i = .int .i64 j ∧ TW NoX w1 wr ts) (fun i _ => ts.length - (intOf i).toNat)
    case atStart => exact ⟨0, Nat.zero_le _, rfl, TW.start HT.out⟩
    case round =>
      obtain ⟨w2, hw2⟩ : ∃ x, x = wr := ⟨_, rfl⟩
      subst hw2
      obtain ⟨j, hj, rfl, hTW⟩ := hrel
      by_cases hlt : j < ts.length
      · obtain ⟨g0, rfl, hcs⟩ := HTC.out (by omega)
        have hmem : ts[j] ∈ ts := List.getElem_mem hlt
        have kp := hTW.keeps HT.out
        have hok := (HT.out.ok ts[j] hmem).keeps kp
        have kc : ∀ i, i < 14 → w2.cell? ⟨g0, j * 14 + i, none⟩ = (ts[j]).cells[i]? := by
          intro i hi
          have h1 := hcs j hlt i hi
          have hl : (ts[j]).cells.length = 14 := rfl
          have h2 : (ts[j]).cells[i]? = some ((ts[j]).cells[i]'(by rw [hl]; exact hi)) := List.getElem?_eq_getElem _
          rw [h2] at h1 ⊢
          exact kp _ _ _ h1
        have HMem : Hid (ts[j] ∈ ts) := hmem
        obtain ⟨t, ht⟩ : ∃ t, ts[j] = t := ⟨_, rfl⟩
        rw [ht] at kc hok HMem
        have HOk : Hid (TrOk w2 w.heap.size (fun b => w.heap.size ≤ b ∧ (Value.slice (some ⟨g0, 0, none⟩) ts.length tcap).ownBlock ≠ some b) t) := hok
        have HTW : Hid (TW NoX w1 w2 ts) := hTW
        have k0 := kc 0 (by omega)
        have k1 := kc 1 (by omega)
        have k2 := kc 2 (by omega)
        have k3 := kc 3 (by omega)
        have k4 := kc 4 (by omega)
        have k5 := kc 5 (by omega)
        have k6 := kc 6 (by omega)
        have k7 := kc 7 (by omega)
        have k8 := kc 8 (by omega)
        have k9 := kc 9 (by omega)
        have k10 := kc 10 (by omega)
        have k11 := kc 11 (by omega)
        have k12 := kc 12 (by omega)
        have k13 := kc 13 (by omega)
        simp only [Tr.cells, KOp.cells, List.getElem?_cons_zero, List.getElem?_cons_succ, Nat.add_zero] at k0 k1 k2 k3 k4 k5 k6 k7 k8 k9 k10 k11 k12 k13
        have hlt' : (j : Int) < (ts.length : Int) := by omega
        have hidx := hok.idx
        have hkn := hok.codec.hn
        have hk1 := hok.codec.hk
        have hm1 := hok.codec.hm
        have hvalue := hok.hvalue
        have hmask := hok.hmask
        clear hcs hok kc ht hTW kp hmem
        obtain ⟨w5, hw5⟩ : ∃ w5, w2.alloc (.cells #[.pointer (some ⟨t.cb, 0, none⟩), .slice t.oa t.obs.length t.oc, .slice t.sa t.sub.length t.sc, .int .i64 t.idx, .int .u8 t.op.kind, .int .i64 t.op.k, .int .i64 t.op.m, .int .u8 t.op.gen, .slice t.op.da t.op.bs.length t.op.dc, .slice t.op.pa t.op.pick.length t.op.pc, .int .i64 t.op.index, .int .u8 t.op.field, .int .i64 t.op.value, .int .u8 t.op.mask] 45) = w5 := ⟨_, rfl⟩
        have HBox : Hid (TrBox w5 w2.heap.size t) := by
          show w5.heap[w2.heap.size]? = _
          rw [← hw5]; exact heap_alloc_new w2 _
        have hb5 : Below w2.heap.size w2 w5 := by rw [← hw5]; exact (Below.refl _ _).alloc (Nat.le_refl _) _
        have HKd : Hid _ := codecK_any w5 _ t.cb t.mb t.k t.m (HOk.out.codec.below hb5)
        have HTWd : Hid (TW NoX w1 w5 ts) := HTW.out.belowStep hb5
        have hGr : Gens w5 := ((HG.out.below HT.out.bel).keeps (HTW.out.keeps HT.out)).keeps (Below.keeps hb5)
        obtain ⟨gb, go, gc, hg0, hg1, hg2⟩ := hGr
        have HKS : Hid (∀ wq, Keeps w5 wq → TrOk wq w.heap.size (fun b => w.heap.size ≤ b ∧ (Value.slice (some ⟨g0, 0, none⟩) ts.length tcap).ownBlock ≠ some b) t) := fun wq kq => (HOk.out.keeps (Below.keeps hb5)).keeps kq
        obtain ⟨B, hB⟩ : ∃ B, w2.heap.size = B := ⟨_, rfl⟩
        have b0 : w5.cell? ⟨w2.heap.size, 0, none⟩ = some (.pointer (some ⟨t.cb, 0, none⟩)) := HBox.out.cell 0
        have b1 : w5.cell? ⟨w2.heap.size, 1, none⟩ = some (.slice t.oa t.obs.length t.oc) := HBox.out.cell 1
        have b12 : w5.cell? ⟨w2.heap.size, 12, none⟩ = some (.int .i64 t.op.value) := HBox.out.cell 12
        have b13 : w5.cell? ⟨w2.heap.size, 13, none⟩ = some (.int .u8 t.op.mask) := HBox.out.cell 13
        have HKP : Hid (∀ i, i < 3 → w5.cell? ⟨gb, go + i, none⟩ = some (.int .u8 ((i + 1 : Nat) : Int))) := hg2
        clear hg2 hb5
        rw [hB] at b0 b1 b12 b13
        go_wp2_with fail
        refine Calls.mono HKd.out ?_
        rintro r1 w4 ⟨rfl, hw⟩
        have hw := hw.symm
        subst hw
        clear HKd hw5 hB k0 k1 k2 k3 k4 k5 k6 k7 k8 k9 k10 k11 k12 k13
        obtain ⟨n, hn⟩ : ∃ n, t.obs.length = n := ⟨_, rfl⟩
        have Hn : Hid (t.obs.length = n) := hn
        have hn256 : n ≤ 256 := by rw [← hn]; exact HOk.out.olen
        rw [hn] at b1
        obtain ⟨N, hN⟩ : ∃ N, t.k + t.m = N := ⟨_, rfl⟩
        have HN : Hid (t.k + t.m = N) := hN
        have hN16 : N ≤ 16 := by omega
        have hkN : t.k < N := by omega
        obtain ⟨hv1, hv2⟩ := hvalue
        clear hn hN
        go_wp2
        go_loopw [32] (fun i wq => ∃ q : Nat, q ≤ 3 ∧ i = .int .i64 q ∧ Keeps w5 wq ∧ TW NoX w1 wq ts ∧ w5.heap.size ≤ wq.heap.size) (fun i _ => 3 - (intOf i).toNat)
        case atStart => exact ⟨0, by omega, rfl, Keeps.refl _, HTWd.out, Nat.le_refl _⟩
        case round =>
          obtain ⟨q, hq, rfl, kq, hTWq, hszq⟩ := hrel
          have HKq : Hid (Keeps w5 wr) := kq
          have HTWq : Hid (TW NoX w1 wr ts) := hTWq
          by_cases hlq : q < 3
          · have hlq' : (q : Int) < 3 := by omega
            have gq := kq _ _ _ (HKP.out q hlq)
            obtain ⟨g, hg⟩ : ∃ g, g = q + 1 := ⟨_, rfl⟩
            rw [← hg] at gq
            have hOk := HKS.out wr kq
            have hf8 : ∀ i, i < n → t.obs.getD i 0 < 256 := fun i hi => hOk.obj.byte (by rw [Hn.out]; exact hi)
            have HE6 : Hid _ := encode_ok wr _ t.cb t.mb t.k t.m g t.obs.length t.oc t.oa (fun i => t.obs.getD i 0) hOk.codec hOk.obj.frow (by omega) hOk.olen hOk.ocap hOk.ocap2
            rw [Hn.out, HN.out] at HE6
            have a0 := kq _ _ _ b0
            have a1 := kq _ _ _ b1
            have hg123 : g = 1 ∨ g = 2 ∨ g = 3 := by omega
            have HGG : Hid (g = 1 ∨ g = 2 ∨ g = 3) := hg123
            have hg256 : g < 256 := by omega
            have Hgq : Hid (g = q + 1) := hg
            clear hOk kq hTWq hg hg123 hf8
            go_wp2_with fail
            refine Calls.mono HE6.out ?_
            rintro r w6 ⟨HS, pb, po, rfl, hHS, hpb, hSA, hb6⟩
            clear HE6
            have hps := psize_le g t.k n hk1 hn256
            have kp6 : Keeps w5 w6 := HKq.out.trans (Below.keeps hb6)
            have hSd := hSA.sdrow hg256 (by omega) (by omega) (by omega)
            have HSd : Hid (SdRow w6 (some ⟨HS, 0, none⟩) (shL N g n (psize g t.k n) pb po (pay g t.k n (fun i => t.obs.getD i 0)))) := hSd
            have HTW6 : Hid (TW NoX w1 w6 ts) := HTWq.out.belowStep hb6
            have HK6 : Hid (Keeps w5 w6) := kp6
            have HS6 : Hid (w5.heap.size ≤ w6.heap.size) := Nat.le_trans hszq hb6.size
            obtain ⟨hb', hbe, hrr⟩ := hSd.row (by rw [shL_len]; omega)
            obtain rfl : HS = hb' := congrArg (fun x : Option Addr => (x.getD ⟨0, 0, none⟩).block) hbe
            obtain ⟨_, _, _, r3⟩ := hrr 0 (by rw [shL_len]; omega)
            have hge : (shL N g n (psize g t.k n) pb po (pay g t.k n (fun i => t.obs.getD i 0)))[0]'(by rw [shL_len]; omega) = mkSd g n (psize g t.k n) pb po (pay g t.k n (fun i => t.obs.getD i 0)) 0 := by simp [shL]
            rw [hge] at r3
            have s3 : w6.cell? ⟨HS, 3, none⟩ = some (.slice (some ⟨pb 0, po 0, none⟩) (psize g t.k n) (psize g t.k n)) := r3
            have e0 := kp6 _ _ _ b0
            have e1 := kp6 _ _ _ b1
            have e12 := kp6 _ _ _ b12
            have e13 := kp6 _ _ _ b13
            obtain ⟨_, _, hfitn⟩ := plan_fits g t.k n hk1
            have hhu := hunit_eq g t.k n
            obtain ⟨size, hsize⟩ : ∃ size, psize g t.k n = size := ⟨_, rfl⟩
            have HSize : Hid (psize g t.k n = size) := hsize
            rw [hsize] at s3 hps hfitn hhu
            have HUn : Hid (hunit g size = punit g t.k n) := hhu
            obtain ⟨KS, hKS⟩ : ∃ KS, t.k * size = KS := ⟨_, rfl⟩
            have zP : (t.k : Int) * (size : Int) = (KS : Int) := by rw [← hKS, Int.natCast_mul]
            have hKS2 : KS ≤ 65536 := by rw [← hKS]; exact Nat.le_trans (Nat.mul_le_mul (show t.k ≤ 16 by omega) hps) (by decide)
            have HKS2 : Hid (t.k * size = KS) := hKS
            rw [hKS] at hfitn
            obtain ⟨sp, hsp⟩ : ∃ sp, KS - n = sp := ⟨_, rfl⟩
            have zS : (KS : Int) - (n : Int) = (sp : Int) := by omega
            have hN0 : (0 : Int) < (N : Int) := by omega
            clear hSA hSd hb6 hrr hbe r3 hge kp6 gq a0 a1 hsize hKS hhu hHS hpb
            by_cases hs0 : sp = 0
            · have bs : ((sp : Int) == 0) = true := by simp; omega
              clear hs0
              go_wp2
              go_roundw
              case rel => exact ⟨q + 1, by omega, by go_num, HK6.out, HTW6.out, HS6.out⟩
              case measure => simp [intOf]; omega
            · have bs : ((sp : Int) == 0) = false := by simp; omega
              by_cases hm0 : t.op.mask = 0
              · have bm : ((t.op.mask : Int) == 0) = true := by simp; omega
                clear hs0 hm0
                go_wp2
                go_roundw
                case rel => exact ⟨q + 1, by omega, by go_num, HK6.out, HTW6.out, HS6.out⟩
                case measure => simp [intOf]; omega
              · have bm : ((t.op.mask : Int) == 0) = false := by simp; omega
                have hpl := place_lt t.op.value sp (by omega)
                obtain ⟨pl, hple⟩ : ∃ pl, place t.op.value sp = pl := ⟨_, rfl⟩
                rw [hple] at hpl
                obtain ⟨p, hp⟩ : ∃ p, n + pl = p := ⟨_, rfl⟩
                have zp : (n : Int) + (pl : Int) = (p : Int) := by omega
                have hp1 : n ≤ p := by omega
                have hp2 : p < KS := by omega
                have hp2' : p < t.k * size := by rw [HKS2.out]; exact hp2
                have hsz0 : 0 < size := by
                  rcases Nat.eq_zero_or_pos size with h0 | h0
                  · rw [h0, Nat.mul_zero] at hp2'; omega
                  · exact h0
                have HPl : Hid (∀ V q, Calls Tryd.prog 27 #[.int .i64 t.op.value, .int .i64 (sp : Int)] (World.drewN V q) fun r w' => r = .returned (.int .i64 (pl : Int)) ∧ w' = World.drewN V q) := by
                  intro V q
                  rw [← hple]
                  exact place_any t.op.value sp _ (by omega) (by omega) hv1 hv2
                obtain ⟨j0, hj0⟩ : ∃ j0, p / punit g t.k n % t.k = j0 := ⟨_, rfl⟩
                obtain ⟨off, hoff⟩ : ∃ off, p / punit g t.k n / t.k * punit g t.k n + p % punit g t.k n = off := ⟨_, rfl⟩
                have HHo : Hid (∀ V q, Calls Tryd.prog 35 #[.int .u8 (g : Int), .int .i64 (t.k : Int), .int .i64 (size : Int), .int .i64 (p : Int)] (World.drewN V q) fun r w' => r = .returned (.tuple #[.int .i64 (j0 : Int), .int .i64 (off : Int)]) ∧ ∃ q', w' = (World.drewN V q).drewN q') := by
                  intro V q
                  have h := home_any g t.k size p (World.drewN V q) hk1 (by omega) hsz0 hps hp2'
                  rw [HUn.out, hj0, hoff] at h
                  exact h
                have hcb : j0 < t.k ∧ off < size := by
                  obtain ⟨_, ⟨r, hr⟩, _⟩ := plan_fits g t.k n hk1
                  have h := col_bound (by omega) hr (show p < t.k * psize g t.k n by rw [HSize.out]; exact hp2')
                  rw [hj0, hoff, HSize.out] at h
                  exact h
                obtain ⟨hjk, hof⟩ := hcb
                have Hj0 : Hid (p / punit g t.k n % t.k = j0) := hj0
                have Hoff : Hid (p / punit g t.k n / t.k * punit g t.k n + p % punit g t.k n = off) := hoff
                have HMk : Hid (t.op.mask ≠ 0) := hm0
                clear hple hp hs0 hj0 hoff hm0 hpl hsp
                go_upto_region 16 with fail
                go_cut [12, 13] from 33 to 114 (fun jv ov wx => jv = .int .i64 (j0 : Int) ∧ ov = .int .i64 (off : Int) ∧ ∃ q, wx = w6.drewN q)
                case first =>
                  go_quiet (first | (go_at_call 27; with_reducible exact Calls.quiet_of_same (HPl.out _ _)) | (go_at_call 35; with_reducible exact Calls.quiet_of (HHo.out _ _)))
                  go_wp2
                  go_meet
                  exact ⟨rfl, rfl, _, rfl⟩
                case rest =>
                  obtain ⟨rfl, rfl, q3, hwc⟩ := hcut
                  subst hwc
                  have hbV : Below w6.heap.size w6 (w6.drewN q3) := drewN_below _ _ _
                  obtain ⟨V, hV⟩ : ∃ V, w6.drewN q3 = V := ⟨_, rfl⟩
                  rw [hV] at hbV ⊢
                  have kpV := Below.keeps hbV
                  have f0 := kpV _ _ _ e0
                  have f13 := kpV _ _ _ e13
                  have hSV := (HSd.out.keeps kpV).take t.k
                  rw [shL_take (show t.k ≤ N by omega), HSize.out] at hSV
                  have hSl : (shL t.k g n size pb po (pay g t.k n (fun i => t.obs.getD i 0))).length = t.k := shL_len _ _ _ _ _ _ _
                  have HCo : Hid _ := copies_any V (some ⟨HS, 0, none⟩) N _ hSV (by rw [hSl]; omega) (fun s hs => by obtain ⟨i, _, rfl⟩ := List.mem_map.1 hs; show size ≤ _; omega)
                  rw [hSl] at HCo
                  have HSV : Hid (SdRow V (some ⟨HS, 0, none⟩) (shL t.k g n size pb po (pay g t.k n (fun i => t.obs.getD i 0)))) := hSV
                  have HSl : Hid ((shL t.k g n size pb po (pay g t.k n (fun i => t.obs.getD i 0))).length = t.k) := hSl
                  have HTWV : Hid (TW NoX w1 V ts) := HTW6.out.belowStep hbV
                  have HKV : Hid (Keeps w5 V) := HK6.out.trans kpV
                  have HSzV : Hid (w5.heap.size ≤ V.heap.size) := Nat.le_trans HS6.out hbV.size
                  have hkN' : (t.k : Int) ≤ (N : Int) := by omega
                  clear hSV hSl kpV hbV hV HPl HHo e0 e1 e12 e13 s3
                  go_wp2_with fail
                  refine Calls.mono HCo.out ?_
                  rintro r w7 ⟨rfl, f, hCp⟩
                  clear HCo
                  have hj0f : ∀ i, i < t.k → (shL t.k g n size pb po (pay g t.k n (fun i => t.obs.getD i 0))).getD i Sd.zero = mkSd g n size pb po (pay g t.k n (fun i => t.obs.getD i 0)) i := fun i hi => shL_get hi
                  obtain ⟨pa, pc, hfj, hc1, hc2⟩ := hCp.eq j0 hjk
                  rw [hj0f j0 hjk] at hfj hc1
                  have hfpl : (f j0).pl = size := by rw [hfj]; rfl
                  have hfP : (f j0).P = pay g t.k n (fun i => t.obs.getD i 0) j0 := by rw [hfj]; rfl
                  have hfpa : (f j0).pa = pa := by rw [hfj]; rfl
                  have hfpc : (f j0).pc = pc := by rw [hfj]; rfl
                  obtain ⟨gB, hgB, hgB2, hW⟩ := hCp.own j0 hjk (by rw [hfpl]; exact hsz0)
                  have hz := pad_zero (k := t.k) (g := g) (n := n) (p := p) (fo := fun i => t.obs.getD i 0) hk1 hp1 (by rw [HSize.out]; exact hp2')
                  rw [Hj0.out, Hoff.out] at hz
                  have c3 : w7.cell? ⟨V.heap.size, j0 * 4 + 3, none⟩ = some (.slice (some ⟨gB, 0, none⟩) size pc) := by
                    have h := hCp.row.cell (i := j0 * 4 + 3) (by rw [HSl.out]; omega)
                    rw [if_pos (by omega), sdc3, hgB, hfpl, hfpc] at h
                    exact h
                  have cb0 : w7.cell? ⟨gB, off, none⟩ = some (.int .u8 0) := by
                    have h := (hW.frow).2 (by rw [hfpl]; exact hsz0)
                    obtain ⟨b', o', hb', hc'⟩ := h
                    obtain ⟨rfl, rfl⟩ : gB = b' ∧ 0 = o' := by simpa using hb'
                    have h2 := hc' off (by rw [hfpl]; exact hof)
                    rw [Nat.zero_add, hfP, hz] at h2
                    exact h2
                  have cbf := hW.frozen off
                  have hb7 : Below V.heap.size V w7 := hCp.bel
                  have f13' := Below.keeps hb7 _ _ _ f13
                  have hBV : B < V.heap.size := cell_lt f0
                  have hxor : bits .xor .u8 0 (t.op.mask : Int) = (t.op.mask : Int) := by
                    have h := u8_xor_nat 0 t.op.mask (by decide) hmask
                    rw [Nat.zero_xor] at h
                    exact h
                  have hCp' : CpRel V w7 (shL t.k g n size pb po (pay g t.k n (fun i => t.obs.getD i 0))) f (shL t.k g n size pb po (pay g t.k n (fun i => t.obs.getD i 0))).length := by rw [HSl.out]; exact hCp
                  have hTam := hCp'.tamper (j0 := j0) (off := off) (v := t.op.mask) (gB := gB) HSV.out (by rw [HSl.out]; exact hjk) (by rw [hfpl]; exact hof) hmask hgB
                  rw [HSl.out] at hTam
                  obtain ⟨hSd8, hgV, hg7⟩ := hTam
                  have HSd8 : Hid (SdRow (w7.setCell ⟨gB, off, none⟩ (.int .u8 (t.op.mask : Int))) (some ⟨V.heap.size, 0, none⟩) ((List.range t.k).map (tamp f j0 off t.op.mask))) := hSd8
                  have hGN := pad_norows (k := t.k) (N := N) (g := g) (n := n) (p := p) (mask := t.op.mask) (pb := pb) (po := po) (fo := fun i => t.obs.getD i 0) (f := f) hk1 (by omega) hN16 HGG.out hn256 HMk.out (fun i hi => by
                    obtain ⟨pa, pc, h1, _, _⟩ := hCp.eq i hi
                    rw [hj0f i hi] at h1
                    rw [HSize.out]
                    exact ⟨pa, pc, h1⟩) hp1 (by rw [HSize.out]; exact hp2')
                  rw [Hj0.out, Hoff.out] at hGN
                  have HGN : Hid _ := hGN
                  have hO8 : Only gB w7 (w7.setCell ⟨gB, off, none⟩ (.int .u8 (t.op.mask : Int))) := (Only.refl _ _).setCell _ _
                  have hw1V := HTWV.out.size
                  have HTW8 : Hid (TW NoX w1 (w7.setCell ⟨gB, off, none⟩ (.int .u8 (t.op.mask : Int))) ts) :=
                    ((HTWV.out.addX (X' := fun b => V.heap.size ≤ b) hb7 (fun b hb => .inr hb)).keepX HT.out (fun b hb => Nat.le_trans hw1V hb) (hO8.below (by omega)) (fun b hn => hO8.block b (fun e => hn (by rw [e]; exact Nat.le_of_lt hgV)))).weak (fun b hb => False.elim hb)
                  have HK8 : Hid (Keeps w5 (w7.setCell ⟨gB, off, none⟩ (.int .u8 (t.op.mask : Int)))) := fun b o y hy => by
                    have h1 := (HKV.out.trans (Below.keeps hb7)) _ _ _ hy
                    have h2 := cell_lt hy
                    have h3 := HSzV.out
                    exact (hO8.cell (by omega)).trans h1
                  have HSz8 : Hid (w5.heap.size ≤ (w7.setCell ⟨gB, off, none⟩ (.int .u8 (t.op.mask : Int))).heap.size) := by
                    rw [hO8.size]; exact Nat.le_trans HSzV.out hb7.size
                  have hj0k' : (j0 : Int) < (t.k : Int) := by omega
                  have hofs' : (off : Int) < (size : Int) := by omega
                  obtain ⟨cB, hcB⟩ : ∃ cB, V.heap.size = cB := ⟨_, rfl⟩
                  rw [hcB] at c3 HSd8 ⊢
                  clear hCp hCp' hfj hfpl hfP hfpa hfpc hgB hW hz hb7 hSd8 hGN hO8 hcB hgB2
                  go_upto_region 18 with fail
                  go_cut [] from 33 to 114 (fun wx => ∃ q, wx = (w7.setCell ⟨gB, off, none⟩ (.int .u8 (t.op.mask : Int))).drewN q)
                  case first =>
                    go_region
                    all_goals
                      go_wp2
                      go_meet
                      first
                        | exact ⟨1, rfl⟩
                        | exact ⟨0, rfl⟩
                  case rest =>
                    obtain ⟨q8, hwc⟩ := hcut
                    subst hwc
                    have hb8 : Below (w7.setCell ⟨gB, off, none⟩ (.int .u8 (t.op.mask : Int))).heap.size (w7.setCell ⟨gB, off, none⟩ (.int .u8 (t.op.mask : Int))) ((w7.setCell ⟨gB, off, none⟩ (.int .u8 (t.op.mask : Int))).drewN q8) := drewN_below _ _ _
                    obtain ⟨w8, hw8⟩ : ∃ w8, (w7.setCell ⟨gB, off, none⟩ (.int .u8 (t.op.mask : Int))).drewN q8 = w8 := ⟨_, rfl⟩
                    rw [hw8] at hb8 ⊢
                    have hSd8 := HSd8.out.keeps (Below.keeps hb8)
                    have hTW8 : TW NoX w1 w8 ts := HTW8.out.belowStep hb8
                    have hK8 : Keeps w5 w8 := HK8.out.trans (Below.keeps hb8)
                    have HSz9 : Hid (w5.heap.size ≤ w8.heap.size) := Nat.le_trans HSz8.out hb8.size
                    have hc8 := hTW8.cache t HMem.out
                    have hE8 : KErrs 10 w8 e := hTW8.errs HT.out (HE.out.below HT.out.bel)
                    have hTl : ((List.range t.k).map (tamp f j0 off t.op.mask)).length = t.k := by simp
                    have HDe : Hid (Calls Tryd.prog 22 #[.pointer (some ⟨t.cb, 0, none⟩), .slice (some ⟨cB, 0, none⟩) t.k t.k] w8 fun r w' => r = .returned (.tuple #[.slice none 0 0, .iface 186 (.pointer (some (e 8)))]) ∧ Keeps w5 w' ∧ TW NoX w1 w' ts ∧ w5.heap.size ≤ w'.heap.size) := by
                      have h := decode_any NoX w8 _ t.cb t.mb t.k t.m (some ⟨cB, 0, none⟩) t.k _ e hE8 (HKS.out w8 hK8).codec hc8 (fun b hb => False.elim hb) hSd8 (by rw [hTl]; omega)
                      rw [hTl] at h
                      refine h.mono ?_
                      rintro r w' ⟨hM, hK', hcase⟩
                      rw [HN.out] at hcase
                      obtain ⟨hGo, hNo⟩ := HGN.out
                      refine ⟨?_, hK8.trans (hM.keepsC hc8), hTW8.step HT.out HMem.out hM hK', Nat.le_trans HSz9.out hM.size⟩
                      rcases hcase with ⟨i, hgc, _⟩ | ⟨_, _, hr⟩ | ⟨_, ob, D, _, hD1, hD2, hD3, _⟩
                      · rw [gcls_good hGo] at hgc; cases hgc
                      · exact hr
                      · exact absurd ⟨D, hD1, hD2, hD3⟩ hNo
                    have h0 := hK8 _ _ _ b0
                    clear hSd8 hTW8 hc8 hE8 hb8 hw8 hK8
                    go_wp2_with fail
                    refine Calls.mono HDe.out ?_
                    rintro r w9 ⟨rfl, hk9, htw9, hsz9⟩
                    have hE9 : KErrs 10 w9 e := htw9.errs HT.out (HE.out.below HT.out.bel)
                    have HCl : Hid _ := class_any w9 e hE9 8 (by omega)
                    have HK9 : Hid (Keeps w5 w9) := hk9
                    have HTW9 : Hid (TW NoX w1 w9 ts) := htw9
                    have HS9 : Hid (w5.heap.size ≤ w9.heap.size) := hsz9
                    unfold errV at HCl
                    clear HDe hk9 htw9 hsz9 hE9
                    go_wp2_with fail
                    refine Calls.mono HCl.out ?_
                    rintro r w10 ⟨rfl, hb10⟩
                    have HF : Hid (Keeps w5 w10 ∧ TW NoX w1 w10 ts ∧ w5.heap.size ≤ w10.heap.size) := ⟨HK9.out.trans (Below.keeps hb10), HTW9.out.belowStep hb10, Nat.le_trans HS9.out hb10.size⟩
                    clear hb10 HCl
                    go_wp2
                    go_roundw
                    case rel => exact ⟨q + 1, by omega, by go_num, HF.out⟩
                    case measure => simp [intOf]; omega
          · have hlq' : ¬ (q : Int) < 3 := by omega
            clear kq hTWq
            go_wp2
            go_roundw
            case rel => exact ⟨j + 1, by omega, by go_num, HTWq.out⟩
            case measure => simp [intOf]; omega
      · have hlt' : ¬ (j : Int) < (ts.length : Int) := by omega
        have HB : Hid (Below w.heap.size w w2) := hTW.fin HT.out
        clear hTW
        go_wp2
        go_ret
        exact ⟨rfl, HB.out⟩
end Go.Proofs.Qxb6500697aDoor
