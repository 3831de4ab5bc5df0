/-
  THE MODEL's STEP: KSuspects.
-/
import Derived.Test.Qxb6500697aDoorMM4
namespace Go.Proofs.Qxb6500697aDoor
open Go.RowKit

theorem RowsOk.vcls {k N : Nat} {l : List Sd} {D : Nat → Nat → Nat} (h : RowsOk k N l D) : vcls k N l = none := by
  cases hv : Go.Proofs.Qxb6500697aDoor.vcls k N l with
  | none => rfl
  | some i => exact ((vcls_refu.1 hv).noRows h).elim
theorem without_take {us : List Sd} {q x : Nat} (hq : q < us.length) : without (us.take (q + 1)) x = without (us.take q) x ++ (if (us.getD q Sd.zero).ix = (x : Int) then [] else [us.getD q Sd.zero]) := by
  unfold without
  rw [List.take_succ_eq_append_getElem hq, List.filter_append, getD_lt hq]
  congr 1
  by_cases e : (us[q]).ix = (x : Int) <;> simp [e]
open Classical in
/-- The suspects among the first j. -/
noncomputable def susM (k N : Nat) (l : List Sd) (j : Nat) : List Int := ((List.range j).filter fun x => decide ((without l x).length < l.length ∧ vcls k N (without l x) = none)).map (fun x : Nat => (x : Int))
theorem susM_yes {k N : Nat} {l : List Sd} {j : Nat} (h : (without l j).length < l.length ∧ vcls k N (without l j) = none) : susM k N l (j + 1) = susM k N l j ++ [(j : Int)] := by
  unfold susM
  rw [List.range_succ, List.filter_append, List.map_append]
  congr 1
  simp [h]
theorem susM_no {k N : Nat} {l : List Sd} {j : Nat} (h : ¬ ((without l j).length < l.length ∧ vcls k N (without l j) = none)) : susM k N l (j + 1) = susM k N l j := by
  unfold susM
  rw [List.range_succ, List.filter_append, List.map_append]
  rw [List.filter_cons_of_neg (by rw [decide_eq_true_eq]; exact h), List.filter_nil, List.map_nil, List.append_nil]
theorem susM_len (k N : Nat) (l : List Sd) (j : Nat) : (susM k N l j).length ≤ j := by
  unfold susM
  rw [List.length_map]
  exact Nat.le_trans (List.length_filter_le _ _) (by simp)
/-- What Decode of the model says of a list: nothing but whether it decodes. -/
def DcL (W : World) (k2 m2 : Nat) (us : List Sd) (r : Ending) (w2 : World) : Prop := ∃ a n c x, r = .returned (.tuple #[.slice a n c, .int .u8 (x : Nat)]) ∧ x < 256 ∧ Below W.heap.size W w2 ∧ (x = 0 ↔ vcls k2 (k2 + m2) us = none)
theorem decode_L {W : World} {k2 m2 : Nat} {us : List Sd} {ao : Option Addr} {cap : Nat} (hk : 1 ≤ k2) (hm : 1 ≤ m2) (hkm : k2 + m2 ≤ 16) (hS : SdRow W ao us) (hl : us.length ≤ 65536) (hc : us.length ≤ cap) :
    Calls Tryd.prog 45 #[.int .i64 (k2 : Int), .int .i64 (m2 : Int), .slice ao us.length cap] W.drew (DcL W k2 m2 us) := by
  have hd : Below W.heap.size W W.drew := (Below.refl _ _).drew
  refine (mdecode_any k2 m2 ao cap us W.drew hk hm hkm (hS.keeps (Below.keeps hd)) hl hc).mono ?_
  rintro r w2 ⟨hB, hcase⟩
  have h1 : Below W.heap.size W w2 := hd.trans (hB.mono hd.size)
  rcases hcase with ⟨i, hg, rfl⟩ | ⟨hg, hn, rfl⟩ | ⟨hg, ob, D, rfl, hby, hfi, hpa, hrow, hob⟩
  · have hi := gcls_lt8 hg
    exact ⟨none, 0, 0, i + 1, rfl, by omega, h1, ⟨fun h => by omega, fun h => by rw [vcls_some hg] at h; cases h⟩⟩
  · exact ⟨none, 0, 0, 9, rfl, by omega, h1, ⟨fun h => by omega, fun h => by rw [vcls_no hg hn] at h; cases h⟩⟩
  · exact ⟨_, _, _, 0, rfl, by omega, h1, ⟨fun _ => RowsOk.vcls ⟨hg, hby, hfi, hpa⟩, fun _ => rfl⟩⟩

set_option maxRecDepth 100000 in
set_option maxHeartbeats 4000000 in
theorem stepM7 {B : Nat} {w : World} {bb sb cb mb k m k2 m2 : Nat} {v1 v2 : Value} {ss ts : List Sd} {pm : Nat} {o : KOp} (h : InM B w bb sb cb mb k m k2 m2 v1 ss v2 ts pm o) (h0 : o.kind = 7) :
    Calls Tryd.prog 16 #[.pointer (some ⟨sb, 0, none⟩), opV o] w (StepM B w bb sb cb mb k m k2 m2 v1 ss v2 ts pm o) := by
  have hP := pro w o
  obtain ⟨W, hW⟩ : ∃ W, (w.alloc (opB o)).alloc ansZ = W := ⟨_, rfl⟩
  rw [hW] at hP
  obtain ⟨hRW, hBW⟩ := begR h.rs hP
  have hg2 := hRW.g2
  have HRW : Hid (RS B W bb sb cb mb k m k2 m2 v1 ss v2 ts pm (fun b => b = w.heap.size + 1)) := hRW
  have HPb : Hid (Below w.heap.size w W) := hP.bel
  have HRes : Hid (Res W (w.heap.size + 1)) := hP.res
  have HK0 : Hid (o.kind = 7) := h0
  have c0 : W.cell? ⟨w.heap.size, 0, none⟩ = some (.int .u8 o.kind) := hP.cell 0
  have c5 : W.cell? ⟨w.heap.size, 5, none⟩ = some (.slice o.pa o.pick.length o.pc) := hP.cell 5
  have d0 := hRW.s0
  have d1 := hRW.s1
  have b0 : ((o.kind : Int) == 0) = false := by simp; omega
  have b1 : ((o.kind : Int) == 1) = false := by simp; omega
  have b2 : ((o.kind : Int) == 2) = false := by simp; omega
  have b3 : ((o.kind : Int) == 3) = false := by simp; omega
  have b4 : ((o.kind : Int) == 4) = false := by simp; omega
  have b5 : ((o.kind : Int) == 5) = false := by simp; omega
  have b6 : ((o.kind : Int) == 6) = false := by simp; omega
  have b7 : ((o.kind : Int) == 7) = true := by simp; omega
  have HKW : Hid (Keeps W W.drew) := Below.keeps (Below.refl _ _).drew
  have hk16 := hg2.2.2
  have HKe : Hid (∀ V, Keeps W V → V.cell? ⟨sb, 0, none⟩ = some (.int .i64 (k2 : Int)) ∧ V.cell? ⟨sb, 1, none⟩ = some (.int .i64 (m2 : Int))) := fun V hV => ⟨hV _ _ _ d0, hV _ _ _ d1⟩
  have HPk : Hid (∀ V, Below W.heap.size W V → Calls Tryd.prog 46 #[.pointer (some ⟨sb, 0, none⟩), .slice o.pa o.pick.length o.pc] V fun r w' => ∃ ao cap us, r = .returned (.slice ao us.length cap) ∧ us.length ≤ 65536 ∧ us.length ≤ cap ∧ cap ≤ 9223372036854775807 ∧ SdRow w' ao us ∧ SL (pk o.pick ts) us ∧ Below W.heap.size W w' ∧ Keeps W w') := fun V hb => picked_M hRW (h.op.keeps (Below.keeps hP.bel)) h.pm1 V hb
  have HDc : Hid (∀ V ao us cap, SdRow V ao us → us.length ≤ 65536 → us.length ≤ cap → SL (pk o.pick ts) us → Calls Tryd.prog 45 #[.int .i64 (k2 : Int), .int .i64 (m2 : Int), .slice ao us.length cap] V.drew (DcM V k2 m2 ts o)) := fun V ao us cap h2 h3 h4 h5 => decode_M hg2.1 hg2.2.1 hg2.2.2 (Below.refl _ _).drew (h2.keeps (Below.keeps (Below.refl _ _).drew)) h3 h4 h5
  unfold opB ansZ at hW
  unfold opV
  clear h hP hRW hBW h0 hg2
  go_enter Tryd.func16, Tryd.ntmps16
  go_wp2_with fail
  refine Calls.mono (HPk.out _ (Below.refl _ _)) ?_
  rintro r w1 ⟨ao, cap, us, rfl, hl1, hc1, hc2, hs1, hsl, hb1, hk1⟩
  have HL1 : Hid (us.length ≤ 65536) := hl1
  have HC1 : Hid (us.length ≤ cap) := hc1
  have HS1 : Hid (SdRow w1 ao us) := hs1
  have HSL : Hid (SL (pk o.pick ts) us) := hsl
  have HB1 : Hid (Below W.heap.size W w1) := hb1
  have HK1 : Hid (Keeps W w1.drew) := hk1.trans (Below.keeps (Below.refl _ _).drew)
  have HDe : Hid (Calls Tryd.prog 45 #[.int .i64 (k2 : Int), .int .i64 (m2 : Int), .slice ao us.length cap] w1.drew (DcM w1 k2 m2 ts o)) := HDc.out w1 ao us cap hs1 hl1 hc1 hsl
  obtain ⟨L, hL⟩ : ∃ L, us.length = L := ⟨_, rfl⟩
  have HLe : Hid (us.length = L) := hL
  have hL6 : L ≤ 65536 := by omega
  have hLc : L ≤ cap := by omega
  rw [hL] at HDe
  simp only [hL]
  clear hs1 hsl hb1 hk1 HPk hl1 hc1 hL
  clear hW c0 c5 d0 d1 HDc
  go_upto_region 60 with fail
  go_region_held3 (fun w' => w'.cell? ⟨sb, 0, none⟩ = some (.int .i64 (k2 : Int)) ∧ w'.cell? ⟨sb, 1, none⟩ = some (.int .i64 (m2 : Int)))
    (first | with_reducible exact HKe.out _ HK1.out | with_reducible exact HKe.out _ HK2.out)
    (first
      | (go_at_call 45; refine HDe.out.mono ?_; rintro r w2 ⟨a, n, c, x, rfl, hx, hb2, hk2, hcase⟩; have HB2 : Hid (Below w1.heap.size w1 w2) := hb2; have HK2 : Hid (Keeps W w2) := HK1.out.trans hk2; have HK12 : Hid (Keeps w1 w2) := hk2; have HCs : Hid ((∃ i, x = i + 1 ∧ Refu k2 (k2 + m2) (pk o.pick ts) i ∧ a = none ∧ n = 0 ∧ c = 0) ∨ (x = 0 ∧ n = (ol0of (pk o.pick ts)).toNat ∧ ∃ D ob, RowsOk k2 (k2 + m2) (pk o.pick ts) D ∧ a = some ⟨ob, 0, none⟩ ∧ w1.heap.size ≤ ob ∧ Row w2 ob n (objOf k2 (pk o.pick ts) D) ∧ n ≤ c ∧ c ≤ 9223372036854775807)) := hcase; clear hb2 hk2 hcase))
  have HBW2 : Hid (Below W.heap.size W w2) := HB1.out.trans (HB2.out.mono HB1.out.size)
  clear HDe HK1
  have hcs := HCs.out
  by_cases hx9 : x = 9
  · have hrf : Refu k2 (k2 + m2) (pk o.pick ts) 8 := by
      rcases hcs with ⟨i, hxi, hr, _⟩ | ⟨hx0, _⟩
      · have e : i = 8 := by omega
        rw [← e]; exact hr
      · omega
    have hG : Good k2 (k2 + m2) (pk o.pick ts) := by
      rcases hrf with h | ⟨h, _⟩
      · have := gcls_lt8 h; omega
      · exact h
    have HG : Hid (Good k2 (k2 + m2) us) := HSL.out.good hG
    have HV8 : Hid (vcls k2 (k2 + m2) (pk o.pick ts) = some 8) := vcls_refu.2 hrf
    have hL0 : 0 < L := by have h1 := List.length_pos_iff.2 HG.out.ne; have h2 := HLe.out; omega
    obtain ⟨gb, rfl, _⟩ := HS1.out.first (by rw [HLe.out]; exact hL0)
    have HUs : Hid (SdRow w2 (some ⟨gb, 0, none⟩) us) := HS1.out.keeps HK12.out
    have hx9i : (x : Int) = 9 := by omega
    simp only [hx9i]
    have hwk : IntKind.i64.wrap ((k2 : Int) + (m2 : Int)) = (k2 : Int) + (m2 : Int) := by simp [IntKind.wrap, IntKind.bits, IntKind.signed]; omega
    clear hcs hrf hG HCs hx9i hx9 HS1 HK12 HB2 HB1 HKW
    go_wp2
    go_loopw [32, 33] (fun v i wr => ∃ j : Nat, j ≤ k2 + m2 ∧ i = .int .i64 j ∧ wr.ownsRow w2.heap.size 3 1 v (susM k2 (k2 + m2) us j).length ((susM k2 (k2 + m2) us j).map (Value.int .i64)) ∧ Below w2.heap.size w2 wr) (fun _ i _ => k2 + m2 - (intOf i).toNat)
    case atStart => exact ⟨0, Nat.zero_le _, rfl, by simpa [susM] using World.ownsRow_nil w2 w2.heap.size 3 1, Below.refl _ _⟩
    case round =>
      obtain ⟨j, hj, rfl, hOw, hbr⟩ := hrel
      have HKr : Hid (∀ V, Keeps wr V → V.cell? ⟨sb, 0, none⟩ = some (.int .i64 (k2 : Int)) ∧ V.cell? ⟨sb, 1, none⟩ = some (.int .i64 (m2 : Int))) := fun V hV => HKe.out V ((HK2.out.trans (Below.keeps hbr)).trans hV)
      have HKrd : Hid (Keeps wr wr.drew) := Below.keeps (Below.refl _ _).drew
      obtain ⟨w4, hw4⟩ : ∃ x, x = wr := ⟨_, rfl⟩
      subst hw4
      obtain ⟨zs, hzs⟩ : ∃ zs, susM k2 (k2 + m2) us j = zs := ⟨_, rfl⟩
      rw [hzs] at hOw
      have hzl : zs.length ≤ 65536 := by rw [← hzs]; have := susM_len k2 (k2 + m2) us j; omega
      have HZs : Hid (susM k2 (k2 + m2) us j = zs) := hzs
      obtain ⟨X, hX⟩ : ∃ X, w4.drew = X := ⟨_, rfl⟩
      have hbX : Below w4.heap.size w4 X := by rw [← hX]; exact (Below.refl _ _).drew
      have HbX : Hid (Below w2.heap.size w2 X) := hbr.trans (hbX.mono hbr.size)
      have HOw : Hid (X.ownsRow w2.heap.size 3 1 u32 zs.length (zs.map (Value.int .i64))) := own_below hOw hbX
      clear hOw hbr hzs hbX
      by_cases hlt : j < k2 + m2
      · have hlt' : (j : Int) < (k2 : Int) + (m2 : Int) := by omega
        go_upto_region 65 with fail
        go_region_held3 (fun w' => w'.cell? ⟨sb, 0, none⟩ = some (.int .i64 (k2 : Int)) ∧ w'.cell? ⟨sb, 1, none⟩ = some (.int .i64 (m2 : Int)))
          (first | with_reducible exact HKr.out _ HKrd.out)
          (first | fail)
        simp only [hX]
        clear hX HKr HKrd
        go_wp2
        go_loopw [34, 361] (fun v i wr => ∃ q : Nat, q ≤ L ∧ i = .int .i64 q ∧ SOut X.heap.size wr v (without (us.take q) j) ∧ Below X.heap.size X wr) (fun _ i _ => L - (intOf i).toNat)
        case atStart => exact ⟨0, Nat.zero_le _, rfl, SOut.nil _ _, Below.refl _ _⟩
        case round =>
          obtain ⟨q, hq, rfl, hSO, hbq⟩ := hrel
          obtain ⟨rs, hrs⟩ : ∃ rs, without (us.take q) j = rs := ⟨_, rfl⟩
          rw [hrs] at hSO
          have HRs : Hid (without (us.take q) j = rs) := hrs
          have hrl : rs.length ≤ 65536 := by
            rw [← hrs]
            have h1 := without_len (l := us.take q) (x := j)
            rw [List.length_take] at h1
            omega
          have hb2r : Below w2.heap.size w2 wr := HbX.out.trans (hbq.mono HbX.out.size)
          have hbX2 := HbX.out.size
          by_cases hlq : q < L
          · have hlq' : (q : Int) < (L : Int) := by omega
            have hqu : q < us.length := by rw [HLe.out]; exact hlq
            obtain ⟨b', hbe', y0, y1, y2, y3⟩ := (HUs.out.keeps (Below.keeps hb2r)).at_ hqu
            obtain rfl : gb = b' := congrArg (fun x : Option Addr => (x.getD ⟨0, 0, none⟩).block) hbe'
            have hyo := HUs.out.ok us[q] (List.getElem_mem hqu)
            obtain ⟨y, hy⟩ : ∃ y, us[q] = y := ⟨_, rfl⟩
            rw [hy] at y0 y1 y2 y3 hyo
            have hyq : us.getD q Sd.zero = y := by rw [getD_lt hqu]; exact hy
            have hwt := without_take (x := j) hqu
            rw [hyq, hrs] at hwt
            obtain ⟨W5, hW5⟩ : ∃ W5, wr.alloc (.cells #[.int .u8 y.g, .int .i64 y.ix, .int .i64 y.ol, .slice y.pa y.pl y.pc] 60) = W5 := ⟨_, rfl⟩
            have hbW5 : Below wr.heap.size wr W5 := by rw [← hW5]; exact (Below.refl _ _).alloc (Nat.le_refl _) _
            have z0 : W5.cell? ⟨wr.heap.size, 0, none⟩ = some (.int .u8 y.g) := by rw [← hW5]; simp
            have z1 : W5.cell? ⟨wr.heap.size, 1, none⟩ = some (.int .i64 y.ix) := by rw [← hW5]; simp
            have z2 : W5.cell? ⟨wr.heap.size, 2, none⟩ = some (.int .i64 y.ol) := by rw [← hW5]; simp
            have z3 : W5.cell? ⟨wr.heap.size, 3, none⟩ = some (.slice y.pa y.pl y.pc) := by rw [← hW5]; simp
            have hbX5 : Below X.heap.size X W5 := hbq.trans (hbW5.mono hbq.size)
            have hSO5 := hSO.below hbW5
            by_cases he : y.ix = (j : Int)
            · have hne : (y.ix != (j : Int)) = false := by simp [he]
              rw [if_pos he, List.append_nil] at hwt
              have HF : Hid (without (us.take (q + 1)) j = rs) := hwt
              have HSO5 : Hid (SOut X.heap.size W5 u34 rs) := hSO5
              have HB5 : Hid (Below X.heap.size X W5) := hbX5
              clear he hyq hbW5 hy hbe' hbq hb2r hrs hSO hyo hSO5 hbX5 hwt
              go_wp2
              go_roundw
              case rel => exact ⟨q + 1, by omega, by go_num, by rw [HF.out]; exact HSO5.out, HB5.out⟩
              case measure => simp [intOf]; omega
            · have hne : (y.ix != (j : Int)) = true := by simp [he]
              rw [if_neg he] at hwt
              have HF : Hid (without (us.take (q + 1)) j = rs ++ [y]) := hwt
              have HSO4 : Hid (∀ o, SOut X.heap.size (W5.alloc o) u34 rs) := fun o => hSO5.below ((Below.refl _ _).alloc (Nat.le_refl _) o)
              have HB4 : Hid (∀ o, Below X.heap.size X (W5.alloc o) ∧ X.heap.size ≤ (W5.alloc o).heap.size) := fun o => ⟨hbX5.alloc hbX5.size o, (hbX5.alloc hbX5.size o).size⟩
              have hk25 : Below w2.heap.size w2 W5 := hb2r.trans (hbW5.mono hb2r.size)
              have HOk4 : Hid (∀ o, SdOk (W5.alloc o) y) := fun o => (hyo.keeps (Below.keeps hk25)).keeps (Below.keeps ((Below.refl _ _).alloc (Nat.le_refl _) o))
              have HFar : Hid (0 < y.pl → ∀ b o, y.pa = some ⟨b, o, none⟩ → u34.ownBlock ≠ some b) := fun h0 b o hpe hq => by
                have h1 := hyo.pay.at_lt h0 hpe
                have h2 := (hSO.own.lt b hq).1
                omega
              have HBlk : Hid (∀ o, o = .cells #[.int .u8 y.g, .int .i64 y.ix, .int .i64 y.ol, .slice y.pa y.pl y.pc] 60 → (W5.alloc o).heap[W5.heap.size]? = some (.cells #[.int .u8 y.g, .int .i64 y.ix, .int .i64 y.ol, .slice y.pa y.pl y.pc] 60 (0, 0))) := fun o ho => by rw [ho]; exact heap_alloc_new W5 _
              have HOl : Hid (∀ k, u34.ownBlock = some k → X.heap.size ≤ k) := fun k hk => (hSO.own.lt k hk).1
              clear he hyq hbW5 hy hbe' hbq hb2r hrs hSO hyo hSO5 hbX5 hwt hk25
              go_wp2_with (at_builtin; refine wpList_append_sd _ rfl _ _ rfl X.heap.size u34 rs rfl (HSO4.out _) (HB4.out _).2 hrl W5.heap.size 1 rfl y (HBlk.out _ rfl) (HOk4.out _) HFar.out ?_; intro v' w5 h1 h2; have HT5 : Hid (SOut X.heap.size w5 v' (rs ++ [y])) := h1; have HB5 : Hid (Below X.heap.size X w5) := (HB4.out _).1.grown h2 (HB4.out _).2 HOl.out; clear h1 h2)
              go_roundw
              case rel => exact ⟨q + 1, by omega, by go_num, by rw [HF.out]; exact HT5.out, HB5.out⟩
              case measure => simp [intOf]; omega
          · have hlq' : ¬ (q : Int) < (L : Int) := by omega
            have hall : without us j = rs := by rw [← hrs, List.take_of_length_le (by have := HLe.out; omega)]
            obtain ⟨w6, hw6⟩ : ∃ x, x = wr := ⟨_, rfl⟩
            subst hw6
            obtain ⟨ao3, cap3, hv, hS3, hc3, hc4⟩ := hSO.form2
            have HDe : Hid (Calls Tryd.prog 45 #[.int .i64 (k2 : Int), .int .i64 (m2 : Int), .slice ao3 rs.length cap3] w6.drew (DcL w6 k2 m2 rs)) := by have hg := HRW.out.g2; exact decode_L hg.1 hg.2.1 hg.2.2 hS3 hrl hc3
            have HK6 : Hid (∀ V, Keeps w6 V → V.cell? ⟨sb, 0, none⟩ = some (.int .i64 (k2 : Int)) ∧ V.cell? ⟨sb, 1, none⟩ = some (.int .i64 (m2 : Int))) := fun V hV => HKe.out V ((HK2.out.trans (Below.keeps hb2r)).trans hV)
            have HK6d : Hid (Keeps w6 w6.drew) := Below.keeps (Below.refl _ _).drew
            have HOw6 : Hid (w6.ownsRow w2.heap.size 3 1 u32 zs.length (zs.map (Value.int .i64))) := own_below HOw.out hbq
            have HB26 : Hid (Below w2.heap.size w2 w6) := hb2r
            have HAll : Hid (without us j = rs) := hall
            obtain ⟨M, hM⟩ : ∃ M, rs.length = M := ⟨_, rfl⟩
            have HM : Hid (rs.length = M) := hM
            rw [hM] at hv HDe hrl hc3
            clear hall hrs hSO hb2r hbq hS3 hM HOw HRs
            subst hv
            go_upto_region 74 with fail
            go_region_held3 (fun w' => w'.cell? ⟨sb, 0, none⟩ = some (.int .i64 (k2 : Int)) ∧ w'.cell? ⟨sb, 1, none⟩ = some (.int .i64 (m2 : Int)))
              (first | with_reducible exact HK6.out _ HK6d.out | with_reducible exact HK6.out _ HK67.out)
              (first
                | (go_at_call 45; refine HDe.out.mono ?_; rintro r w7 ⟨a7, n7, c7, x7, rfl, hx7, hb7, hiff⟩; have HB7 : Hid (Below w6.heap.size w6 w7) := hb7; have HK67 : Hid (Keeps w6 w7) := Below.keeps hb7; have HIff : Hid (x7 = 0 ↔ vcls k2 (k2 + m2) rs = none) := hiff; clear hb7 hiff))
            have HOw7 : Hid (w7.ownsRow w2.heap.size 3 1 u32 zs.length (zs.map (Value.int .i64))) := own_below HOw6.out HB7.out
            have HB27 : Hid (Below w2.heap.size w2 w7) := HB26.out.trans (HB7.out.mono HB26.out.size)
            clear HDe HK6 HK6d HK67 HOw6 HB26 HB7
            by_cases hML : M < L
            · have hML' : (M : Int) < (L : Int) := by omega
              by_cases hx0 : x7 = 0
              · have HF : Hid (susM k2 (k2 + m2) us (j + 1) = zs ++ [(j : Int)]) := by
                  show susM k2 (k2 + m2) us (j + 1) = zs ++ [(j : Int)]
                  rw [susM_yes ⟨by rw [HAll.out, HM.out, HLe.out]; exact hML, by rw [HAll.out]; exact HIff.out.1 hx0⟩, HZs.out]
                have hxx : ((x7 : Int) == 0) = true := by simp [hx0]
                have HRa : Hid (∀ o, (w7.alloc o).ownsRow w2.heap.size 3 1 u32 zs.length (zs.map (Value.int .i64)) ∧ Below w2.heap.size w2 (w7.alloc o) ∧ w2.heap.size ≤ (w7.alloc o).heap.size) := fun o => ⟨own_below HOw7.out ((Below.refl _ _).alloc (Nat.le_refl _) o), HB27.out.alloc HB27.out.size o, (HB27.out.alloc HB27.out.size o).size⟩
                have HCz : Hid (∀ o, o = .cells #[.int .i64 (j : Int)] 3 → (w7.alloc o).cell? ⟨w7.heap.size, 0, none⟩ = some (.int .i64 (j : Int))) := fun o ho => by
                  have h : (w7.alloc o).heap[w7.heap.size]? = some (.cells #[.int .i64 (j : Int)] 3 (0, 0)) := by rw [ho]; exact heap_alloc_new w7 _
                  generalize w7.alloc o = W at h ⊢
                  simp [World.cell?, h]
                have HOl : Hid (∀ k, u32.ownBlock = some k → w2.heap.size ≤ k) := fun k hk => (HOw7.out.lt k hk).1
                clear HIff hx0 HOw7 HB27
                go_wp2_with (at_builtin; refine wpList_append_int _ (by rfl) _ _ (by rfl) w2.heap.size u32 zs (by rfl) (HRa.out _).1 (HRa.out _).2.2 hzl w7.heap.size 1 (by rfl) (j : Int) (HCz.out _ (by rfl)) ?_; intro v9 w8 h1 h2 h3; have HO8 : Hid (w8.ownsRow w2.heap.size 3 1 v9 (zs ++ [(j : Int)]).length ((zs ++ [(j : Int)]).map (Value.int .i64))) := h1; have HB8 : Hid (Below w2.heap.size w2 w8) := (HRa.out _).2.1.grown h2 (HRa.out _).2.2 HOl.out; clear h1 h2 h3)
                go_roundw
                case rel => exact ⟨j + 1, by omega, by go_num, by rw [HF.out]; exact HO8.out, HB8.out⟩
                case measure => simp [intOf]; omega
              · have HF : Hid (susM k2 (k2 + m2) us (j + 1) = zs) := by
                  show susM k2 (k2 + m2) us (j + 1) = zs
                  rw [susM_no (fun h => hx0 (HIff.out.2 (by rw [← HAll.out]; exact h.2))), HZs.out]
                have hxx : ((x7 : Int) == 0) = false := by simp; omega
                clear HIff hx0
                go_wp2
                go_roundw
                case rel => exact ⟨j + 1, by omega, by go_num, by rw [HF.out]; exact HOw7.out, HB27.out⟩
                case measure => simp [intOf]; omega
            · have hML' : ¬ (M : Int) < (L : Int) := by omega
              have HF : Hid (susM k2 (k2 + m2) us (j + 1) = zs) := by
                show susM k2 (k2 + m2) us (j + 1) = zs
                rw [susM_no (fun h => hML (by rw [← HM.out, ← HLe.out, ← HAll.out]; exact h.1)), HZs.out]
              clear HIff
              go_wp2
              go_roundw
              case rel => exact ⟨j + 1, by omega, by go_num, by rw [HF.out]; exact HOw7.out, HB27.out⟩
              case measure => simp [intOf]; omega
      · have hlt' : ¬ (j : Int) < (k2 : Int) + (m2 : Int) := by omega
        have hjN : j = k2 + m2 := by omega
        have hsz : zs = susC k2 (k2 + m2) (pk o.pick ts) := by
          rw [HSL.out.susC, ← sus_model HG.out, ← HZs.out, hjN]
          unfold susM
          rfl
        obtain ⟨za, zc, hv, hz, hza⟩ := zrow_own HOw.out
        have hBX : Below W.heap.size W X := HBW2.out.trans (HbX.out.mono HBW2.out.size)
        have hres3 : Res X (w.heap.size + 1) := HRes.out.below hBX
        have HR3 : Hid (Res X (w.heap.size + 1)) := hres3
        obtain ⟨r0, r1, r2, r3, r4, rf⟩ := hres3.cells
        have HF : Hid (StepM B w bb sb cb mb k m k2 m2 v1 ss v2 ts pm o (.returned (.agg #[.int .u8 0, .slice none 0 0, .slice none 0 0, .slice za zs.length zc, .int .i64 0])) (ansW X (w.heap.size + 1) (.int .u8 0) (.slice none 0 0) (.slice none 0 0) (.slice za zs.length zc) (.int .i64 0))) := by
          refine finM0 HRW.out HPb.out hBX (A := { ansE 0 with M := zs.length, lf := fun i => zs.getD i 0 }) (Spec.k7 HK0.out ⟨Stay.refl _ _ _, .inr (.inr ⟨HV8.out, by rw [hsz]; exact AnsEq.refl _⟩)⟩) (fun w5 hC => AnsOk.list (er := 0) (hz.chg hC (fun b o' h1 h2 => ?_)) hzl)
          have h3 := hza b o' h1 h2
          have h4 := (HRW.out.hz _ rfl).1
          have h5 := HBW2.out.size
          omega
        go_upto_region 65 with fail
        go_region_held3 (fun w' => w'.cell? ⟨sb, 0, none⟩ = some (.int .i64 (k2 : Int)) ∧ w'.cell? ⟨sb, 1, none⟩ = some (.int .i64 (m2 : Int)))
          (first | with_reducible exact HKr.out _ HKrd.out)
          (first | fail)
        simp only [hX]
        clear hX HKr HKrd HRW HPb HRes HK0 HSL HG HV8 HLe HL1 HC1 HUs HKe HK2 HBW2 HZs HbX HOw hsz hz hza hBX hres3 hjN
        subst hv
        go_wp2
        exact retM rfl rfl HR3.out HF.out
  · have hsp : Spec k2 m2 ts o (ansE x) k2 m2 ts := by
      refine Spec.k7 HK0.out ⟨Stay.refl _ _ _, ?_⟩
      rcases hcs with ⟨i, hxi, hr, _⟩ | ⟨hx0, _, D, _, hD, _⟩
      · have hi := hr.lt
        exact .inr (.inl ⟨i, by omega, vcls_refu.2 hr, by rw [hxi]; exact AnsEq.refl _⟩)
      · exact .inl ⟨hD.vcls, by rw [hx0]; exact AnsEq.refl _⟩
    have hres3 : Res w2 (w.heap.size + 1) := HRes.out.below HBW2.out
    have HR3 : Hid (Res w2 (w.heap.size + 1)) := hres3
    obtain ⟨r0, r1, r2, r3, r4, rf⟩ := hres3.cells
    have HF : Hid (StepM B w bb sb cb mb k m k2 m2 v1 ss v2 ts pm o (.returned (.agg #[.int .u8 (x : Int), .slice none 0 0, .slice none 0 0, .slice none 0 0, .int .i64 0])) (ansW w2 (w.heap.size + 1) (.int .u8 (x : Int)) (.slice none 0 0) (.slice none 0 0) (.slice none 0 0) (.int .i64 0))) :=
      finM0 HRW.out HPb.out HBW2.out hsp (fun w3 _ => AnsOk.num w3 x 0)
    have bx : ((x : Int) != 9) = true := by simp; omega
    clear hres3 HRes HRW HPb HB2 HK2 HCs HK0 HKe HKW HBW2 HK12 HS1 HSL HB1 HLe HL1 HC1 hcs hsp hx9
    go_wp2
    exact retM rfl rfl HR3.out HF.out
end Go.Proofs.Qxb6500697aDoor
