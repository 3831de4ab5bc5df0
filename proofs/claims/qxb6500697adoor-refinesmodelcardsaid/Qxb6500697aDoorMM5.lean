/-
  THE MODEL's STEP: KMissing.
-/
import Derived.Test.Qxb6500697aDoorMM4
namespace Go.Proofs.Qxb6500697aDoor
open Go.RowKit

/-- Is one of the first q of the list shard j? -/
def pres (us : List Sd) (j q : Nat) : Bool := decide (∃ t, t < q ∧ (us.getD t Sd.zero).ix = (j : Int))
theorem pres_zero (us : List Sd) (j : Nat) : pres us j 0 = false := decide_eq_false (fun ⟨t, h, _⟩ => by omega)
theorem pres_yes {us : List Sd} {j q : Nat} (h : (us.getD q Sd.zero).ix = (j : Int)) : pres us j (q + 1) = true := decide_eq_true ⟨q, by omega, h⟩
theorem pres_no {us : List Sd} {j q : Nat} (h : ¬ (us.getD q Sd.zero).ix = (j : Int)) : pres us j (q + 1) = pres us j q := by
  unfold pres
  refine decide_eq_decide.2 ⟨fun ⟨t, h1, h2⟩ => ⟨t, ?_, h2⟩, fun ⟨t, h1, h2⟩ => ⟨t, by omega, h2⟩⟩
  rcases Nat.lt_or_ge t q with h3 | h3
  · exact h3
  · have e : t = q := by omega
    rw [e] at h2
    exact absurd h2 h
theorem pres_all {us : List Sd} {j : Nat} (hp : ∀ x ∈ us, 0 ≤ x.ix) : pres us j us.length = decide (j ∈ us.map fun x => x.ix.toNat) := by
  unfold pres
  refine decide_eq_decide.2 ⟨fun ⟨t, h1, h2⟩ => ?_, fun h => ?_⟩
  · refine List.mem_map.2 ⟨us[t], List.getElem_mem h1, ?_⟩
    rw [getD_lt h1] at h2
    rw [h2]; rfl
  · obtain ⟨x, hx, he⟩ := List.mem_map.1 h
    obtain ⟨t, ht, rfl⟩ := List.getElem_of_mem hx
    refine ⟨t, ht, ?_⟩
    rw [getD_lt ht]
    have := hp _ (List.getElem_mem ht)
    omega
theorem SdOk.pa_lt {w : World} {x : Sd} (h : SdOk w x) (h0 : 0 < x.pl) {b o : Nat} (he : x.pa = some ⟨b, o, none⟩) : b < w.heap.size := h.pay.at_lt h0 he

set_option maxRecDepth 100000 in
set_option maxHeartbeats 4000000 in
theorem stepM5 {B : Nat} {w : World} {bb sb cb mb k m k2 m2 : Nat} {v1 v2 : Value} {ss ts : List Sd} {pm : Nat} {o : KOp} (h : InM B w bb sb cb mb k m k2 m2 v1 ss v2 ts pm o) (h0 : o.kind = 5) :
    Calls Tryd.prog 16 #[.pointer (some ⟨sb, 0, none⟩), opV o] w (StepM B w bb sb cb mb k m k2 m2 v1 ss v2 ts pm o) := by
  have hP := pro w o
  obtain ⟨W, hW⟩ : ∃ W, (w.alloc (opB o)).alloc ansZ = W := ⟨_, rfl⟩
  rw [hW] at hP
  obtain ⟨hRW, hBW⟩ := begR h.rs hP
  have hg2 := hRW.g2
  have HRW : Hid (RS B W bb sb cb mb k m k2 m2 v1 ss v2 ts pm (fun b => b = w.heap.size + 1)) := hRW
  have HPb : Hid (Below w.heap.size w W) := hP.bel
  have HRes : Hid (Res W (w.heap.size + 1)) := hP.res
  have HK0 : Hid (o.kind = 5) := h0
  have c0 : W.cell? ⟨w.heap.size, 0, none⟩ = some (.int .u8 o.kind) := hP.cell 0
  have c5 : W.cell? ⟨w.heap.size, 5, none⟩ = some (.slice o.pa o.pick.length o.pc) := hP.cell 5
  have d0 := hRW.s0
  have d1 := hRW.s1
  have b0 : ((o.kind : Int) == 0) = false := by simp; omega
  have b1 : ((o.kind : Int) == 1) = false := by simp; omega
  have b2 : ((o.kind : Int) == 2) = false := by simp; omega
  have b3 : ((o.kind : Int) == 3) = false := by simp; omega
  have b4 : ((o.kind : Int) == 4) = false := by simp; omega
  have b5 : ((o.kind : Int) == 5) = true := by simp; omega
  have HKW : Hid (Keeps W W.drew) := Below.keeps (Below.refl _ _).drew
  have hk16 := hg2.2.2
  have HKe : Hid (∀ V, Keeps W V → V.cell? ⟨sb, 0, none⟩ = some (.int .i64 (k2 : Int)) ∧ V.cell? ⟨sb, 1, none⟩ = some (.int .i64 (m2 : Int))) := fun V hV => ⟨hV _ _ _ d0, hV _ _ _ d1⟩
  have HPk : Hid (∀ V, Below W.heap.size W V → Calls Tryd.prog 46 #[.pointer (some ⟨sb, 0, none⟩), .slice o.pa o.pick.length o.pc] V fun r w' => ∃ ao cap us, r = .returned (.slice ao us.length cap) ∧ us.length ≤ 65536 ∧ us.length ≤ cap ∧ cap ≤ 9223372036854775807 ∧ SdRow w' ao us ∧ SL (pk o.pick ts) us ∧ Below W.heap.size W w' ∧ Keeps W w') := fun V hb => picked_M hRW (h.op.keeps (Below.keeps hP.bel)) h.pm1 V hb
  have HDc : Hid (∀ V ao us cap, SdRow V ao us → us.length ≤ 65536 → us.length ≤ cap → SL (pk o.pick ts) us → Calls Tryd.prog 45 #[.int .i64 (k2 : Int), .int .i64 (m2 : Int), .slice ao us.length cap] V.drew (DcM V k2 m2 ts o)) := fun V ao us cap h2 h3 h4 h5 => decode_M hg2.1 hg2.2.1 hg2.2.2 (Below.refl _ _).drew (h2.keeps (Below.keeps (Below.refl _ _).drew)) h3 h4 h5
  have HEc : Hid (∀ V oa g n oc f, goodG g → FRow V oa n f → n ≤ 256 → n ≤ oc → oc ≤ 9223372036854775807 → Calls Tryd.prog 43 #[.int .i64 (k2 : Int), .int .i64 (m2 : Int), .int .u8 (g : Int), .slice oa n oc] V.drew (EcM V k2 m2 g n f)) := fun V oa g n oc f hg h2 h3 h4 h5 => encode_M hg2.1 hg2.2.1 hg2.2.2 (Below.refl _ _).drew (h2.keeps (Below.keeps (Below.refl _ _).drew)) hg h3 h4 h5
  unfold opB ansZ at hW
  unfold opV
  clear h hP hRW hBW h0 hg2
  go_enter Tryd.func16, Tryd.ntmps16
  go_wp2_with fail
  refine Calls.mono (HPk.out _ (Below.refl _ _)) ?_
  rintro r w1 ⟨ao, cap, us, rfl, hl1, hc1, hc2, hs1, hsl, hb1, hk1⟩
  have HL1 : Hid (us.length ≤ 65536) := hl1
  have HC1 : Hid (us.length ≤ cap) := hc1
  have HS1 : Hid (SdRow w1 ao us) := hs1
  have HSL : Hid (SL (pk o.pick ts) us) := hsl
  have HB1 : Hid (Below W.heap.size W w1) := hb1
  have HK1 : Hid (Keeps W w1.drew) := hk1.trans (Below.keeps (Below.refl _ _).drew)
  have HDe : Hid (Calls Tryd.prog 45 #[.int .i64 (k2 : Int), .int .i64 (m2 : Int), .slice ao us.length cap] w1.drew (DcM w1 k2 m2 ts o)) := HDc.out w1 ao us cap hs1 hl1 hc1 hsl
  obtain ⟨L, hL⟩ : ∃ L, us.length = L := ⟨_, rfl⟩
  have HLe : Hid (us.length = L) := hL
  have hL6 : L ≤ 65536 := by omega
  have hLc : L ≤ cap := by omega
  rw [hL] at HDe
  simp only [hL]
  clear hs1 hsl hb1 hk1 HPk hl1 hc1 hL
  clear hW c0 c5 d0 d1
  go_upto_region 31 with fail
  go_region_held3 (fun w' => w'.cell? ⟨sb, 0, none⟩ = some (.int .i64 (k2 : Int)) ∧ w'.cell? ⟨sb, 1, none⟩ = some (.int .i64 (m2 : Int)))
    (first | with_reducible exact HKe.out _ HK1.out | with_reducible exact HKe.out _ HK2.out)
    (first
      | (go_at_call 45; refine HDe.out.mono ?_; rintro r w2 ⟨a, n, c, x, rfl, hx, hb2, hk2, hcase⟩; have HB2 : Hid (Below w1.heap.size w1 w2) := hb2; have HK2 : Hid (Keeps W w2) := HK1.out.trans hk2; have HK12 : Hid (Keeps w1 w2) := hk2; have HCs : Hid ((∃ i, x = i + 1 ∧ Refu k2 (k2 + m2) (pk o.pick ts) i ∧ a = none ∧ n = 0 ∧ c = 0) ∨ (x = 0 ∧ n = (ol0of (pk o.pick ts)).toNat ∧ ∃ D ob, RowsOk k2 (k2 + m2) (pk o.pick ts) D ∧ a = some ⟨ob, 0, none⟩ ∧ w1.heap.size ≤ ob ∧ Row w2 ob n (objOf k2 (pk o.pick ts) D) ∧ n ≤ c ∧ c ≤ 9223372036854775807)) := hcase; clear hb2 hk2 hcase))
  have HBW2 : Hid (Below W.heap.size W w2) := HB1.out.trans (HB2.out.mono HB1.out.size)
  clear HDe HK1
  have HBW2' : Hid (W.heap.size ≤ w2.heap.size) := HBW2.out.size
  rcases HCs.out with ⟨i, hxi, hr, rfl, rfl, rfl⟩ | ⟨hx0, hn, D, ob, hD, rfl, hob, hrow, hnc, hc9⟩
  · have hres3 : Res w2 (w.heap.size + 1) := HRes.out.below HBW2.out
    have HR3 : Hid (Res w2 (w.heap.size + 1)) := hres3
    obtain ⟨r0, r1, r2, r3, r4, rf⟩ := hres3.cells
    have HF : Hid (StepM B w bb sb cb mb k m k2 m2 v1 ss v2 ts pm o (.returned (.agg #[.int .u8 (x : Int), .slice none 0 0, .slice none 0 0, .slice none 0 0, .int .i64 0])) (ansW w2 (w.heap.size + 1) (.int .u8 (x : Int)) (.slice none 0 0) (.slice none 0 0) (.slice none 0 0) (.int .i64 0))) := by
      rw [hxi]
      exact finM0 HRW.out HPb.out HBW2.out (Spec.k5 HK0.out ⟨Stay.refl _ _ _, .inl ⟨i, hr, AnsEq.refl _⟩⟩) (fun w3 _ => AnsOk.num w3 (i + 1) 0)
    have bx : ((x : Int) != 0) = true := by simp; omega
    clear hres3 HRes HRW HPb HB2 HK2 HCs HK0 hxi hr HEc HKe HKW HBW2 HK12 HS1 HSL HB1 HLe HL1 HC1
    go_wp2
    exact retM rfl rfl HR3.out HF.out
  · subst hx0
    have ho := hD.good.ol
    have hGu := HSL.out.good hD.good
    have hg0 : g0of us = g0of (pk o.pick ts) := HSL.out.g0.symm
    have hgg : goodG (g0of us) := hGu.g0
    have hL0 : 0 < L := by have h1 := List.length_pos_iff.2 hGu.ne; have h2 := HLe.out; omega
    obtain ⟨gb, rfl, hgc⟩ := HS1.out.first (by rw [HLe.out]; exact hL0)
    obtain ⟨g, hge⟩ : ∃ g, g0of us = g := ⟨_, rfl⟩
    rw [hge] at hgc hgg hg0
    have hg256 : g < 256 := by rcases hgg with h | h | h <;> omega
    have hn256 : n ≤ 256 := by omega
    have HEn : Hid (Calls Tryd.prog 43 #[.int .i64 (k2 : Int), .int .i64 (m2 : Int), .int .u8 (g : Int), .slice (some ⟨ob, 0, none⟩) n c] w2.drew (EcM w2 k2 m2 g n (objOf k2 (pk o.pick ts) D))) := HEc.out w2 _ g n c _ hgg hrow.frow hn256 hnc hc9
    have HRem : Hid (∀ ls, SL ls (encL k2 m2 g n (objOf k2 (pk o.pick ts) D)) → ∀ i, i < k2 + m2 → (ls.getD i Sd.zero).same (remOf k2 (pk o.pick ts) D i)) := fun ls hl i hi => by
      have h1 := hl.enc_at hi
      rw [hg0, hn] at h1
      exact h1.trans (hD.enc (by have := HRW.out.g2; omega) (by have := HRW.out.g2; omega) i)
    have HRo : Hid (RowsOk k2 (k2 + m2) (pk o.pick ts) D) := hD
    have HKf : Hid (∀ V, Keeps W V → Keeps w2 V → V.cell? ⟨sb, 0, none⟩ = some (.int .i64 (k2 : Int)) ∧ V.cell? ⟨sb, 1, none⟩ = some (.int .i64 (m2 : Int)) ∧ V.cell? ⟨gb, 0, none⟩ = some (.int .u8 (g : Int))) := fun V h1 h2 => ⟨(HKe.out V h1).1, (HKe.out V h1).2, h2 _ _ _ (HK12.out _ _ _ hgc)⟩
    have HK3a : Hid (Keeps W w2.drew) := HK2.out.trans (Below.keeps (Below.refl _ _).drew)
    have HK3b : Hid (Keeps w2 w2.drew) := Below.keeps (Below.refl _ _).drew
    clear ho hnc hc9 hrow hob hD hn HEc HCs hGu hge hg0 hgg hgc
    go_upto_region 34 with fail
    go_region_held3 (fun w' => w'.cell? ⟨sb, 0, none⟩ = some (.int .i64 (k2 : Int)) ∧ w'.cell? ⟨sb, 1, none⟩ = some (.int .i64 (m2 : Int)) ∧ w'.cell? ⟨gb, 0, none⟩ = some (.int .u8 (g : Int)))
      (first | with_reducible exact HKf.out _ HK3a.out HK3b.out | with_reducible exact HKf.out _ HK3.out HK23.out)
      (first
        | (go_at_call 43; refine HEn.out.mono ?_; rintro r w3 ⟨HS, N, ls, rfl, hNk, hlN, hS3, hsl, hp4, hHS, hpb, hb3, hk3⟩; have HNk : Hid (N = k2 + m2) := hNk; have HlN : Hid (ls.length = N) := hlN; have HS3 : Hid (SdRow w3 (some ⟨HS, 0, none⟩) ls) := hS3; have HSl3 : Hid (SL ls (encL k2 m2 g n (objOf k2 (pk o.pick ts) D))) := hsl; have HP4 : Hid (∀ s ∈ ls, s.pl ≤ 4096) := hp4; have HHS : Hid (w2.heap.size ≤ HS) := hHS; have HPB : Hid (∀ s ∈ ls, 0 < s.pl → ∀ b o', s.pa = some ⟨b, o', none⟩ → w2.heap.size ≤ b) := hpb; have HB3 : Hid (Below w2.heap.size w2 w3) := hb3; have HK23 : Hid (Keeps w2 w3) := hk3; have HK3 : Hid (Keeps W w3) := HK2.out.trans hk3; clear hNk hlN hS3 hsl hp4 hHS hpb hb3 hk3))
    have HBW3 : Hid (Below W.heap.size W w3) := HBW2.out.trans (HB3.out.mono HBW2.out.size)
    have HK13 : Hid (Keeps w1 w3) := HK12.out.trans HK23.out
    clear HEn HKf HK3a HK3b HK12 HB2 HBW2 HB3 HB1
    have hNk := HNk.out
    have hN16 : N ≤ 16 := by omega
    have HIx : Hid (∀ j, j < N → (ls.getD j Sd.zero).ix = (j : Int)) := fun j hj => (HRem.out ls HSl3.out j (by omega)).2.1
    have HUs : Hid (SdRow w3 (some ⟨gb, 0, none⟩) us) := HS1.out.keeps HK13.out
    have HUp : Hid (∀ x ∈ us, 0 ≤ x.ix) := fun x hx => ((HSL.out.good HRo.out.good).fit x hx).ix.1
    clear hNk HS1 HK13 HK23 HK3 HKe HKW
    go_wp2
    go_loopw [19, 254] (fun v i wr => ∃ j : Nat, j ≤ N ∧ i = .int .i64 j ∧ SOut w3.heap.size wr v ((absL (us.map fun x => x.ix.toNat) j).map fun i => ls.getD i Sd.zero) ∧ Below w3.heap.size w3 wr) (fun _ i _ => N - (intOf i).toNat)
    case atStart => exact ⟨0, Nat.zero_le _, rfl, SOut.nil _ _, Below.refl _ _⟩
    case round =>
      obtain ⟨j, hj, rfl, hSO, hbr⟩ := hrel
      obtain ⟨w4, hw4⟩ : ∃ x, x = wr := ⟨_, rfl⟩
      subst hw4
      obtain ⟨al, has⟩ : ∃ al, ((absL (us.map fun x => x.ix.toNat) j).map fun i => ls.getD i Sd.zero) = al := ⟨_, rfl⟩
      rw [has] at hSO
      have HAs : Hid (((absL (us.map fun x => x.ix.toNat) j).map fun i => ls.getD i Sd.zero) = al) := has
      have HSO : Hid (SOut w3.heap.size w4 u19 al) := hSO
      have HBr : Hid (Below w3.heap.size w3 w4) := hbr
      by_cases hlt : j < N
      · have hlt' : (j : Int) < (N : Int) := by omega
        have hjl : j < ls.length := by rw [HlN.out]; exact hlt
        obtain ⟨b, hbe, c0, c1, c2, c3⟩ := (HS3.out.keeps (Below.keeps hbr)).at_ hjl
        obtain rfl : HS = b := congrArg (fun x : Option Addr => (x.getD ⟨0, 0, none⟩).block) hbe
        have hxo := HS3.out.ok ls[j] (List.getElem_mem hjl)
        obtain ⟨x, hx⟩ : ∃ x, ls[j] = x := ⟨_, rfl⟩
        rw [hx] at c0 c1 c2 c3 hxo
        have hxj : ls.getD j Sd.zero = x := by rw [getD_lt hjl]; exact hx
        have HXi : Hid (x.ix = (j : Int)) := by rw [← hxj]; exact HIx.out j hlt
        have HXj : Hid (ls.getD j Sd.zero = x) := hxj
        have HXo : Hid (SdOk w3 x) := hxo
        obtain ⟨W4, hW4⟩ : ∃ W4, w4.alloc (.cells #[.int .u8 x.g, .int .i64 x.ix, .int .i64 x.ol, .slice x.pa x.pl x.pc] 60) = W4 := ⟨_, rfl⟩
        have hbW4 : Below w4.heap.size w4 W4 := by rw [← hW4]; exact (Below.refl _ _).alloc (Nat.le_refl _) _
        have HBW4 : Hid (Below w4.heap.size w4 W4) := hbW4
        have d0 : W4.cell? ⟨w4.heap.size, 0, none⟩ = some (.int .u8 x.g) := by rw [← hW4]; simp
        have d1 : W4.cell? ⟨w4.heap.size, 1, none⟩ = some (.int .i64 x.ix) := by rw [← hW4]; simp
        have d2 : W4.cell? ⟨w4.heap.size, 2, none⟩ = some (.int .i64 x.ol) := by rw [← hW4]; simp
        have d3 : W4.cell? ⟨w4.heap.size, 3, none⟩ = some (.slice x.pa x.pl x.pc) := by rw [← hW4]; simp
        clear hSO hbr has hxo hx hxj hbW4 hbe
        go_wp2
        clear hW4 c0 c1 c2 c3
        go_loopw [22, 260] (fun pv i wr => ∃ q : Nat, q ≤ L ∧ i = .int .i64 q ∧ pv = .bool (pres us j q) ∧ Below W4.heap.size W4 wr) (fun _ i _ => L - (intOf i).toNat)
        case atStart => exact ⟨0, Nat.zero_le _, rfl, by rw [pres_zero], Below.refl _ _⟩
        case round =>
          obtain ⟨q, hq, rfl, rfl, hbq⟩ := hrel
          have HBq : Hid (Below W4.heap.size W4 wr) := hbq
          have kq := Below.keeps hbq
          have f0 := kq _ _ _ d0
          have f1 := kq _ _ _ d1
          have f2 := kq _ _ _ d2
          have f3 := kq _ _ _ d3
          by_cases hlq : q < L
          · have hlq' : (q : Int) < (L : Int) := by omega
            have hqu : q < us.length := by rw [HLe.out]; exact hlq
            have k3r : Keeps w3 wr := ((Below.keeps HBr.out).trans (Below.keeps HBW4.out)).trans kq
            obtain ⟨b', hbe', y0, y1, y2, y3⟩ := (HUs.out.keeps k3r).at_ hqu
            obtain rfl : gb = b' := congrArg (fun x : Option Addr => (x.getD ⟨0, 0, none⟩).block) hbe'
            obtain ⟨y, hy⟩ : ∃ y, us[q] = y := ⟨_, rfl⟩
            rw [hy] at y0 y1 y2 y3
            have hyq : us.getD q Sd.zero = y := by rw [getD_lt hqu]; exact hy
            obtain ⟨W5, hW5⟩ : ∃ W5, wr.alloc (.cells #[.int .u8 y.g, .int .i64 y.ix, .int .i64 y.ol, .slice y.pa y.pl y.pc] 60) = W5 := ⟨_, rfl⟩
            have hbW5 : Below wr.heap.size wr W5 := by rw [← hW5]; exact (Below.refl _ _).alloc (Nat.le_refl _) _
            have z1 : W5.cell? ⟨wr.heap.size, 1, none⟩ = some (.int .i64 y.ix) := by rw [← hW5]; simp
            have g1 : W5.cell? ⟨w4.heap.size, 1, none⟩ = some (.int .i64 x.ix) := Below.keeps hbW5 _ _ _ f1
            have HB5 : Hid (Below W4.heap.size W4 W5) := hbq.trans (hbW5.mono hbq.size)
            by_cases he : y.ix = x.ix
            · have hne : (y.ix == x.ix) = true := by simp [he]
              have HF : Hid (pres us j (q + 1) = true) := pres_yes (by rw [hyq, he]; exact HXi.out)
              clear he hyq hbW5 hy hbe' k3r kq hbq
              go_wp2
              go_roundw
              case rel => exact ⟨q + 1, by omega, by go_num, by rw [HF.out], HB5.out⟩
              case measure => simp [intOf]; omega
            · have hne : (y.ix == x.ix) = false := by simp [he]
              have HF : Hid (pres us j (q + 1) = pres us j q) := pres_no (by rw [hyq]; intro e; exact he (by rw [e, HXi.out]))
              clear he hyq hbW5 hy hbe' k3r kq hbq
              go_wp2
              go_roundw
              case rel => exact ⟨q + 1, by omega, by go_num, by rw [HF.out], HB5.out⟩
              case measure => simp [intOf]; omega
          · have hlq' : ¬ (q : Int) < (L : Int) := by omega
            have hqL : q = L := by omega
            have hall : pres us j q = decide (j ∈ us.map fun x => x.ix.toNat) := by rw [hqL, ← HLe.out]; exact pres_all HUp.out
            have hb4r : Below w4.heap.size w4 wr := HBW4.out.trans (hbq.mono HBW4.out.size)
            have hbw : Below w3.heap.size w3 wr := HBr.out.trans (hb4r.mono HBr.out.size)
            by_cases hm : j ∈ us.map fun x => x.ix.toNat
            · rw [decide_eq_true hm] at hall
              have HF : Hid (((absL (us.map fun x => x.ix.toNat) (j + 1)).map fun i => ls.getD i Sd.zero) = al) := by
                show ((absL (us.map fun x => x.ix.toNat) (j + 1)).map fun i => ls.getD i Sd.zero) = al
                rw [absL_succ, if_pos hm, List.append_nil]
                exact HAs.out
              have HT : Hid (SOut w3.heap.size wr u19 al) := HSO.out.below hb4r
              have HBw : Hid (Below w3.heap.size w3 wr) := hbw
              clear hm hb4r hbw kq hbq
              simp only [hall]
              clear hall
              go_wp2
              go_roundw
              case rel => exact ⟨j + 1, by omega, by go_num, by rw [HF.out]; exact HT.out, HBw.out⟩
              case measure => simp [intOf]; omega
            · rw [decide_eq_false hm] at hall
              have HF : Hid (((absL (us.map fun x => x.ix.toNat) (j + 1)).map fun i => ls.getD i Sd.zero) = al ++ [x]) := by
                show ((absL (us.map fun x => x.ix.toNat) (j + 1)).map fun i => ls.getD i Sd.zero) = al ++ [x]
                rw [absL_succ, if_neg hm, List.map_append, HAs.out]
                show al ++ [ls.getD j Sd.zero] = al ++ [x]
                rw [HXj.out]
              have HSO4 : Hid (∀ o, SOut w3.heap.size (wr.alloc o) u19 al) := fun o => (HSO.out.below hb4r).below ((Below.refl _ _).alloc (Nat.le_refl _) o)
              have HB4 : Hid (∀ o, Below w3.heap.size w3 (wr.alloc o) ∧ w3.heap.size ≤ (wr.alloc o).heap.size) := fun o => ⟨hbw.alloc hbw.size o, (hbw.alloc hbw.size o).size⟩
              have HOk4 : Hid (∀ o, SdOk (wr.alloc o) x) := fun o => (HXo.out.keeps (Below.keeps hbw)).keeps (Below.keeps ((Below.refl _ _).alloc (Nat.le_refl _) o))
              have HFar : Hid (0 < x.pl → ∀ b o, x.pa = some ⟨b, o, none⟩ → u19.ownBlock ≠ some b) := fun h0 b o he hq => by
                have h1 := HXo.out.pa_lt h0 he
                have h2 := (HSO.out.own.lt b hq).1
                omega
              have HBlk : Hid (∀ o, o = .cells #[.int .u8 x.g, .int .i64 x.ix, .int .i64 x.ol, .slice x.pa x.pl x.pc] 60 → (wr.alloc o).heap[wr.heap.size]? = some (.cells #[.int .u8 x.g, .int .i64 x.ix, .int .i64 x.ol, .slice x.pa x.pl x.pc] 60 (0, 0))) := fun o ho => by rw [ho]; exact heap_alloc_new wr _
              have htl : al.length ≤ 65536 := by
                rw [← HAs.out, List.length_map]
                have := absL_len (us.map fun x => x.ix.toNat) j
                omega
              have HOl : Hid (∀ k, u19.ownBlock = some k → w3.heap.size ≤ k) := fun k hk => (HSO.out.own.lt k hk).1
              clear hm hb4r hbw kq hbq
              simp only [hall]
              clear hall
              go_wp2_with (at_builtin; refine wpList_append_sd _ rfl _ _ rfl w3.heap.size u19 al rfl (HSO4.out _) (HB4.out _).2 htl wr.heap.size 1 rfl x (HBlk.out _ rfl) (HOk4.out _) HFar.out ?_; intro v' w5 h1 h2; have HT5 : Hid (SOut w3.heap.size w5 v' (al ++ [x])) := h1; have HB5 : Hid (Below w3.heap.size w3 w5) := (HB4.out _).1.grown h2 (HB4.out _).2 HOl.out; clear h1 h2)
              go_roundw
              case rel => exact ⟨j + 1, by omega, by go_num, by rw [HF.out]; exact HT5.out, HB5.out⟩
              case measure => simp [intOf]; omega
      · have hlt' : ¬ (j : Int) < (N : Int) := by omega
        have hjN : j = N := by omega
        obtain ⟨ao2, cap2, hv, hrow⟩ := hSO.form
        have hres3 : Res w4 (w.heap.size + 1) := (HRes.out.below HBW3.out).below (hbr.mono (by exact Nat.le_refl _))
        have HR3 : Hid (Res w4 (w.heap.size + 1)) := hres3
        obtain ⟨r0, r1, r2, r3, r4, rf⟩ := hres3.cells
        have HF : Hid (StepM B w bb sb cb mb k m k2 m2 v1 ss v2 ts pm o (.returned (.agg #[.int .u8 0, .slice none 0 0, .slice ao2 al.length cap2, .slice none 0 0, .int .i64 0])) (ansW w4 (w.heap.size + 1) (.int .u8 0) (.slice none 0 0) (.slice ao2 al.length cap2) (.slice none 0 0) (.int .i64 0))) := by
          have hWR := (HRW.out.hz _ rfl).1
          have hlt3 : ∀ b, w2.heap.size ≤ b → ¬ b = w.heap.size + 1 := fun b hb e => by
            have h2 := HBW2'.out
            omega
          have hmem : ∀ s ∈ al, s ∈ ls := fun s hs => by
            rw [← HAs.out] at hs
            obtain ⟨i, hi, rfl⟩ := List.mem_map.1 hs
            have h1 := absL_lt hi
            have h2 : i < ls.length := by rw [HlN.out]; omega
            rw [getD_lt h2]
            exact List.getElem_mem h2
          have hlen : al.length ≤ 65536 := by
            rw [← HAs.out, List.length_map]
            have := absL_len (us.map fun x => x.ix.toNat) j
            omega
          refine finM0 HRW.out HPb.out (HBW3.out.trans (hbr.mono HBW3.out.size)) (A := { ansE 0 with sh := al }) (Spec.k5 HK0.out ⟨Stay.refl _ _ _, .inr ⟨D, HRo.out, ⟨rfl, rfl, fun _ _ => rfl, ?_, rfl, fun _ _ => rfl, rfl⟩⟩⟩) (fun w5 hC => AnsOk.shards (er := 0) (hrow.chg hC (fun b o' h1 he => ?_) (fun s hs h1 b o' h2 => hlt3 b (HPB.out s (hmem s hs) h1 b o' h2))) hlen (fun s hs => by have := HP4.out s (hmem s hs); omega))
          · show SL al ((absL ((pk o.pick ts).map fun x => x.ix.toNat) (k2 + m2)).map (remOf k2 (pk o.pick ts) D))
            rw [HSL.out.ixs, ← HAs.out, hjN, HNk.out]
            exact SL.ofMap (fun i hi => HRem.out ls HSl3.out i (absL_lt hi))
          · have h2 := (hSO.own.lt b (by rw [hv, he]; rfl)).1
            have h3 := HBW3.out.size
            omega
        clear hres3 HRes HRW HPb HK2 HNk HlN HS3 HSl3 HP4 HHS HPB HBW3 HRo HRem HK0 HSL HLe HL1 HC1 HBW2' hSO hbr hrow HAs HSO HBr HIx HUs HUp has hjN
        subst hv
        go_wp2
        exact retM rfl rfl HR3.out HF.out
end Go.Proofs.Qxb6500697aDoor
