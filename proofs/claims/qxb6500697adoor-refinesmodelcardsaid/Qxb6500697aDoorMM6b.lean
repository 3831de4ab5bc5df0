/-
  THE MODEL's STEP: KConvert.
-/
import Derived.Test.Qxb6500697aDoorMM6
namespace Go.Proofs.Qxb6500697aDoor
open Go.RowKit

set_option maxRecDepth 100000 in
set_option maxHeartbeats 4000000 in
theorem stepM6_gen {B : Nat} {w : World} {bb sb cb mb k m k2 m2 : Nat} {v1 v2 : Value} {ss ts : List Sd} {pm : Nat} {o : KOp} (h : InM B w bb sb cb mb k m k2 m2 v1 ss v2 ts pm o) (h0 : o.kind = 6) (hg : ¬ goodG o.gen) :
    Calls Tryd.prog 16 #[.pointer (some ⟨sb, 0, none⟩), opV o] w (StepM B w bb sb cb mb k m k2 m2 v1 ss v2 ts pm o) := by
  have hP := pro w o
  obtain ⟨W, hW⟩ : ∃ W, (w.alloc (opB o)).alloc ansZ = W := ⟨_, rfl⟩
  rw [hW] at hP
  obtain ⟨hRW, hBW⟩ := begR h.rs hP
  have hg2 := hRW.g2
  have c0 : W.cell? ⟨w.heap.size, 0, none⟩ = some (.int .u8 o.kind) := hP.cell 0
  have c3 : W.cell? ⟨w.heap.size, 3, none⟩ = some (.int .u8 o.gen) := hP.cell 3
  have c5 : W.cell? ⟨w.heap.size, 5, none⟩ = some (.slice o.pa o.pick.length o.pc) := hP.cell 5
  have c8 : W.cell? ⟨w.heap.size, 8, none⟩ = some (.int .i64 o.value) := hP.cell 8
  have d0 := hRW.s0
  have d1 := hRW.s1
  have b0 : ((o.kind : Int) == 0) = false := by simp; omega
  have b1 : ((o.kind : Int) == 1) = false := by simp; omega
  have b2 : ((o.kind : Int) == 2) = false := by simp; omega
  have b3 : ((o.kind : Int) == 3) = false := by simp; omega
  have b4 : ((o.kind : Int) == 4) = false := by simp; omega
  have b5 : ((o.kind : Int) == 5) = false := by simp; omega
  have b6 : ((o.kind : Int) == 6) = true := by simp; omega
  have HRes : Hid (Res W (w.heap.size + 1)) := hP.res
  have HRW : Hid (RS B W bb sb cb mb k m k2 m2 v1 ss v2 ts pm (fun b => b = w.heap.size + 1)) := hRW
  have HPb : Hid (Below w.heap.size w W) := hP.bel
  have HK0 : Hid (o.kind = 6) := h0
  have HGn : Hid _ := goodGen_any o.gen W h.op.hgen
  rw [genOk_bad hg] at HGn
  unfold opB ansZ at hW
  unfold opV
  clear h hP hRW hBW h0 hg2
  go_enter Tryd.func16, Tryd.ntmps16
  have hres3 : Res W (w.heap.size + 1) := HRes.out
  obtain ⟨r0, r1, r2, r3, r4, rf⟩ := hres3.cells
  have HF : Hid (StepM B w bb sb cb mb k m k2 m2 v1 ss v2 ts pm o (.returned (.agg #[.int .u8 2, .slice none 0 0, .slice none 0 0, .slice none 0 0, .int .i64 0])) (ansW W (w.heap.size + 1) (.int .u8 2) (.slice none 0 0) (.slice none 0 0) (.slice none 0 0) (.int .i64 0))) :=
    finM0 HRW.out HPb.out (Below.refl _ _) (Spec.k6 HK0.out ⟨Stay.refl _ _ _, .inl ⟨hg, AnsEq.refl _⟩⟩) (fun w3 _ => AnsOk.num w3 2 0)
  clear hres3 HRW HPb HK0 hg
  go_wp2_with fail
  refine Calls.mono HGn.out ?_
  rintro r w9 ⟨rfl, hw⟩
  rw [hw]
  clear hw w9 HGn
  go_wp2
  exact retM rfl rfl HRes.out HF.out

set_option maxRecDepth 100000 in
set_option maxHeartbeats 4000000 in
theorem stepM6_ok {B : Nat} {w : World} {bb sb cb mb k m k2 m2 : Nat} {v1 v2 : Value} {ss ts : List Sd} {pm : Nat} {o : KOp} (h : InM B w bb sb cb mb k m k2 m2 v1 ss v2 ts pm o) (h0 : o.kind = 6) (hg : goodG o.gen) :
    Calls Tryd.prog 16 #[.pointer (some ⟨sb, 0, none⟩), opV o] w (StepM B w bb sb cb mb k m k2 m2 v1 ss v2 ts pm o) := by
  have hP := pro w o
  obtain ⟨W, hW⟩ : ∃ W, (w.alloc (opB o)).alloc ansZ = W := ⟨_, rfl⟩
  rw [hW] at hP
  obtain ⟨hRW, hBW⟩ := begR h.rs hP
  have hg2 := hRW.g2
  have c0 : W.cell? ⟨w.heap.size, 0, none⟩ = some (.int .u8 o.kind) := hP.cell 0
  have c3 : W.cell? ⟨w.heap.size, 3, none⟩ = some (.int .u8 o.gen) := hP.cell 3
  have c5 : W.cell? ⟨w.heap.size, 5, none⟩ = some (.slice o.pa o.pick.length o.pc) := hP.cell 5
  have c8 : W.cell? ⟨w.heap.size, 8, none⟩ = some (.int .i64 o.value) := hP.cell 8
  have d0 := hRW.s0
  have d1 := hRW.s1
  have b0 : ((o.kind : Int) == 0) = false := by simp; omega
  have b1 : ((o.kind : Int) == 1) = false := by simp; omega
  have b2 : ((o.kind : Int) == 2) = false := by simp; omega
  have b3 : ((o.kind : Int) == 3) = false := by simp; omega
  have b4 : ((o.kind : Int) == 4) = false := by simp; omega
  have b5 : ((o.kind : Int) == 5) = false := by simp; omega
  have b6 : ((o.kind : Int) == 6) = true := by simp; omega
  have HRes : Hid (Res W (w.heap.size + 1)) := hP.res
  have HRW : Hid (RS B W bb sb cb mb k m k2 m2 v1 ss v2 ts pm (fun b => b = w.heap.size + 1)) := hRW
  have HPb : Hid (Below w.heap.size w W) := hP.bel
  have HK0 : Hid (o.kind = 6) := h0
  have HGn : Hid _ := goodGen_any o.gen W h.op.hgen
  rw [genOk_good hg] at HGn
  have HKd : Hid (∀ V, Keeps W V → V.cell? ⟨sb, 0, none⟩ = some (.int .i64 (k2 : Int)) ∧ V.cell? ⟨sb, 1, none⟩ = some (.int .i64 (m2 : Int)) ∧ V.cell? ⟨w.heap.size, 5, none⟩ = some (.slice o.pa o.pick.length o.pc)) := fun V hV => ⟨hV _ _ _ d0, hV _ _ _ d1, hV _ _ _ c5⟩
  have HKe : Hid (∀ V, Keeps W V → V.cell? ⟨sb, 0, none⟩ = some (.int .i64 (k2 : Int)) ∧ V.cell? ⟨sb, 1, none⟩ = some (.int .i64 (m2 : Int)) ∧ V.cell? ⟨w.heap.size, 3, none⟩ = some (.int .u8 (o.gen : Int))) := fun V hV => ⟨hV _ _ _ d0, hV _ _ _ d1, hV _ _ _ c3⟩
  have HKW : Hid (Keeps W W.drew) := Below.keeps (Below.refl _ _).drew
  have HPk : Hid (Calls Tryd.prog 46 #[.pointer (some ⟨sb, 0, none⟩), .slice o.pa o.pick.length o.pc] W.drew fun r w' => ∃ ao cap us, r = .returned (.slice ao us.length cap) ∧ us.length ≤ 65536 ∧ us.length ≤ cap ∧ cap ≤ 9223372036854775807 ∧ SdRow w' ao us ∧ SL (pk o.pick ts) us ∧ Below W.heap.size W w' ∧ Keeps W w') := picked_M hRW (h.op.keeps (Below.keeps hP.bel)) h.pm1 W.drew (Below.refl _ _).drew
  have HDc : Hid (∀ V ao us cap, Below W.heap.size W V → SdRow V ao us → us.length ≤ 65536 → us.length ≤ cap → SL (pk o.pick ts) us → Calls Tryd.prog 45 #[.int .i64 (k2 : Int), .int .i64 (m2 : Int), .slice ao us.length cap] V (DcM W k2 m2 ts o)) := fun V ao us cap h1 h2 h3 h4 h5 => decode_M hg2.1 hg2.2.1 hg2.2.2 h1 h2 h3 h4 h5
  have HEc : Hid (∀ V oa n oc f, Below W.heap.size W V → FRow V oa n f → n ≤ 256 → n ≤ oc → oc ≤ 9223372036854775807 → Calls Tryd.prog 43 #[.int .i64 (k2 : Int), .int .i64 (m2 : Int), .int .u8 (o.gen : Int), .slice oa n oc] V (EcM W k2 m2 o.gen n f)) := fun V oa n oc f h1 h2 h3 h4 h5 => encode_M hg2.1 hg2.2.1 hg2.2.2 h1 h2 hg h3 h4 h5
  have hg16 := hg2.2.2
  unfold opB ansZ at hW
  unfold opV
  clear h hP hRW hBW h0 hg2
  go_enter Tryd.func16, Tryd.ntmps16
  go_wp2_with fail
  refine Calls.mono HGn.out ?_
  rintro r w9 ⟨rfl, hw⟩
  rw [hw]
  clear hw w9 HGn
  go_upto_region 53 with fail
  clear hW c0 c3 c5 c8 d0 d1
  go_region_held3 (fun w' => w'.cell? ⟨sb, 0, none⟩ = some (.int .i64 (k2 : Int)) ∧ w'.cell? ⟨sb, 1, none⟩ = some (.int .i64 (m2 : Int)) ∧ w'.cell? ⟨w.heap.size, 5, none⟩ = some (.slice o.pa o.pick.length o.pc))
    (first | with_reducible exact HKd.out _ HKW.out | with_reducible exact HKd.out _ HK1.out | with_reducible exact HKd.out _ HK2.out)
    (first
      | (go_at_call 46; refine HPk.out.mono ?_; rintro r w1 ⟨ao, cap, us, rfl, hl1, hc1, hc2, hs1, hsl, hb1, hk1⟩; have HL1 : Hid (us.length ≤ 65536) := hl1; have HC1 : Hid (us.length ≤ cap) := hc1; have HS1 : Hid (SdRow w1 ao us) := hs1; have HSL : Hid (SL (pk o.pick ts) us) := hsl; have HB1 : Hid (Below W.heap.size W w1) := hb1; have HK1 : Hid (Keeps W w1) := hk1; clear hl1 hc1 hc2 hs1 hsl hb1 hk1)
      | (go_at_call 45; refine (HDc.out _ _ _ _ HB1.out HS1.out HL1.out HC1.out HSL.out).mono ?_; rintro r w2 ⟨a, n, c, x, rfl, hx, hb2, hk2, hcase⟩; have HB2 : Hid (Below W.heap.size W w2) := hb2; have HK2 : Hid (Keeps W w2) := hk2; have HCs : Hid ((∃ i, x = i + 1 ∧ Refu k2 (k2 + m2) (pk o.pick ts) i ∧ a = none ∧ n = 0 ∧ c = 0) ∨ (x = 0 ∧ n = (ol0of (pk o.pick ts)).toNat ∧ ∃ D ob, RowsOk k2 (k2 + m2) (pk o.pick ts) D ∧ a = some ⟨ob, 0, none⟩ ∧ W.heap.size ≤ ob ∧ Row w2 ob n (objOf k2 (pk o.pick ts) D) ∧ n ≤ c ∧ c ≤ 9223372036854775807)) := hcase; clear hb2 hk2 hcase))
  clear HPk HDc HKd HKW HK1 HS1 HB1 HSL HL1 HC1
  rcases HCs.out with ⟨i, hxi, hr, rfl, rfl, rfl⟩ | ⟨hx0, hn, D, ob, hD, rfl, hob, hrow, hnc, hc9⟩
  · have hres3 : Res w2 (w.heap.size + 1) := HRes.out.below HB2.out
    have HR3 : Hid (Res w2 (w.heap.size + 1)) := hres3
    obtain ⟨r0, r1, r2, r3, r4, rf⟩ := hres3.cells
    have HF : Hid (StepM B w bb sb cb mb k m k2 m2 v1 ss v2 ts pm o (.returned (.agg #[.int .u8 (x : Int), .slice none 0 0, .slice none 0 0, .slice none 0 0, .int .i64 0])) (ansW w2 (w.heap.size + 1) (.int .u8 (x : Int)) (.slice none 0 0) (.slice none 0 0) (.slice none 0 0) (.int .i64 0))) := by
      rw [hxi]
      exact finM0 HRW.out HPb.out HB2.out (Spec.k6 HK0.out ⟨Stay.refl _ _ _, .inr ⟨hg, .inl ⟨i, hr, AnsEq.refl _⟩⟩⟩) (fun w3 _ => AnsOk.num w3 (i + 1) 0)
    have bx : ((x : Int) != 0) = true := by simp; omega
    clear hres3 HRes HRW HPb HB2 HK2 HCs HK0 hxi hr HEc HKe hg
    go_wp2
    exact retM rfl rfl HR3.out HF.out
  · subst hx0
    have ho := hD.good.ol
    have HEn : Hid (Calls Tryd.prog 43 #[.int .i64 (k2 : Int), .int .i64 (m2 : Int), .int .u8 (o.gen : Int), .slice (some ⟨ob, 0, none⟩) n c] w2.drew (EcM W k2 m2 o.gen n (objOf k2 (pk o.pick ts) D))) := HEc.out _ _ _ _ _ HB2.out.drew (hrow.frow.keeps (Below.keeps (Below.refl _ _).drew)) (by omega) hnc hc9
    have HSp : Hid (∀ ls, SL ls (encL k2 m2 o.gen n (objOf k2 (pk o.pick ts) D)) → Spec k2 m2 ts o { ansE 0 with sh := ls } k2 m2 ts) := fun ls hl => Spec.k6 HK0.out ⟨Stay.refl _ _ _, .inr ⟨hg, .inr ⟨D, hD, ⟨rfl, rfl, fun _ _ => rfl, by rw [← hn]; exact hl, rfl, fun _ _ => rfl, rfl⟩⟩⟩⟩
    have HKf : Hid (Keeps W w2.drew) := HK2.out.trans (Below.keeps (Below.refl _ _).drew)
    clear ho hnc hc9 hrow hob hD hn HEc HCs HK0 hg
    go_upto_region 56 with fail
    go_region_held3 (fun w' => w'.cell? ⟨sb, 0, none⟩ = some (.int .i64 (k2 : Int)) ∧ w'.cell? ⟨sb, 1, none⟩ = some (.int .i64 (m2 : Int)) ∧ w'.cell? ⟨w.heap.size, 3, none⟩ = some (.int .u8 (o.gen : Int)))
      (first | with_reducible exact HKe.out _ HKf.out | with_reducible exact HKe.out _ HK3.out)
      (first
        | (go_at_call 43; refine HEn.out.mono ?_; rintro r w3 ⟨HS, N, ls, rfl, hNk, hlN, hS1, hsl, hp4, hHS, hpb, hb3, hk3⟩; have HNk : Hid (N = k2 + m2) := hNk; have HlN : Hid (ls.length = N) := hlN; have HS1 : Hid (SdRow w3 (some ⟨HS, 0, none⟩) ls) := hS1; have HSL : Hid (SL ls (encL k2 m2 o.gen n (objOf k2 (pk o.pick ts) D))) := hsl; have HP4 : Hid (∀ s ∈ ls, s.pl ≤ 4096) := hp4; have HHS : Hid (W.heap.size ≤ HS) := hHS; have HPB : Hid (∀ s ∈ ls, 0 < s.pl → ∀ b o', s.pa = some ⟨b, o', none⟩ → W.heap.size ≤ b) := hpb; have HB3 : Hid (Below W.heap.size W w3) := hb3; have HK3 : Hid (Keeps W w3) := hk3; clear hNk hlN hS1 hsl hp4 hHS hpb hb3 hk3))
    have hres3 : Res w3 (w.heap.size + 1) := HRes.out.below HB3.out
    have HR3 : Hid (Res w3 (w.heap.size + 1)) := hres3
    obtain ⟨r0, r1, r2, r3, r4, rf⟩ := hres3.cells
    have HF : Hid (StepM B w bb sb cb mb k m k2 m2 v1 ss v2 ts pm o (.returned (.agg #[.int .u8 0, .slice none 0 0, .slice (some ⟨HS, 0, none⟩) N N, .slice none 0 0, .int .i64 0])) (ansW w3 (w.heap.size + 1) (.int .u8 0) (.slice none 0 0) (.slice (some ⟨HS, 0, none⟩) N N) (.slice none 0 0) (.int .i64 0))) :=
      finM0 HRW.out HPb.out HB3.out (HSp.out ls HSL.out) (fun w4 hC => AnsOk.enc HS1.out HlN.out (by have := HNk.out; omega) HP4.out HHS.out HPB.out hC (fun b hb => by rw [hb]; exact heap_lt HRes.out))
    clear hres3 HRes HRW HPb HB2 HK2 HKe HKf HEn HSp HNk HlN HS1 HSL HP4 HHS HPB HB3 HK3
    go_wp2
    exact retM rfl rfl HR3.out HF.out
theorem stepM6 {B : Nat} {w : World} {bb sb cb mb k m k2 m2 : Nat} {v1 v2 : Value} {ss ts : List Sd} {pm : Nat} {o : KOp} (h : InM B w bb sb cb mb k m k2 m2 v1 ss v2 ts pm o) (h0 : o.kind = 6) :
    Calls Tryd.prog 16 #[.pointer (some ⟨sb, 0, none⟩), opV o] w (StepM B w bb sb cb mb k m k2 m2 v1 ss v2 ts pm o) := by
  by_cases hg : goodG o.gen
  · exact stepM6_ok h h0 hg
  · exact stepM6_gen h h0 hg
end Go.Proofs.Qxb6500697aDoor
