/-
  THE MODEL's STEP: KDecode.
-/
import Derived.Test.Qxb6500697aDoorMM0
namespace Go.Proofs.Qxb6500697aDoor
open Go.RowKit

section
variable {B : Nat} {w W V w2 : World} {bb sb cb mb k m k2 m2 : Nat} {v1 v2 : Value} {ss ts : List Sd} {pm : Nat} {o : KOp} {R : Nat}
/-- What the model picks from its tray. -/
theorem picked_M (h : RS B W bb sb cb mb k m k2 m2 v1 ss v2 ts pm (fun b => b = R)) (hop : OpOk W o) (hpm : pm ≤ 1000000) (V : World) (hb : Below W.heap.size W V) :
    Calls Tryd.prog 46 #[.pointer (some ⟨sb, 0, none⟩), .slice o.pa o.pick.length o.pc] V fun r w' => ∃ ao cap us, r = .returned (.slice ao us.length cap) ∧ us.length ≤ 65536 ∧ us.length ≤ cap ∧ cap ≤ 9223372036854775807 ∧ SdRow w' ao us ∧ SL (pk o.pick ts) us ∧ Below W.heap.size W w' ∧ Keeps W w' := by
  have hV := h.below hb
  obtain ⟨ta, tc, hv, hS⟩ := hV.t2.row
  refine (mpicked_any V sb ta tc ts o.pa o.pc o.pick (by rw [← hv]; exact hV.s2) hS hV.l2 (fun s hs => by have := hV.p2 s hs; omega) (hop.keeps (Below.keeps hb)).pk hop.pl).mono ?_
  rintro r w' ⟨v, us, hr, hs, hsl, hb'⟩
  have h1 : Below W.heap.size W w' := hb.trans (hb'.mono hb.size)
  obtain ⟨ao, cap, rfl, hSu, hc1, hc2⟩ := hs.form2
  exact ⟨ao, cap, us, hr, by rw [← hsl.len]; exact Nat.le_trans pk_len hop.pl, hc1, hc2, hSu, hsl, h1, Below.keeps h1⟩
/-- What neither the answer's box nor old memory holds. -/
theorem RS.farR (h : RS B W bb sb cb mb k m k2 m2 v1 ss v2 ts pm (fun b => b = R)) {b : Nat} (hb : W.heap.size ≤ b) : ¬ b = R := by have := (h.hz R rfl).1; omega
end
/-- What Decode of the model gives a step. -/
def DcM (W : World) (k2 m2 : Nat) (ts : List Sd) (o : KOp) (r : Ending) (w2 : World) : Prop := ∃ a n c x, r = .returned (.tuple #[.slice a n c, .int .u8 (x : Nat)]) ∧ x < 256 ∧ Below W.heap.size W w2 ∧ Keeps W w2 ∧
  ((∃ i, x = i + 1 ∧ Refu k2 (k2 + m2) (pk o.pick ts) i ∧ a = none ∧ n = 0 ∧ c = 0) ∨ (x = 0 ∧ n = (ol0of (pk o.pick ts)).toNat ∧ ∃ D ob, RowsOk k2 (k2 + m2) (pk o.pick ts) D ∧ a = some ⟨ob, 0, none⟩ ∧ W.heap.size ≤ ob ∧ Row w2 ob n (objOf k2 (pk o.pick ts) D) ∧ n ≤ c ∧ c ≤ 9223372036854775807))
theorem decode_M {W V : World} {k2 m2 : Nat} {ts us : List Sd} {o : KOp} {ao : Option Addr} {cap : Nat} (hk : 1 ≤ k2) (hm : 1 ≤ m2) (hkm : k2 + m2 ≤ 16) (hb : Below W.heap.size W V) (hS : SdRow V ao us) (hl : us.length ≤ 65536) (hc : us.length ≤ cap) (hsl : SL (pk o.pick ts) us) :
    Calls Tryd.prog 45 #[.int .i64 (k2 : Int), .int .i64 (m2 : Int), .slice ao us.length cap] V (DcM W k2 m2 ts o) := by
  refine (mdecode_any k2 m2 ao cap us V hk hm hkm hS hl hc).mono ?_
  rintro r w2 ⟨hB, hcase⟩
  have h1 : Below W.heap.size W w2 := hb.trans (hB.mono hb.size)
  rcases hcase with ⟨i, hg, rfl⟩ | ⟨hg, hn, rfl⟩ | ⟨hg, ob, D, rfl, hby, hfi, hpa, hrow, hob⟩
  · have hi := gcls_lt8 hg
    exact ⟨none, 0, 0, i + 1, rfl, by omega, h1, Below.keeps h1, .inl ⟨i, rfl, hsl.symm.refu (.inl hg), rfl, rfl, rfl⟩⟩
  · exact ⟨none, 0, 0, 9, rfl, by omega, h1, Below.keeps h1, .inl ⟨8, rfl, hsl.symm.refu (.inr ⟨hg, hn, rfl⟩), rfl, rfl, rfl⟩⟩
  · have hR : RowsOk k2 (k2 + m2) (pk o.pick ts) D := hsl.symm.rowsOk ⟨hg, hby, hfi, hpa⟩
    have ho := hg.ol
    refine ⟨_, _, _, 0, rfl, by omega, h1, Below.keeps h1, .inr ⟨rfl, by rw [hsl.ol0], D, ob, hR, rfl, Nat.le_trans hb.size hob, ?_, Nat.le_refl _, by omega⟩⟩
    have e : objOf k2 (pk o.pick ts) D = col k2 (punit (g0of us) k2 (ol0of us).toNat) D := by show col k2 (punit (g0of (pk o.pick ts)) k2 (ol0of (pk o.pick ts)).toNat) D = _; rw [hsl.g0, hsl.ol0]
    rw [e]; exact hrow

set_option maxRecDepth 100000 in
set_option maxHeartbeats 4000000 in
theorem stepM3 {B : Nat} {w : World} {bb sb cb mb k m k2 m2 : Nat} {v1 v2 : Value} {ss ts : List Sd} {pm : Nat} {o : KOp} (h : InM B w bb sb cb mb k m k2 m2 v1 ss v2 ts pm o) (h0 : o.kind = 3) :
    Calls Tryd.prog 16 #[.pointer (some ⟨sb, 0, none⟩), opV o] w (StepM B w bb sb cb mb k m k2 m2 v1 ss v2 ts pm o) := by
  have hP := pro w o
  obtain ⟨W, hW⟩ : ∃ W, (w.alloc (opB o)).alloc ansZ = W := ⟨_, rfl⟩
  rw [hW] at hP
  obtain ⟨hRW, hBW⟩ := begR h.rs hP
  have hg2 := hRW.g2
  have c0 : W.cell? ⟨w.heap.size, 0, none⟩ = some (.int .u8 o.kind) := hP.cell 0
  have c5 : W.cell? ⟨w.heap.size, 5, none⟩ = some (.slice o.pa o.pick.length o.pc) := hP.cell 5
  have d0 := hRW.s0
  have d1 := hRW.s1
  have b0 : ((o.kind : Int) == 0) = false := by simp; omega
  have b1 : ((o.kind : Int) == 1) = false := by simp; omega
  have b2 : ((o.kind : Int) == 2) = false := by simp; omega
  have b3 : ((o.kind : Int) == 3) = true := by simp; omega
  have HRes : Hid (Res W (w.heap.size + 1)) := hP.res
  have HKd : Hid (∀ V, Keeps W V → V.cell? ⟨sb, 0, none⟩ = some (.int .i64 (k2 : Int)) ∧ V.cell? ⟨sb, 1, none⟩ = some (.int .i64 (m2 : Int)) ∧ V.cell? ⟨w.heap.size, 5, none⟩ = some (.slice o.pa o.pick.length o.pc)) := fun V hV => ⟨hV _ _ _ d0, hV _ _ _ d1, hV _ _ _ c5⟩
  have HKW : Hid (Keeps W W.drew) := Below.keeps (Below.refl _ _).drew
  have HPk : Hid (Calls Tryd.prog 46 #[.pointer (some ⟨sb, 0, none⟩), .slice o.pa o.pick.length o.pc] W.drew fun r w' => ∃ ao cap us, r = .returned (.slice ao us.length cap) ∧ us.length ≤ 65536 ∧ us.length ≤ cap ∧ cap ≤ 9223372036854775807 ∧ SdRow w' ao us ∧ SL (pk o.pick ts) us ∧ Below W.heap.size W w' ∧ Keeps W w') := picked_M hRW (h.op.keeps (Below.keeps hP.bel)) h.pm1 W.drew (Below.refl _ _).drew
  have HDc : Hid (∀ V ao us cap, Below W.heap.size W V → SdRow V ao us → us.length ≤ 65536 → us.length ≤ cap → SL (pk o.pick ts) us → Calls Tryd.prog 45 #[.int .i64 (k2 : Int), .int .i64 (m2 : Int), .slice ao us.length cap] V (DcM W k2 m2 ts o)) := fun V ao us cap h1 h2 h3 h4 h5 => decode_M hg2.1 hg2.2.1 hg2.2.2 h1 h2 h3 h4 h5
  have HRW : Hid (RS B W bb sb cb mb k m k2 m2 v1 ss v2 ts pm (fun b => b = w.heap.size + 1)) := hRW
  have HPb : Hid (Below w.heap.size w W) := hP.bel
  have HK0 : Hid (o.kind = 3) := h0
  unfold opB ansZ at hW
  unfold opV
  clear h hP hRW hBW h0 hg2
  go_enter Tryd.func16, Tryd.ntmps16
  go_upto_region 18 with fail
  clear hW c0 c5 d0 d1
  go_region_held3 (fun w' => w'.cell? ⟨sb, 0, none⟩ = some (.int .i64 (k2 : Int)) ∧ w'.cell? ⟨sb, 1, none⟩ = some (.int .i64 (m2 : Int)) ∧ w'.cell? ⟨w.heap.size, 5, none⟩ = some (.slice o.pa o.pick.length o.pc))
    (first | with_reducible exact HKd.out _ HKW.out | with_reducible exact HKd.out _ HK1.out | with_reducible exact HKd.out _ HK2.out)
    (first
      | (go_at_call 46; refine HPk.out.mono ?_; rintro r w1 ⟨ao, cap, us, rfl, hl1, hc1, hc2, hs1, hsl, hb1, hk1⟩; have HL1 : Hid (us.length ≤ 65536) := hl1; have HC1 : Hid (us.length ≤ cap) := hc1; have HS1 : Hid (SdRow w1 ao us) := hs1; have HSL : Hid (SL (pk o.pick ts) us) := hsl; have HB1 : Hid (Below W.heap.size W w1) := hb1; have HK1 : Hid (Keeps W w1) := hk1; clear hl1 hc1 hc2 hs1 hsl hb1 hk1)
      | (go_at_call 45; refine (HDc.out _ _ _ _ HB1.out HS1.out HL1.out HC1.out HSL.out).mono ?_; rintro r w2 ⟨a, n, c, x, rfl, hx, hb2, hk2, hcase⟩; have HB2 : Hid (Below W.heap.size W w2) := hb2; have HK2 : Hid (Keeps W w2) := hk2; have HCs : Hid ((∃ i, x = i + 1 ∧ Refu k2 (k2 + m2) (pk o.pick ts) i ∧ a = none ∧ n = 0 ∧ c = 0) ∨ (x = 0 ∧ n = (ol0of (pk o.pick ts)).toNat ∧ ∃ D ob, RowsOk k2 (k2 + m2) (pk o.pick ts) D ∧ a = some ⟨ob, 0, none⟩ ∧ W.heap.size ≤ ob ∧ Row w2 ob n (objOf k2 (pk o.pick ts) D) ∧ n ≤ c ∧ c ≤ 9223372036854775807)) := hcase; clear hb2 hk2 hcase))
  clear HPk HDc HKd HKW HK1 HS1 HB1 HSL HL1 HC1
  have hres3 : Res w2 (w.heap.size + 1) := HRes.out.below HB2.out
  have HR3 : Hid (Res w2 (w.heap.size + 1)) := hres3
  obtain ⟨r0, r1, r2, r3, r4, rf⟩ := hres3.cells
  have HF : Hid (StepM B w bb sb cb mb k m k2 m2 v1 ss v2 ts pm o (.returned (.agg #[.int .u8 (x : Int), .slice a n c, .slice none 0 0, .slice none 0 0, .int .i64 0])) (ansW w2 (w.heap.size + 1) (.int .u8 (x : Int)) (.slice a n c) (.slice none 0 0) (.slice none 0 0) (.int .i64 0))) := by
    rcases HCs.out with ⟨i, hx, hr, rfl, rfl, rfl⟩ | ⟨hx, hn, D, ob, hD, rfl, hob, hrow, _⟩
    · rw [hx]
      exact finM0 HRW.out HPb.out HB2.out (Spec.k3 HK0.out ⟨Stay.refl _ _ _, .inl ⟨i, hr, AnsEq.refl _⟩⟩) (fun w3 _ => AnsOk.num w3 (i + 1) 0)
    · rw [hx]
      have ho := hD.good.ol
      refine finM0 HRW.out HPb.out HB2.out (A := { ansE 0 with D := n, df := objOf k2 (pk o.pick ts) D }) (Spec.k3 HK0.out ⟨Stay.refl _ _ _, .inr ⟨D, hD, by rw [hn]; exact AnsEq.refl _⟩⟩) (fun w3 hC => AnsOk.bytes (er := 0) (hrow.frow.chg hC (fun _ b o' hb' => ?_)) (by omega))
      cases hb'
      exact HRW.out.farR hob
  clear hres3 HRes HRW HPb HB2 HK2 HCs HK0
  go_wp2
  exact retM rfl rfl HR3.out HF.out
end Go.Proofs.Qxb6500697aDoor
