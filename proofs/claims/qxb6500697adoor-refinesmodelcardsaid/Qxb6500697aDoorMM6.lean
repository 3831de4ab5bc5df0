/-
  THE MODEL's STEP: KConvert, KShardLen.
-/
import Derived.Test.Qxb6500697aDoorMM3
namespace Go.Proofs.Qxb6500697aDoor
open Go.RowKit

/-- What Encode of the model gives a step. -/
def EcM (W : World) (k m g n : Nat) (f : Nat → Nat) (r : Ending) (w1 : World) : Prop := ∃ HS N ls, r = .returned (.tuple #[.slice (some ⟨HS, 0, none⟩) N N, .int .u8 0]) ∧ N = k + m ∧ ls.length = N ∧ SdRow w1 (some ⟨HS, 0, none⟩) ls ∧ SL ls (encL k m g n f) ∧ (∀ s ∈ ls, s.pl ≤ 4096) ∧ W.heap.size ≤ HS ∧ (∀ s ∈ ls, 0 < s.pl → ∀ b o', s.pa = some ⟨b, o', none⟩ → W.heap.size ≤ b) ∧ Below W.heap.size W w1 ∧ Keeps W w1
theorem encode_M {W V : World} {k m g n oc : Nat} {oa : Option Addr} {f : Nat → Nat} (hk : 1 ≤ k) (hm : 1 ≤ m) (hkm : k + m ≤ 16) (hb : Below W.heap.size W V) (hO : FRow V oa n f) (hg : goodG g) (hn : n ≤ 256) (h1 : n ≤ oc) (h2 : oc ≤ 9223372036854775807) :
    Calls Tryd.prog 43 #[.int .i64 (k : Int), .int .i64 (m : Int), .int .u8 (g : Int), .slice oa n oc] V (EcM W k m g n f) := by
  refine (mencode_ok k m g n oc oa f V hk hm hkm hO hg hn h1 h2).mono ?_
  rintro r w1 ⟨HS, B, rfl, hE⟩
  have hps := psize_le g k n hk hn
  have hB : Below W.heap.size W w1 := hb.trans (hE.bel.mono hb.size)
  have hgl : g < 256 := by rcases hg with h | h | h <;> omega
  have hhs := hE.hs
  have hoff := hE.off
  have hbs := hb.size
  have hSA : ShardsAt w1 HS (k + m) g n (psize g k n) (fun i => B + i) (fun _ => 0) (pay g k n f) := ⟨hE.hdr, fun i hi => (hE.row i hi).frow, fun i _ => by show B + i ≠ HS; omega⟩
  refine ⟨HS, k + m, shL (k + m) g n (psize g k n) (fun i => B + i) (fun _ => 0) (pay g k n f), rfl, rfl, shL_len _ _ _ _ _ _ _, hSA.sdrow hgl (by omega) (by omega) hps, shL_sl _ _ _ _ _ _ _, fun s hs => ?_, by omega, fun s hs h0 b o' he => ?_, hB, Below.keeps hB⟩
  · obtain ⟨i, hi, rfl⟩ := List.mem_map.1 hs
    exact hps
  · obtain ⟨i, hi, rfl⟩ := List.mem_map.1 hs
    have e : B + i = b := congrArg (fun x : Option Addr => (x.getD ⟨0, 0, none⟩).block) he
    omega
theorem genOk_good {g : Nat} (h : goodG g) : genOk g = true := by rcases h with rfl | rfl | rfl <;> rfl
theorem genOk_bad {g : Nat} (h : ¬ goodG g) : genOk g = false := by
  unfold genOk
  unfold goodG at h
  simp
  omega

set_option maxRecDepth 100000 in
set_option maxHeartbeats 4000000 in
theorem stepM9_gen {B : Nat} {w : World} {bb sb cb mb k m k2 m2 : Nat} {v1 v2 : Value} {ss ts : List Sd} {pm : Nat} {o : KOp} (h : InM B w bb sb cb mb k m k2 m2 v1 ss v2 ts pm o) (h0 : o.kind = 9) (hg : ¬ goodG o.gen) :
    Calls Tryd.prog 16 #[.pointer (some ⟨sb, 0, none⟩), opV o] w (StepM B w bb sb cb mb k m k2 m2 v1 ss v2 ts pm o) := by
  have hP := pro w o
  obtain ⟨W, hW⟩ : ∃ W, (w.alloc (opB o)).alloc ansZ = W := ⟨_, rfl⟩
  rw [hW] at hP
  obtain ⟨hRW, hBW⟩ := begR h.rs hP
  have hg2 := hRW.g2
  have c0 : W.cell? ⟨w.heap.size, 0, none⟩ = some (.int .u8 o.kind) := hP.cell 0
  have c3 : W.cell? ⟨w.heap.size, 3, none⟩ = some (.int .u8 o.gen) := hP.cell 3
  have c5 : W.cell? ⟨w.heap.size, 5, none⟩ = some (.slice o.pa o.pick.length o.pc) := hP.cell 5
  have c8 : W.cell? ⟨w.heap.size, 8, none⟩ = some (.int .i64 o.value) := hP.cell 8
  have d0 := hRW.s0
  have d1 := hRW.s1
  have b0 : ((o.kind : Int) == 0) = false := by simp; omega
  have b1 : ((o.kind : Int) == 1) = false := by simp; omega
  have b2 : ((o.kind : Int) == 2) = false := by simp; omega
  have b3 : ((o.kind : Int) == 3) = false := by simp; omega
  have b4 : ((o.kind : Int) == 4) = false := by simp; omega
  have b5 : ((o.kind : Int) == 5) = false := by simp; omega
  have b6 : ((o.kind : Int) == 6) = false := by simp; omega
  have b7 : ((o.kind : Int) == 7) = false := by simp; omega
  have b8 : ((o.kind : Int) == 8) = false := by simp; omega
  have b9 : ((o.kind : Int) == 9) = true := by simp; omega
  have HRes : Hid (Res W (w.heap.size + 1)) := hP.res
  have HRW : Hid (RS B W bb sb cb mb k m k2 m2 v1 ss v2 ts pm (fun b => b = w.heap.size + 1)) := hRW
  have HPb : Hid (Below w.heap.size w W) := hP.bel
  have HK0 : Hid (o.kind = 9) := h0
  have HGn : Hid _ := goodGen_any o.gen W h.op.hgen
  rw [genOk_bad hg] at HGn
  unfold opB ansZ at hW
  unfold opV
  clear h hP hRW hBW h0 hg2
  go_enter Tryd.func16, Tryd.ntmps16
  have hres3 : Res W (w.heap.size + 1) := HRes.out
  obtain ⟨r0, r1, r2, r3, r4, rf⟩ := hres3.cells
  have HF : Hid (StepM B w bb sb cb mb k m k2 m2 v1 ss v2 ts pm o (.returned (.agg #[.int .u8 2, .slice none 0 0, .slice none 0 0, .slice none 0 0, .int .i64 0])) (ansW W (w.heap.size + 1) (.int .u8 2) (.slice none 0 0) (.slice none 0 0) (.slice none 0 0) (.int .i64 0))) :=
    finM0 HRW.out HPb.out (Below.refl _ _) (Spec.k9 HK0.out ⟨Stay.refl _ _ _, .inl ⟨hg, AnsEq.refl _⟩⟩) (fun w3 _ => AnsOk.num w3 2 0)
  clear hres3 HRW HPb HK0 hg
  go_wp2_with fail
  refine Calls.mono HGn.out ?_
  rintro r w9 ⟨rfl, hw⟩
  rw [hw]
  clear hw w9 HGn
  go_wp2
  exact retM rfl rfl HRes.out HF.out

set_option maxRecDepth 100000 in
set_option maxHeartbeats 4000000 in
theorem stepM9_neg {B : Nat} {w : World} {bb sb cb mb k m k2 m2 : Nat} {v1 v2 : Value} {ss ts : List Sd} {pm : Nat} {o : KOp} (h : InM B w bb sb cb mb k m k2 m2 v1 ss v2 ts pm o) (h0 : o.kind = 9) (hg : goodG o.gen) (hv : o.value < 0) :
    Calls Tryd.prog 16 #[.pointer (some ⟨sb, 0, none⟩), opV o] w (StepM B w bb sb cb mb k m k2 m2 v1 ss v2 ts pm o) := by
  have hP := pro w o
  obtain ⟨W, hW⟩ : ∃ W, (w.alloc (opB o)).alloc ansZ = W := ⟨_, rfl⟩
  rw [hW] at hP
  obtain ⟨hRW, hBW⟩ := begR h.rs hP
  have hg2 := hRW.g2
  have c0 : W.cell? ⟨w.heap.size, 0, none⟩ = some (.int .u8 o.kind) := hP.cell 0
  have c3 : W.cell? ⟨w.heap.size, 3, none⟩ = some (.int .u8 o.gen) := hP.cell 3
  have c5 : W.cell? ⟨w.heap.size, 5, none⟩ = some (.slice o.pa o.pick.length o.pc) := hP.cell 5
  have c8 : W.cell? ⟨w.heap.size, 8, none⟩ = some (.int .i64 o.value) := hP.cell 8
  have d0 := hRW.s0
  have d1 := hRW.s1
  have b0 : ((o.kind : Int) == 0) = false := by simp; omega
  have b1 : ((o.kind : Int) == 1) = false := by simp; omega
  have b2 : ((o.kind : Int) == 2) = false := by simp; omega
  have b3 : ((o.kind : Int) == 3) = false := by simp; omega
  have b4 : ((o.kind : Int) == 4) = false := by simp; omega
  have b5 : ((o.kind : Int) == 5) = false := by simp; omega
  have b6 : ((o.kind : Int) == 6) = false := by simp; omega
  have b7 : ((o.kind : Int) == 7) = false := by simp; omega
  have b8 : ((o.kind : Int) == 8) = false := by simp; omega
  have b9 : ((o.kind : Int) == 9) = true := by simp; omega
  have HRes : Hid (Res W (w.heap.size + 1)) := hP.res
  have HRW : Hid (RS B W bb sb cb mb k m k2 m2 v1 ss v2 ts pm (fun b => b = w.heap.size + 1)) := hRW
  have HPb : Hid (Below w.heap.size w W) := hP.bel
  have HK0 : Hid (o.kind = 9) := h0
  have HGn : Hid _ := goodGen_any o.gen W h.op.hgen
  rw [genOk_good hg] at HGn
  unfold opB ansZ at hW
  unfold opV
  clear h hP hRW hBW h0 hg2
  go_enter Tryd.func16, Tryd.ntmps16
  have hres3 : Res W (w.heap.size + 1) := HRes.out
  obtain ⟨r0, r1, r2, r3, r4, rf⟩ := hres3.cells
  have HF : Hid (StepM B w bb sb cb mb k m k2 m2 v1 ss v2 ts pm o (.returned (.agg #[.int .u8 3, .slice none 0 0, .slice none 0 0, .slice none 0 0, .int .i64 0])) (ansW W (w.heap.size + 1) (.int .u8 3) (.slice none 0 0) (.slice none 0 0) (.slice none 0 0) (.int .i64 0))) :=
    finM0 HRW.out HPb.out (Below.refl _ _) (Spec.k9 HK0.out ⟨Stay.refl _ _ _, .inr (.inl ⟨hg, .inl hv, AnsEq.refl _⟩)⟩) (fun w3 _ => AnsOk.num w3 3 0)
  clear hres3 HRW HPb HK0 hg
  go_wp2_with fail
  refine Calls.mono HGn.out ?_
  rintro r w9 ⟨rfl, hw⟩
  rw [hw]
  clear hw w9 HGn
  go_wp2
  exact retM rfl rfl HRes.out HF.out

set_option maxRecDepth 100000 in
set_option maxHeartbeats 4000000 in
theorem stepM9_big {B : Nat} {w : World} {bb sb cb mb k m k2 m2 : Nat} {v1 v2 : Value} {ss ts : List Sd} {pm : Nat} {o : KOp} (h : InM B w bb sb cb mb k m k2 m2 v1 ss v2 ts pm o) (h0 : o.kind = 9) (hg : goodG o.gen) (hv : 256 < o.value) :
    Calls Tryd.prog 16 #[.pointer (some ⟨sb, 0, none⟩), opV o] w (StepM B w bb sb cb mb k m k2 m2 v1 ss v2 ts pm o) := by
  have hP := pro w o
  obtain ⟨W, hW⟩ : ∃ W, (w.alloc (opB o)).alloc ansZ = W := ⟨_, rfl⟩
  rw [hW] at hP
  obtain ⟨hRW, hBW⟩ := begR h.rs hP
  have hg2 := hRW.g2
  have c0 : W.cell? ⟨w.heap.size, 0, none⟩ = some (.int .u8 o.kind) := hP.cell 0
  have c3 : W.cell? ⟨w.heap.size, 3, none⟩ = some (.int .u8 o.gen) := hP.cell 3
  have c5 : W.cell? ⟨w.heap.size, 5, none⟩ = some (.slice o.pa o.pick.length o.pc) := hP.cell 5
  have c8 : W.cell? ⟨w.heap.size, 8, none⟩ = some (.int .i64 o.value) := hP.cell 8
  have d0 := hRW.s0
  have d1 := hRW.s1
  have b0 : ((o.kind : Int) == 0) = false := by simp; omega
  have b1 : ((o.kind : Int) == 1) = false := by simp; omega
  have b2 : ((o.kind : Int) == 2) = false := by simp; omega
  have b3 : ((o.kind : Int) == 3) = false := by simp; omega
  have b4 : ((o.kind : Int) == 4) = false := by simp; omega
  have b5 : ((o.kind : Int) == 5) = false := by simp; omega
  have b6 : ((o.kind : Int) == 6) = false := by simp; omega
  have b7 : ((o.kind : Int) == 7) = false := by simp; omega
  have b8 : ((o.kind : Int) == 8) = false := by simp; omega
  have b9 : ((o.kind : Int) == 9) = true := by simp; omega
  have HRes : Hid (Res W (w.heap.size + 1)) := hP.res
  have HRW : Hid (RS B W bb sb cb mb k m k2 m2 v1 ss v2 ts pm (fun b => b = w.heap.size + 1)) := hRW
  have HPb : Hid (Below w.heap.size w W) := hP.bel
  have HK0 : Hid (o.kind = 9) := h0
  have HGn : Hid _ := goodGen_any o.gen W h.op.hgen
  rw [genOk_good hg] at HGn
  have hv0 : ¬ o.value < 0 := by omega
  unfold opB ansZ at hW
  unfold opV
  clear h hP hRW hBW h0 hg2
  go_enter Tryd.func16, Tryd.ntmps16
  have hres3 : Res W (w.heap.size + 1) := HRes.out
  obtain ⟨r0, r1, r2, r3, r4, rf⟩ := hres3.cells
  have HF : Hid (StepM B w bb sb cb mb k m k2 m2 v1 ss v2 ts pm o (.returned (.agg #[.int .u8 3, .slice none 0 0, .slice none 0 0, .slice none 0 0, .int .i64 0])) (ansW W (w.heap.size + 1) (.int .u8 3) (.slice none 0 0) (.slice none 0 0) (.slice none 0 0) (.int .i64 0))) :=
    finM0 HRW.out HPb.out (Below.refl _ _) (Spec.k9 HK0.out ⟨Stay.refl _ _ _, .inr (.inl ⟨hg, .inr hv, AnsEq.refl _⟩)⟩) (fun w3 _ => AnsOk.num w3 3 0)
  clear hres3 HRW HPb HK0 hg
  go_wp2_with fail
  refine Calls.mono HGn.out ?_
  rintro r w9 ⟨rfl, hw⟩
  rw [hw]
  clear hw w9 HGn
  go_wp2
  exact retM rfl rfl HRes.out HF.out

set_option maxRecDepth 100000 in
set_option maxHeartbeats 4000000 in
theorem stepM9_ok {B : Nat} {w : World} {bb sb cb mb k m k2 m2 : Nat} {v1 v2 : Value} {ss ts : List Sd} {pm : Nat} {o : KOp} (h : InM B w bb sb cb mb k m k2 m2 v1 ss v2 ts pm o) (h0 : o.kind = 9) (hg : goodG o.gen) (n : Nat) (hv : o.value = (n : Int)) (hn : n ≤ 256) :
    Calls Tryd.prog 16 #[.pointer (some ⟨sb, 0, none⟩), opV o] w (StepM B w bb sb cb mb k m k2 m2 v1 ss v2 ts pm o) := by
  have hP := pro w o
  obtain ⟨W, hW⟩ : ∃ W, (w.alloc (opB o)).alloc ansZ = W := ⟨_, rfl⟩
  rw [hW] at hP
  obtain ⟨hRW, hBW⟩ := begR h.rs hP
  have hg2 := hRW.g2
  have c0 : W.cell? ⟨w.heap.size, 0, none⟩ = some (.int .u8 o.kind) := hP.cell 0
  have c3 : W.cell? ⟨w.heap.size, 3, none⟩ = some (.int .u8 o.gen) := hP.cell 3
  have c5 : W.cell? ⟨w.heap.size, 5, none⟩ = some (.slice o.pa o.pick.length o.pc) := hP.cell 5
  have c8 : W.cell? ⟨w.heap.size, 8, none⟩ = some (.int .i64 o.value) := hP.cell 8
  have d0 := hRW.s0
  have d1 := hRW.s1
  have b0 : ((o.kind : Int) == 0) = false := by simp; omega
  have b1 : ((o.kind : Int) == 1) = false := by simp; omega
  have b2 : ((o.kind : Int) == 2) = false := by simp; omega
  have b3 : ((o.kind : Int) == 3) = false := by simp; omega
  have b4 : ((o.kind : Int) == 4) = false := by simp; omega
  have b5 : ((o.kind : Int) == 5) = false := by simp; omega
  have b6 : ((o.kind : Int) == 6) = false := by simp; omega
  have b7 : ((o.kind : Int) == 7) = false := by simp; omega
  have b8 : ((o.kind : Int) == 8) = false := by simp; omega
  have b9 : ((o.kind : Int) == 9) = true := by simp; omega
  have HRes : Hid (Res W (w.heap.size + 1)) := hP.res
  have HRW : Hid (RS B W bb sb cb mb k m k2 m2 v1 ss v2 ts pm (fun b => b = w.heap.size + 1)) := hRW
  have HPb : Hid (Below w.heap.size w W) := hP.bel
  have HK0 : Hid (o.kind = 9) := h0
  have HGn : Hid _ := goodGen_any o.gen W h.op.hgen
  rw [genOk_good hg] at HGn
  rw [hv] at c8
  have hv0 : ¬ (n : Int) < 0 := by omega
  have hv1 : ¬ (256 : Int) < (n : Int) := by omega
  have hps := psize_le o.gen k2 n hg2.1 hn
  obtain ⟨q, hq⟩ : ∃ q, psize o.gen k2 n = q := ⟨_, rfl⟩
  rw [hq] at hps
  have HSl : Hid (Calls Tryd.prog 48 #[.int .u8 (o.gen : Int), .int .i64 (k2 : Int), .int .i64 (n : Int)] W.drew fun r w' => r = .returned (.int .i64 (q : Int)) ∧ Below W.heap.size W w') := by
    have := mshardLen_any o.gen k2 n W.drew h.op.hgen hg2.1 (by omega) hn
    rw [hq] at this
    exact this.mono (fun r w' ⟨h1, h2⟩ => ⟨h1, by rw [h2]; exact (Below.refl _ _).drew⟩)
  have HSp : Hid (Spec k2 m2 ts o { ansE 0 with n := (q : Int) } k2 m2 ts) := Spec.k9 h0 ⟨Stay.refl _ _ _, .inr (.inr ⟨hg, by omega, by omega, by rw [hv, Int.toNat_natCast, hq]; exact AnsEq.refl _⟩)⟩
  unfold opB ansZ at hW
  unfold opV
  clear h hP hRW hBW h0 hg2
  go_enter Tryd.func16, Tryd.ntmps16
  rw [hv] at hW ⊢
  have hres3 : Res W (w.heap.size + 1) := HRes.out
  obtain ⟨r0, r1, r2, r3, r4, rf⟩ := hres3.cells
  have hsR : sb ≠ w.heap.size + 1 := Ne.symm (HRW.out.hz _ rfl).2.2.2.1
  have HKs : Hid (∀ V a b c d e, Below W.heap.size W V → (ansW V (w.heap.size + 1) a b c d e).cell? ⟨sb, 0, none⟩ = some (.int .i64 (k2 : Int)) ∧ (ansW V (w.heap.size + 1) a b c d e).cell? ⟨w.heap.size, 3, none⟩ = some (.int .u8 (o.gen : Int)) ∧ (ansW V (w.heap.size + 1) a b c d e).cell? ⟨w.heap.size, 8, none⟩ = some (.int .i64 (n : Int))) := fun V a b c d e hb => by
    have hO := ansW_only V (w.heap.size + 1) a b c d e
    have f : ∀ b' i u, b' ≠ w.heap.size + 1 → W.cell? ⟨b', i, none⟩ = some u → (ansW V (w.heap.size + 1) a b c d e).cell? ⟨b', i, none⟩ = some u := fun b' i u hne hu => (World.cell?_of_block (a := ⟨b', i, none⟩) (hO.block b' hne)).trans (Below.keeps hb _ _ _ hu)
    exact ⟨f _ _ _ hsR d0, f _ _ _ (by omega) c3, f _ _ _ (by omega) c8⟩
  have HKW : Hid (∀ V, Below W.heap.size W V → V.cell? ⟨sb, 0, none⟩ = some (.int .i64 (k2 : Int)) ∧ V.cell? ⟨w.heap.size, 3, none⟩ = some (.int .u8 (o.gen : Int)) ∧ V.cell? ⟨w.heap.size, 8, none⟩ = some (.int .i64 (n : Int))) := fun V hb => ⟨Below.keeps hb _ _ _ d0, Below.keeps hb _ _ _ c3, Below.keeps hb _ _ _ c8⟩
  have HF : Hid (∀ V, Below W.heap.size W V → StepM B w bb sb cb mb k m k2 m2 v1 ss v2 ts pm o (.returned (.agg #[.int .u8 0, .slice none 0 0, .slice none 0 0, .slice none 0 0, .int .i64 (q : Int)])) (ansW V (w.heap.size + 1) (.int .u8 0) (.slice none 0 0) (.slice none 0 0) (.slice none 0 0) (.int .i64 (q : Int)))) := fun V hb =>
    finM0 HRW.out HPb.out hb HSp.out (fun w3 _ => AnsOk.num w3 0 _)
  have HRV : Hid (∀ V, Below W.heap.size W V → Res V (w.heap.size + 1)) := fun V hb => HRes.out.below hb
  unfold ansW at HKs
  clear hres3 HRW HPb HK0 hg hsR HSp hq
  go_wp2_with fail
  refine Calls.mono HGn.out ?_
  rintro r w9 ⟨rfl, hw⟩
  rw [hw]
  clear hw w9 HGn
  go_upto_region 87 with fail
  clear hW c0 c3 c5 c8 d0 d1
  go_region_held3 (fun w' => w'.cell? ⟨sb, 0, none⟩ = some (.int .i64 (k2 : Int)) ∧ w'.cell? ⟨w.heap.size, 3, none⟩ = some (.int .u8 (o.gen : Int)) ∧ w'.cell? ⟨w.heap.size, 8, none⟩ = some (.int .i64 (n : Int)))
    (first | with_reducible exact HKW.out _ (Below.refl _ _).drew | with_reducible exact HKW.out _ HB9.out | with_reducible exact HKs.out _ _ _ _ _ _ HB9.out)
    (first | (go_at_call 48; refine HSl.out.mono ?_; rintro r w9 ⟨rfl, hb9⟩; have HB9 : Hid (Below W.heap.size W w9) := hb9; obtain ⟨t0, t1, t2, t3, t4, tf⟩ := (HRV.out w9 hb9).cells; clear hb9))
  go_wp2
  exact retM rfl rfl (HRV.out _ HB9.out) (HF.out _ HB9.out)
theorem stepM9 {B : Nat} {w : World} {bb sb cb mb k m k2 m2 : Nat} {v1 v2 : Value} {ss ts : List Sd} {pm : Nat} {o : KOp} (h : InM B w bb sb cb mb k m k2 m2 v1 ss v2 ts pm o) (h0 : o.kind = 9) :
    Calls Tryd.prog 16 #[.pointer (some ⟨sb, 0, none⟩), opV o] w (StepM B w bb sb cb mb k m k2 m2 v1 ss v2 ts pm o) := by
  by_cases hg : goodG o.gen
  · by_cases h1 : o.value < 0
    · exact stepM9_neg h h0 hg h1
    · by_cases h2 : 256 < o.value
      · exact stepM9_big h h0 hg h2
      · exact stepM9_ok h h0 hg o.value.toNat (by omega) (by omega)
  · exact stepM9_gen h h0 hg
end Go.Proofs.Qxb6500697aDoor
