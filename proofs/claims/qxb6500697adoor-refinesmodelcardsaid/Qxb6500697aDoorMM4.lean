/-
  THE MODEL's STEP: KRebuild.
-/
import Derived.Test.Qxb6500697aDoorMM6
namespace Go.Proofs.Qxb6500697aDoor
open Go.RowKit

/-- What Encode deals from decoded rows is what the rows give. -/
theorem RowsOk.enc {k m : Nat} {l : List Sd} {D : Nat → Nat → Nat} (h : RowsOk k (k + m) l D) (hk : 1 ≤ k) (hN : k + m ≤ 16) (i : Nat) : (sdOf (g0of l) (ol0of l).toNat (psize (g0of l) k (ol0of l).toNat) (pay (g0of l) k (ol0of l).toNat (objOf k l D)) i).same (remOf k l D i) := by
  obtain ⟨_, hb, he⟩ := h.norm hk
  refine ⟨rfl, rfl, rfl, rfl, fun c hc => ?_⟩
  show pay (g0of l) k (ol0of l).toNat (objOf k l D) i c = gdot (genr (g0of l) k i) (fun j => D j c) k
  rw [pay_dot _ _ _ _ (by omega) hb]
  exact gdot_congr (fun _ _ => rfl) (fun j hj => he j hj c hc)
theorem SL.enc_at {k m g n : Nat} {f : Nat → Nat} {ls : List Sd} (h : SL ls (encL k m g n f)) {i : Nat} (hi : i < k + m) : (ls.getD i Sd.zero).same (sdOf g n (psize g k n) (pay g k n f) i) := by
  have hl : (encL k m g n f).length = k + m := by unfold encL; simp
  have h1 := h.eq i (by rw [h.len, hl]; exact hi)
  have e : (encL k m g n f).getD i Sd.zero = sdOf g n (psize g k n) (pay g k n f) i := by
    rw [getD_lt (by rw [hl]; exact hi)]
    simp [encL]
  rw [e] at h1
  exact h1
/-- A shard out of a row. -/
theorem SdRow.one {w : World} {H i : Nat} {ls : List Sd} (h : SdRow w (some ⟨H, 0, none⟩) ls) (hi : i < ls.length) : OSdRow w (some ⟨H, i * 4, none⟩) [ls.getD i Sd.zero] := by
  refine ⟨fun _ => ⟨H, i * 4, rfl, fun j hj => ?_⟩, fun s hs => ?_⟩
  · have h0 : j = 0 := by simp at hj; omega
    subst h0
    obtain ⟨b, he, c0, c1, c2, c3⟩ := h.at_ hi
    obtain rfl : H = b := congrArg (fun x : Option Addr => (x.getD ⟨0, 0, none⟩).block) he
    rw [getD_lt hi]
    simp only [Nat.zero_mul, Nat.add_zero, List.getElem_singleton]
    exact ⟨c0, c1, c2, c3⟩
  · rw [List.mem_singleton.1 hs, getD_lt hi]
    exact h.ok _ (List.getElem_mem hi)
theorem AnsOk.one {w : World} {ao : Option Addr} {c : Nat} {s : Sd} (h : OSdRow w ao [s]) (hp : s.pl ≤ 65536) : AnsOk w (.agg #[.int .u8 0, .slice none 0 0, .slice ao 1 c, .slice none 0 0, .int .i64 0]) { ansE 0 with sh := [s] } :=
  ⟨none, 0, ao, c, none, 0, rfl, FRow.nil _ _ _, h, ZRow.nil _ _ _, Nat.zero_le _, by simp, Nat.zero_le _, by intro s' hs; rw [List.mem_singleton.1 hs]; exact hp⟩
/-- The first of a list. -/
theorem SdRow.first {w : World} {ao : Option Addr} {us : List Sd} (h : SdRow w ao us) (h0 : 0 < us.length) : ∃ b, ao = some ⟨b, 0, none⟩ ∧ w.cell? ⟨b, 0, none⟩ = some (.int .u8 (g0of us)) := by
  obtain ⟨b, he, c0, _⟩ := h.at_ h0
  refine ⟨b, he, ?_⟩
  rw [Nat.zero_mul] at c0
  rw [c0]
  have e : g0of us = us[0].g := by
    cases us with
    | nil => simp at h0
    | cons a l => rfl
  rw [e]
theorem Good.g0 {k N : Nat} {l : List Sd} (h : Good k N l) : goodG (g0of l) := by
  obtain ⟨x, hx⟩ := List.exists_mem_of_ne_nil _ h.ne
  have h1 := (h.fit x hx).hg
  have h2 := (h.fit x hx).same
  rw [← h2]; exact h1

set_option maxRecDepth 100000 in
set_option maxHeartbeats 4000000 in
theorem stepM4_neg {B : Nat} {w : World} {bb sb cb mb k m k2 m2 : Nat} {v1 v2 : Value} {ss ts : List Sd} {pm : Nat} {o : KOp} (h : InM B w bb sb cb mb k m k2 m2 v1 ss v2 ts pm o) (h0 : o.kind = 4) (hv : o.index < 0) :
    Calls Tryd.prog 16 #[.pointer (some ⟨sb, 0, none⟩), opV o] w (StepM B w bb sb cb mb k m k2 m2 v1 ss v2 ts pm o) := by
  have hP := pro w o
  obtain ⟨W, hW⟩ : ∃ W, (w.alloc (opB o)).alloc ansZ = W := ⟨_, rfl⟩
  rw [hW] at hP
  obtain ⟨hRW, hBW⟩ := begR h.rs hP
  have hg2 := hRW.g2
  have HRW : Hid (RS B W bb sb cb mb k m k2 m2 v1 ss v2 ts pm (fun b => b = w.heap.size + 1)) := hRW
  have HPb : Hid (Below w.heap.size w W) := hP.bel
  have HRes : Hid (Res W (w.heap.size + 1)) := hP.res
  have HK0 : Hid (o.kind = 4) := h0
  have c0 : W.cell? ⟨w.heap.size, 0, none⟩ = some (.int .u8 o.kind) := hP.cell 0
  have c5 : W.cell? ⟨w.heap.size, 5, none⟩ = some (.slice o.pa o.pick.length o.pc) := hP.cell 5
  have d0 := hRW.s0
  have d1 := hRW.s1
  have b0 : ((o.kind : Int) == 0) = false := by simp; omega
  have b1 : ((o.kind : Int) == 1) = false := by simp; omega
  have b2 : ((o.kind : Int) == 2) = false := by simp; omega
  have b3 : ((o.kind : Int) == 3) = false := by simp; omega
  have b4 : ((o.kind : Int) == 4) = true := by simp; omega
  have HKW : Hid (Keeps W W.drew) := Below.keeps (Below.refl _ _).drew
  have c6 : W.cell? ⟨w.heap.size, 6, none⟩ = some (.int .i64 o.index) := hP.cell 6
  have HKd : Hid (∀ V, Keeps W V → V.cell? ⟨sb, 0, none⟩ = some (.int .i64 (k2 : Int)) ∧ V.cell? ⟨sb, 1, none⟩ = some (.int .i64 (m2 : Int)) ∧ V.cell? ⟨w.heap.size, 6, none⟩ = some (.int .i64 o.index)) := fun V hV => ⟨hV _ _ _ d0, hV _ _ _ d1, hV _ _ _ c6⟩
  have HSp : Hid (Spec k2 m2 ts o (ansE 4) k2 m2 ts) := Spec.k4 h0 ⟨Stay.refl _ _ _, .inl ⟨.inl hv, AnsEq.refl _⟩⟩
  have hk16 := hg2.2.2
  unfold opB ansZ at hW
  unfold opV
  clear h hP hRW hBW h0 hg2
  go_enter Tryd.func16, Tryd.ntmps16
  go_upto_region 21 with fail
  go_quiet (fail)
  clear hW c0 d0 d1
  obtain ⟨X, hX⟩ : ∃ X, W.drewN nq = X := ⟨_, rfl⟩
  have hbX : Below W.heap.size W X := by rw [← hX]; exact drewN_below _ _ _
  have HBX : Hid (Below W.heap.size W X) := hbX
  simp only [hX]
  have hresX : Res X (w.heap.size + 1) := HRes.out.below HBX.out
  have HRX : Hid (Res X (w.heap.size + 1)) := hresX
  obtain ⟨r0, r1, r2, r3, r4, rf⟩ := hresX.cells
  have HF : Hid (StepM B w bb sb cb mb k m k2 m2 v1 ss v2 ts pm o (.returned (.agg #[.int .u8 4, .slice none 0 0, .slice none 0 0, .slice none 0 0, .int .i64 0])) (ansW X (w.heap.size + 1) (.int .u8 4) (.slice none 0 0) (.slice none 0 0) (.slice none 0 0) (.int .i64 0))) :=
    finM0 HRW.out HPb.out HBX.out HSp.out (fun w3 _ => AnsOk.num w3 4 0)
  clear hresX HRW HPb HK0 HSp hbX hX HBX HKd HKW HRes c5 c6
  go_wp2
  exact retM rfl rfl HRX.out HF.out

set_option maxRecDepth 100000 in
set_option maxHeartbeats 4000000 in
theorem stepM4_big {B : Nat} {w : World} {bb sb cb mb k m k2 m2 : Nat} {v1 v2 : Value} {ss ts : List Sd} {pm : Nat} {o : KOp} (h : InM B w bb sb cb mb k m k2 m2 v1 ss v2 ts pm o) (h0 : o.kind = 4) (ix : Nat) (hix : o.index = (ix : Int)) (hv : k2 + m2 ≤ ix) :
    Calls Tryd.prog 16 #[.pointer (some ⟨sb, 0, none⟩), opV o] w (StepM B w bb sb cb mb k m k2 m2 v1 ss v2 ts pm o) := by
  have hP := pro w o
  obtain ⟨W, hW⟩ : ∃ W, (w.alloc (opB o)).alloc ansZ = W := ⟨_, rfl⟩
  rw [hW] at hP
  obtain ⟨hRW, hBW⟩ := begR h.rs hP
  have hg2 := hRW.g2
  have HRW : Hid (RS B W bb sb cb mb k m k2 m2 v1 ss v2 ts pm (fun b => b = w.heap.size + 1)) := hRW
  have HPb : Hid (Below w.heap.size w W) := hP.bel
  have HRes : Hid (Res W (w.heap.size + 1)) := hP.res
  have HK0 : Hid (o.kind = 4) := h0
  have c0 : W.cell? ⟨w.heap.size, 0, none⟩ = some (.int .u8 o.kind) := hP.cell 0
  have c5 : W.cell? ⟨w.heap.size, 5, none⟩ = some (.slice o.pa o.pick.length o.pc) := hP.cell 5
  have d0 := hRW.s0
  have d1 := hRW.s1
  have b0 : ((o.kind : Int) == 0) = false := by simp; omega
  have b1 : ((o.kind : Int) == 1) = false := by simp; omega
  have b2 : ((o.kind : Int) == 2) = false := by simp; omega
  have b3 : ((o.kind : Int) == 3) = false := by simp; omega
  have b4 : ((o.kind : Int) == 4) = true := by simp; omega
  have HKW : Hid (Keeps W W.drew) := Below.keeps (Below.refl _ _).drew
  have c6 : W.cell? ⟨w.heap.size, 6, none⟩ = some (.int .i64 (ix : Int)) := by rw [← hix]; exact hP.cell 6
  have HKd : Hid (∀ V, Keeps W V → V.cell? ⟨sb, 0, none⟩ = some (.int .i64 (k2 : Int)) ∧ V.cell? ⟨sb, 1, none⟩ = some (.int .i64 (m2 : Int)) ∧ V.cell? ⟨w.heap.size, 6, none⟩ = some (.int .i64 (ix : Int))) := fun V hV => ⟨hV _ _ _ d0, hV _ _ _ d1, hV _ _ _ c6⟩
  have hv0 : ¬ (ix : Int) < 0 := by omega
  have hkm : ((k2 : Int) + (m2 : Int)) ≤ (ix : Int) := by omega
  have HSp : Hid (Spec k2 m2 ts o (ansE 4) k2 m2 ts) := Spec.k4 h0 ⟨Stay.refl _ _ _, .inl ⟨.inr (by omega), AnsEq.refl _⟩⟩
  have hk16 := hg2.2.2
  unfold opB ansZ at hW
  unfold opV
  clear h hP hRW hBW h0 hg2
  go_enter Tryd.func16, Tryd.ntmps16
  rw [hix] at hW ⊢
  clear hix hv
  go_upto_region 21 with fail
  go_quiet (fail)
  clear hW c0 d0 d1
  obtain ⟨X, hX⟩ : ∃ X, W.drewN nq = X := ⟨_, rfl⟩
  have hbX : Below W.heap.size W X := by rw [← hX]; exact drewN_below _ _ _
  have HBX : Hid (Below W.heap.size W X) := hbX
  simp only [hX]
  have hresX : Res X (w.heap.size + 1) := HRes.out.below HBX.out
  have HRX : Hid (Res X (w.heap.size + 1)) := hresX
  obtain ⟨r0, r1, r2, r3, r4, rf⟩ := hresX.cells
  have HF : Hid (StepM B w bb sb cb mb k m k2 m2 v1 ss v2 ts pm o (.returned (.agg #[.int .u8 4, .slice none 0 0, .slice none 0 0, .slice none 0 0, .int .i64 0])) (ansW X (w.heap.size + 1) (.int .u8 4) (.slice none 0 0) (.slice none 0 0) (.slice none 0 0) (.int .i64 0))) :=
    finM0 HRW.out HPb.out HBX.out HSp.out (fun w3 _ => AnsOk.num w3 4 0)
  clear hresX HRW HPb HK0 HSp hbX hX HBX HKd HKW HRes c5 c6
  go_wp2
  exact retM rfl rfl HRX.out HF.out

set_option maxRecDepth 100000 in
set_option maxHeartbeats 4000000 in
theorem stepM4_ok {B : Nat} {w : World} {bb sb cb mb k m k2 m2 : Nat} {v1 v2 : Value} {ss ts : List Sd} {pm : Nat} {o : KOp} (h : InM B w bb sb cb mb k m k2 m2 v1 ss v2 ts pm o) (h0 : o.kind = 4) (ix : Nat) (hix : o.index = (ix : Int)) (hv : ix < k2 + m2) :
    Calls Tryd.prog 16 #[.pointer (some ⟨sb, 0, none⟩), opV o] w (StepM B w bb sb cb mb k m k2 m2 v1 ss v2 ts pm o) := by
  have hP := pro w o
  obtain ⟨W, hW⟩ : ∃ W, (w.alloc (opB o)).alloc ansZ = W := ⟨_, rfl⟩
  rw [hW] at hP
  obtain ⟨hRW, hBW⟩ := begR h.rs hP
  have hg2 := hRW.g2
  have HRW : Hid (RS B W bb sb cb mb k m k2 m2 v1 ss v2 ts pm (fun b => b = w.heap.size + 1)) := hRW
  have HPb : Hid (Below w.heap.size w W) := hP.bel
  have HRes : Hid (Res W (w.heap.size + 1)) := hP.res
  have HK0 : Hid (o.kind = 4) := h0
  have c0 : W.cell? ⟨w.heap.size, 0, none⟩ = some (.int .u8 o.kind) := hP.cell 0
  have c5 : W.cell? ⟨w.heap.size, 5, none⟩ = some (.slice o.pa o.pick.length o.pc) := hP.cell 5
  have d0 := hRW.s0
  have d1 := hRW.s1
  have b0 : ((o.kind : Int) == 0) = false := by simp; omega
  have b1 : ((o.kind : Int) == 1) = false := by simp; omega
  have b2 : ((o.kind : Int) == 2) = false := by simp; omega
  have b3 : ((o.kind : Int) == 3) = false := by simp; omega
  have b4 : ((o.kind : Int) == 4) = true := by simp; omega
  have HKW : Hid (Keeps W W.drew) := Below.keeps (Below.refl _ _).drew
  have c6 : W.cell? ⟨w.heap.size, 6, none⟩ = some (.int .i64 (ix : Int)) := by rw [← hix]; exact hP.cell 6
  have HKd : Hid (∀ V, Keeps W V → V.cell? ⟨sb, 0, none⟩ = some (.int .i64 (k2 : Int)) ∧ V.cell? ⟨sb, 1, none⟩ = some (.int .i64 (m2 : Int)) ∧ V.cell? ⟨w.heap.size, 6, none⟩ = some (.int .i64 (ix : Int))) := fun V hV => ⟨hV _ _ _ d0, hV _ _ _ d1, hV _ _ _ c6⟩
  have hv0 : ¬ (ix : Int) < 0 := by omega
  have hkm : ¬ ((k2 : Int) + (m2 : Int)) ≤ (ix : Int) := by omega
  have hk16 := hg2.2.2
  have HKe : Hid (∀ V, Keeps W V → V.cell? ⟨sb, 0, none⟩ = some (.int .i64 (k2 : Int)) ∧ V.cell? ⟨sb, 1, none⟩ = some (.int .i64 (m2 : Int))) := fun V hV => ⟨hV _ _ _ d0, hV _ _ _ d1⟩
  have HPk : Hid (∀ V, Below W.heap.size W V → Calls Tryd.prog 46 #[.pointer (some ⟨sb, 0, none⟩), .slice o.pa o.pick.length o.pc] V fun r w' => ∃ ao cap us, r = .returned (.slice ao us.length cap) ∧ us.length ≤ 65536 ∧ us.length ≤ cap ∧ cap ≤ 9223372036854775807 ∧ SdRow w' ao us ∧ SL (pk o.pick ts) us ∧ Below W.heap.size W w' ∧ Keeps W w') := fun V hb => picked_M hRW (h.op.keeps (Below.keeps hP.bel)) h.pm1 V hb
  have HDc : Hid (∀ V ao us cap, SdRow V ao us → us.length ≤ 65536 → us.length ≤ cap → SL (pk o.pick ts) us → Calls Tryd.prog 45 #[.int .i64 (k2 : Int), .int .i64 (m2 : Int), .slice ao us.length cap] V.drew (DcM V k2 m2 ts o)) := fun V ao us cap h2 h3 h4 h5 => decode_M hg2.1 hg2.2.1 hg2.2.2 (Below.refl _ _).drew (h2.keeps (Below.keeps (Below.refl _ _).drew)) h3 h4 h5
  have HEc : Hid (∀ V oa g n oc f, goodG g → FRow V oa n f → n ≤ 256 → n ≤ oc → oc ≤ 9223372036854775807 → Calls Tryd.prog 43 #[.int .i64 (k2 : Int), .int .i64 (m2 : Int), .int .u8 (g : Int), .slice oa n oc] V.drew (EcM V k2 m2 g n f)) := fun V oa g n oc f hg h2 h3 h4 h5 => encode_M hg2.1 hg2.2.1 hg2.2.2 (Below.refl _ _).drew (h2.keeps (Below.keeps (Below.refl _ _).drew)) hg h3 h4 h5
  unfold opB ansZ at hW
  unfold opV
  clear h hP hRW hBW h0 hg2
  go_enter Tryd.func16, Tryd.ntmps16
  rw [hix] at hW ⊢
  go_upto_region 21 with fail
  go_quiet (fail)
  clear hW c0 d0 d1
  obtain ⟨X, hX⟩ : ∃ X, W.drewN nq = X := ⟨_, rfl⟩
  have hbX : Below W.heap.size W X := by rw [← hX]; exact drewN_below _ _ _
  have HBX : Hid (Below W.heap.size W X) := hbX
  simp only [hX]
  have c5X : X.cell? ⟨w.heap.size, 5, none⟩ = some (.slice o.pa o.pick.length o.pc) := Below.keeps hbX _ _ _ c5
  clear hbX hX c5 c6
  go_wp2_with fail
  refine Calls.mono (HPk.out _ HBX.out) ?_
  rintro r w1 ⟨ao, cap, us, rfl, hl1, hc1, hc2, hs1, hsl, hb1, hk1⟩
  have HL1 : Hid (us.length ≤ 65536) := hl1
  have HC1 : Hid (us.length ≤ cap) := hc1
  have HS1 : Hid (SdRow w1 ao us) := hs1
  have HSL : Hid (SL (pk o.pick ts) us) := hsl
  have HB1 : Hid (Below W.heap.size W w1) := hb1
  have HK1 : Hid (Keeps W w1.drew) := hk1.trans (Below.keeps (Below.refl _ _).drew)
  have HDe : Hid (Calls Tryd.prog 45 #[.int .i64 (k2 : Int), .int .i64 (m2 : Int), .slice ao us.length cap] w1.drew (DcM w1 k2 m2 ts o)) := HDc.out w1 ao us cap hs1 hl1 hc1 hsl
  obtain ⟨L, hL⟩ : ∃ L, us.length = L := ⟨_, rfl⟩
  have HLe : Hid (us.length = L) := hL
  have hL6 : L ≤ 65536 := by omega
  have hLc : L ≤ cap := by omega
  rw [hL] at HDe
  simp only [hL]
  clear hs1 hsl hb1 hk1 HPk hl1 hc1 hL
  clear c5X HBX
  go_upto_region 24 with fail
  go_region_held3 (fun w' => w'.cell? ⟨sb, 0, none⟩ = some (.int .i64 (k2 : Int)) ∧ w'.cell? ⟨sb, 1, none⟩ = some (.int .i64 (m2 : Int)))
    (first | with_reducible exact HKe.out _ HK1.out | with_reducible exact HKe.out _ HK2.out)
    (first
      | (go_at_call 45; refine HDe.out.mono ?_; rintro r w2 ⟨a, n, c, x, rfl, hx, hb2, hk2, hcase⟩; have HB2 : Hid (Below w1.heap.size w1 w2) := hb2; have HK2 : Hid (Keeps W w2) := HK1.out.trans hk2; have HK12 : Hid (Keeps w1 w2) := hk2; have HCs : Hid ((∃ i, x = i + 1 ∧ Refu k2 (k2 + m2) (pk o.pick ts) i ∧ a = none ∧ n = 0 ∧ c = 0) ∨ (x = 0 ∧ n = (ol0of (pk o.pick ts)).toNat ∧ ∃ D ob, RowsOk k2 (k2 + m2) (pk o.pick ts) D ∧ a = some ⟨ob, 0, none⟩ ∧ w1.heap.size ≤ ob ∧ Row w2 ob n (objOf k2 (pk o.pick ts) D) ∧ n ≤ c ∧ c ≤ 9223372036854775807)) := hcase; clear hb2 hk2 hcase))
  have HBW2 : Hid (Below W.heap.size W w2) := HB1.out.trans (HB2.out.mono HB1.out.size)
  clear HDe HK1
  have HBW2' : Hid (W.heap.size ≤ w2.heap.size) := HBW2.out.size
  rcases HCs.out with ⟨i, hxi, hr, rfl, rfl, rfl⟩ | ⟨hx0, hn, D, ob, hD, rfl, hob, hrow, hnc, hc9⟩
  · have hres3 : Res w2 (w.heap.size + 1) := HRes.out.below HBW2.out
    have HR3 : Hid (Res w2 (w.heap.size + 1)) := hres3
    obtain ⟨r0, r1, r2, r3, r4, rf⟩ := hres3.cells
    have HF : Hid (StepM B w bb sb cb mb k m k2 m2 v1 ss v2 ts pm o (.returned (.agg #[.int .u8 (x : Int), .slice none 0 0, .slice none 0 0, .slice none 0 0, .int .i64 0])) (ansW w2 (w.heap.size + 1) (.int .u8 (x : Int)) (.slice none 0 0) (.slice none 0 0) (.slice none 0 0) (.int .i64 0))) := by
      rw [hxi]
      exact finM0 HRW.out HPb.out HBW2.out (Spec.k4 HK0.out ⟨Stay.refl _ _ _, .inr ⟨by omega, .inl ⟨i, hr, AnsEq.refl _⟩⟩⟩) (fun w3 _ => AnsOk.num w3 (i + 1) 0)
    have bx : ((x : Int) != 0) = true := by simp; omega
    clear hres3 HRes HRW HPb HB2 HK2 HCs HK0 hxi hr HEc HKe HKd HKW HBW2 HK12 HS1 HSL HB1 HLe HL1 HC1
    go_wp2
    exact retM rfl rfl HR3.out HF.out
  · subst hx0
    have ho := hD.good.ol
    have hGu := HSL.out.good hD.good
    have hg0 : g0of us = g0of (pk o.pick ts) := HSL.out.g0.symm
    have hgg : goodG (g0of us) := hGu.g0
    have hL0 : 0 < L := by have h1 := List.length_pos_iff.2 hGu.ne; have h2 := HLe.out; omega
    obtain ⟨gb, rfl, hgc⟩ := HS1.out.first (by rw [HLe.out]; exact hL0)
    obtain ⟨g, hge⟩ : ∃ g, g0of us = g := ⟨_, rfl⟩
    rw [hge] at hgc hgg hg0
    have hg256 : g < 256 := by rcases hgg with h | h | h <;> omega
    have hn256 : n ≤ 256 := by omega
    have HEn : Hid (Calls Tryd.prog 43 #[.int .i64 (k2 : Int), .int .i64 (m2 : Int), .int .u8 (g : Int), .slice (some ⟨ob, 0, none⟩) n c] w2.drew (EcM w2 k2 m2 g n (objOf k2 (pk o.pick ts) D))) := HEc.out w2 _ g n c _ hgg hrow.frow hn256 hnc hc9
    have HRem : Hid (∀ ls, SL ls (encL k2 m2 g n (objOf k2 (pk o.pick ts) D)) → ∀ i, i < k2 + m2 → (ls.getD i Sd.zero).same (remOf k2 (pk o.pick ts) D i)) := fun ls hl i hi => by
      have h1 := hl.enc_at hi
      rw [hg0, hn] at h1
      exact h1.trans (hD.enc (by have := HRW.out.g2; omega) (by have := HRW.out.g2; omega) i)
    have HRo : Hid (RowsOk k2 (k2 + m2) (pk o.pick ts) D) := hD
    have HKf : Hid (∀ V, Keeps W V → Keeps w2 V → V.cell? ⟨sb, 0, none⟩ = some (.int .i64 (k2 : Int)) ∧ V.cell? ⟨sb, 1, none⟩ = some (.int .i64 (m2 : Int)) ∧ V.cell? ⟨gb, 0, none⟩ = some (.int .u8 (g : Int))) := fun V h1 h2 => ⟨(HKe.out V h1).1, (HKe.out V h1).2, h2 _ _ _ (HK12.out _ _ _ hgc)⟩
    have HK3a : Hid (Keeps W w2.drew) := HK2.out.trans (Below.keeps (Below.refl _ _).drew)
    have HK3b : Hid (Keeps w2 w2.drew) := Below.keeps (Below.refl _ _).drew
    clear ho hnc hc9 hrow hob hD hn HEc HCs hGu hge hg0 hgg hgc
    go_upto_region 27 with fail
    go_region_held3 (fun w' => w'.cell? ⟨sb, 0, none⟩ = some (.int .i64 (k2 : Int)) ∧ w'.cell? ⟨sb, 1, none⟩ = some (.int .i64 (m2 : Int)) ∧ w'.cell? ⟨gb, 0, none⟩ = some (.int .u8 (g : Int)))
      (first | with_reducible exact HKf.out _ HK3a.out HK3b.out | with_reducible exact HKf.out _ HK3.out HK23.out)
      (first
        | (go_at_call 43; refine HEn.out.mono ?_; rintro r w3 ⟨HS, N, ls, rfl, hNk, hlN, hS3, hsl, hp4, hHS, hpb, hb3, hk3⟩; have HNk : Hid (N = k2 + m2) := hNk; have HlN : Hid (ls.length = N) := hlN; have HS3 : Hid (SdRow w3 (some ⟨HS, 0, none⟩) ls) := hS3; have HSl3 : Hid (SL ls (encL k2 m2 g n (objOf k2 (pk o.pick ts) D))) := hsl; have HP4 : Hid (∀ s ∈ ls, s.pl ≤ 4096) := hp4; have HHS : Hid (w2.heap.size ≤ HS) := hHS; have HPB : Hid (∀ s ∈ ls, 0 < s.pl → ∀ b o', s.pa = some ⟨b, o', none⟩ → w2.heap.size ≤ b) := hpb; have HB3 : Hid (Below w2.heap.size w2 w3) := hb3; have HK23 : Hid (Keeps w2 w3) := hk3; have HK3 : Hid (Keeps W w3) := HK2.out.trans hk3; clear hNk hlN hS3 hsl hp4 hHS hpb hb3 hk3))
    have HBW3 : Hid (Below W.heap.size W w3) := HBW2.out.trans (HB3.out.mono HBW2.out.size)
    clear HEn HKf HK3a HK3b HK12 HB2 HBW2 HB3 HB1
    have hNk := HNk.out
    have hixN : ix < N := by omega
    have hixN' : (ix : Int) < (N : Int) := by omega
    have hixl : ix < ls.length := by rw [HlN.out]; exact hixN
    have e6 : w3.cell? ⟨w.heap.size, 6, none⟩ = some (.int .i64 (ix : Int)) := (HKd.out _ HK3.out).2.2
    have hres3 : Res w3 (w.heap.size + 1) := HRes.out.below HBW3.out
    have HR3 : Hid (Res w3 (w.heap.size + 1)) := hres3
    obtain ⟨r0, r1, r2, r3, r4, rf⟩ := hres3.cells
    have HF : Hid (StepM B w bb sb cb mb k m k2 m2 v1 ss v2 ts pm o (.returned (.agg #[.int .u8 0, .slice none 0 0, .slice (some ⟨HS, ix * 4, none⟩) 1 (N - ix), .slice none 0 0, .int .i64 0])) (ansW w3 (w.heap.size + 1) (.int .u8 0) (.slice none 0 0) (.slice (some ⟨HS, ix * 4, none⟩) 1 (N - ix)) (.slice none 0 0) (.int .i64 0))) := by
      have hsame := HRem.out ls HSl3.out ix (by omega)
      have hlt : ∀ b, w2.heap.size ≤ b → ¬ b = w.heap.size + 1 := fun b hb e => by
        have h1 := (HRW.out.hz _ rfl).1
        have h2 := HBW2'.out
        omega
      refine finM0 HRW.out HPb.out HBW3.out (A := { ansE 0 with sh := [ls.getD ix Sd.zero] }) (Spec.k4 HK0.out ⟨Stay.refl _ _ _, .inr ⟨by omega, .inr ⟨D, HRo.out, ⟨rfl, rfl, fun _ _ => rfl, ?_, rfl, fun _ _ => rfl, rfl⟩⟩⟩⟩) (fun w4 hC => AnsOk.one ((HS3.out.chg hC (fun b o' _ he => ?_) (fun s hs h1 b o' h2 => hlt b (HPB.out s hs h1 b o' h2))).one hixl) ?_)
      · rw [hix, Int.toNat_natCast]
        exact SL.nil.push hsame
      · cases he
        exact hlt _ HHS.out
      · have h1 : ls.getD ix Sd.zero ∈ ls := by rw [getD_lt hixl]; exact List.getElem_mem hixl
        have h2 := HP4.out _ h1
        omega
    clear hres3 HRes HRW HPb HK2 HKe HKd HKW HNk HlN HS3 HSl3 HP4 HHS HPB HBW3 HK23 HK3 HRo HRem HK0 HS1 HSL HLe HL1 HC1 HBW2' hix hixl hNk
    go_wp2
    exact retM rfl rfl HR3.out HF.out
theorem stepM4 {B : Nat} {w : World} {bb sb cb mb k m k2 m2 : Nat} {v1 v2 : Value} {ss ts : List Sd} {pm : Nat} {o : KOp} (h : InM B w bb sb cb mb k m k2 m2 v1 ss v2 ts pm o) (h0 : o.kind = 4) :
    Calls Tryd.prog 16 #[.pointer (some ⟨sb, 0, none⟩), opV o] w (StepM B w bb sb cb mb k m k2 m2 v1 ss v2 ts pm o) := by
  by_cases hv : o.index < 0
  · exact stepM4_neg h h0 hv
  · by_cases hg : k2 + m2 ≤ o.index.toNat
    · exact stepM4_big h h0 o.index.toNat (by omega) hg
    · exact stepM4_ok h h0 o.index.toNat (by omega) (by omega)
end Go.Proofs.Qxb6500697aDoor
