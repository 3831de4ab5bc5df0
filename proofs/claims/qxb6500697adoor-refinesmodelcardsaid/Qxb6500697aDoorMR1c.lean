/-
  THE BENCH's STEP: KEncode, KEncodeMore with an answer.
-/
import Derived.Test.Qxb6500697aDoorMR1b
namespace Go.Proofs.Qxb6500697aDoor
open Go.RowKit

/-- What Encode gives. -/
def EnP (W : World) (k m : Nat) (o : KOp) (r : Ending) (w1 : World) : Prop := ∃ HS N ls, r = .returned (.tuple #[.slice (some ⟨HS, 0, none⟩) N N, .nilIface]) ∧ N = k + m ∧ ls.length = N ∧ SdRow w1 (some ⟨HS, 0, none⟩) ls ∧ SL ls (encL k m o.gen o.bs.length (fun i => o.bs.getD i 0)) ∧ (∀ s ∈ ls, s.pl ≤ 4096) ∧ W.heap.size ≤ HS ∧ (∀ s ∈ ls, 0 < s.pl → ∀ b o', s.pa = some ⟨b, o', none⟩ → W.heap.size ≤ b) ∧ Below W.heap.size W w1 ∧ Keeps W w1
theorem encode_P (W : World) (F : Nat → Prop) (cb mb k m : Nat) (o : KOp) (hC : CodecAt W F cb mb k m) (hop : OpOk W o) (hg : goodG o.gen) (hn : o.bs.length ≤ 256) :
    Calls Tryd.prog 18 #[.pointer (some ⟨cb, 0, none⟩), .int .u8 (o.gen : Int), .slice o.da o.bs.length o.dc] W.drew (EnP W k m o) := by
  have hd : Below W.heap.size W W.drew := (Below.refl _ _).drew
  have hk := hC.hk
  have hkn := hC.hn
  refine (encode_ok W.drew F cb mb k m o.gen o.bs.length o.dc o.da (fun i => o.bs.getD i 0) (hC.below hd) (hop.keeps (Below.keeps hd)).data hg hn hop.cap.1 hop.cap.2).mono ?_
  rintro r w1 ⟨HS, pb, po, rfl, h1, h2, h3, h4⟩
  have hps := psize_le o.gen k o.bs.length hk hn
  have hB : Below W.heap.size W w1 := hd.trans h4
  refine ⟨HS, k + m, shL (k + m) o.gen o.bs.length (psize o.gen k o.bs.length) pb po (pay o.gen k o.bs.length (fun i => o.bs.getD i 0)), rfl, rfl, shL_len _ _ _ _ _ _ _, h3.sdrow hop.hgen (by omega) (by omega) hps, shL_sl _ _ _ _ _ _ _, fun s hs => ?_, h1, fun s hs h0 b o' he => ?_, hB, Below.keeps hB⟩
  · obtain ⟨i, hi, rfl⟩ := List.mem_map.1 hs
    exact hps
  · obtain ⟨i, hi, rfl⟩ := List.mem_map.1 hs
    have := h2 i (List.mem_range.1 hi)
    cases he
    exact this
/-- The step's shards, still there behind the tray's change. -/
theorem AnsOk.enc {P : Nat → Prop} {W w1 w3 : World} {HS N : Nat} {ls : List Sd} (hS : SdRow w1 (some ⟨HS, 0, none⟩) ls) (hN : ls.length = N) (hN6 : N ≤ 65536) (hp : ∀ s ∈ ls, s.pl ≤ 4096) (h1 : W.heap.size ≤ HS) (h2 : ∀ s ∈ ls, 0 < s.pl → ∀ b o', s.pa = some ⟨b, o', none⟩ → W.heap.size ≤ b) (hC : Chg P w1 w3) (hP : ∀ b, P b → b < W.heap.size) :
    AnsOk w3 (.agg #[.int .u8 0, .slice none 0 0, .slice (some ⟨HS, 0, none⟩) N N, .slice none 0 0, .int .i64 0]) { ansE 0 with sh := ls } := by
  subst hN
  refine AnsOk.shards (er := 0) (hS.chg hC (fun b o' _ he hx => ?_) (fun s hs h0 b o' he hx => ?_)) hN6 (fun s hs => by have := hp s hs; omega)
  · cases he; have := hP _ hx; omega
  · have := h2 s hs h0 b o' he; have := hP _ hx; omega

theorem SL.pl {l l' : List Sd} {n : Nat} (h : SL l l') (hp : ∀ s ∈ l, s.pl ≤ n) : ∀ s ∈ l', s.pl ≤ n := by
  intro s hs
  obtain ⟨j, hj, rfl⟩ := List.mem_iff_getElem.1 hs
  have hj' : j < l.length := by rw [h.len]; exact hj
  have h1 := (h.eq j hj').2.2.2.1
  rw [getD_lt hj, getD_lt hj'] at h1
  rw [← h1]
  exact hp _ (List.getElem_mem hj')

set_option maxRecDepth 100000 in
set_option maxHeartbeats 4000000 in
theorem stepR1_k1 {B : Nat} {w : World} {bb sb cb mb k m k2 m2 : Nat} {v1 v2 : Value} {ss ts : List Sd} {pm : Nat} {o : KOp} {e : Nat → Addr} (h : InR B w bb sb cb mb k m k2 m2 v1 ss v2 ts pm o e) (h0 : o.kind = 1) (hg : goodG o.gen) (hn : o.bs.length ≤ 256) :
    Calls Tryd.prog 14 #[.pointer (some ⟨bb, 0, none⟩), opV o] w (StepR B w bb sb k m k2 m2 ss v2 ts pm o) := by
  have hI : Tryd.prog.isIface 48 = true := by kernel_rfl
  have hP := pro w o
  obtain ⟨W, hW⟩ : ∃ W, (w.alloc (opB o)).alloc ansZ = W := ⟨_, rfl⟩
  rw [hW] at hP
  obtain ⟨hRW, hBW⟩ := begR h.rs hP
  have HRW : Hid (RS B W bb sb cb mb k m k2 m2 v1 ss v2 ts pm (fun b => b = w.heap.size + 1)) := hRW
  have HBW : Hid (BelR B w W ∧ B ≤ W.heap.size) := ⟨hBW, by have := hRW.hz _ rfl; omega⟩
  have c0 : W.cell? ⟨w.heap.size, 0, none⟩ = some (.int .u8 o.kind) := hP.cell 0
  have c3 : W.cell? ⟨w.heap.size, 3, none⟩ = some (.int .u8 o.gen) := hP.cell 3
  have c4 : W.cell? ⟨w.heap.size, 4, none⟩ = some (.slice o.da o.bs.length o.dc) := hP.cell 4
  have d0 := hRW.c0
  have b0 : ((o.kind : Int) == 0) = false := by simp; omega
  have b1 : ((o.kind : Int) == 1) = true := by simp; omega
  have HRes : Hid (Res W (w.heap.size + 1)) := hP.res
  have HKd : Hid (∀ V, Keeps W V → V.cell? ⟨bb, 0, none⟩ = some (.pointer (some ⟨cb, 0, none⟩)) ∧ V.cell? ⟨w.heap.size, 3, none⟩ = some (.int .u8 (o.gen : Int)) ∧ V.cell? ⟨w.heap.size, 4, none⟩ = some (.slice o.da o.bs.length o.dc)) := fun V hV => ⟨hV _ _ _ d0, hV _ _ _ c3, hV _ _ _ c4⟩
  have HKW : Hid (Keeps W W.drew) := Below.keeps (Below.refl _ _).drew
  have HEn : Hid (Calls Tryd.prog 18 #[.pointer (some ⟨cb, 0, none⟩), .int .u8 (o.gen : Int), .slice o.da o.bs.length o.dc] W.drew (EnP W k m o)) := encode_P W _ cb mb k m o hRW.codec (h.op.keeps (Below.keeps hP.bel)) hg hn
  have hkn := hRW.codec.hn
  have hpm := h.pm0
  have HSp : Hid (∀ ls ss', SL ls (encL k m o.gen o.bs.length (fun i => o.bs.getD i 0)) → SL (if o.kind = 1 then encL k m o.gen o.bs.length (fun i => o.bs.getD i 0) else if ss.length + (k + m) ≤ 64 then ss ++ encL k m o.gen o.bs.length (fun i => o.bs.getD i 0) else ss) ss' → Spec k m ss o { ansE 0 with sh := ls } k m ss') := fun ls ss' h1 h2 => Spec.k1 (by omega) (.inr (.inr ⟨hg, hn, ⟨rfl, rfl, fun _ _ => rfl, h1, rfl, fun _ _ => rfl, rfl⟩, rfl, rfl, h2⟩))
  have HK0 : Hid (o.kind = 1) := h0
  have HC0 : Hid (W.cell? ⟨w.heap.size, 0, none⟩ = some (.int .u8 o.kind)) := c0
  have HT1W : Hid (∀ b, tblk v1 ss b → b < W.heap.size) := fun b hb => (hRW.t1.lt hb).2
  have HBbW : Hid (bb < W.heap.size) := heap_lt hRW.hb
  unfold opB ansZ at hW
  unfold opV
  clear h hP hRW hBW hg hn h0
  go_enter Tryd.func14, Tryd.ntmps14
  go_upto_region 10 with fail
  clear hW c0 c3 c4 d0
  go_region_held3 (fun w' => w'.cell? ⟨bb, 0, none⟩ = some (.pointer (some ⟨cb, 0, none⟩)) ∧ w'.cell? ⟨w.heap.size, 3, none⟩ = some (.int .u8 (o.gen : Int)) ∧ w'.cell? ⟨w.heap.size, 4, none⟩ = some (.slice o.da o.bs.length o.dc))
    (first | with_reducible exact HKd.out _ HKW.out | with_reducible exact HKd.out _ HK1.out)
    (first | (go_at_call 18; refine HEn.out.mono ?_; rintro r w1 ⟨HS, N, ls, rfl, hNk, hlN, hS1, hsl, hp4, hHS, hpb, hb1, hk1⟩; have HNk : Hid (N = k + m) := hNk; have HlN : Hid (ls.length = N) := hlN; have HS1 : Hid (SdRow w1 (some ⟨HS, 0, none⟩) ls) := hS1; have HSL : Hid (SL ls (encL k m o.gen o.bs.length (fun i => o.bs.getD i 0))) := hsl; have HP4 : Hid (∀ s ∈ ls, s.pl ≤ 4096) := hp4; have HHS : Hid (W.heap.size ≤ HS) := hHS; have HPB : Hid (∀ s ∈ ls, 0 < s.pl → ∀ b o', s.pa = some ⟨b, o', none⟩ → W.heap.size ≤ b) := hpb; have HB1 : Hid (Below W.heap.size W w1) := hb1; have HK1 : Hid (Keeps W w1) := hk1; clear hNk hlN hS1 hsl hp4 hHS hpb hb1 hk1))
  clear HEn HKd HKW
  have e0 : w1.cell? ⟨w.heap.size, 0, none⟩ = some (.int .u8 o.kind) := HK1.out _ _ _ HC0.out
  have hN16 : N ≤ 16 := by have := HNk.out; omega
  have hN0 : 0 < N := by have h1 := HNk.out; have h2 := HRW.out.codec.hk; omega
  have HCp : Hid (Calls Tryd.prog 21 #[.slice (some ⟨HS, 0, none⟩) N N] w1 (ClPost w1 ls)) := by
    have := copies_tray w1 (some ⟨HS, 0, none⟩) N ls HS1.out (by rw [HlN.out]; omega) (fun s hs => by have := HP4.out s hs; omega)
    rw [HlN.out] at this
    exact this
  have hR1 := HRW.out.below HB1.out
  have HR1 : Hid (RS B w1 bb sb cb mb k m k2 m2 v1 ss v2 ts pm (fun b => b = w.heap.size + 1)) := hR1
  have hres1 : Res w1 (w.heap.size + 1) := HRes.out.keep (HB1.out.block _ (HRW.out.hz _ rfl).1)
  have HRes1 : Hid (Res w1 (w.heap.size + 1)) := hres1
  have HFarW : Hid (∀ b, (PM sb v2 ts b ∨ b = w.heap.size + 1) → b < W.heap.size) := fun b hb => by
    rcases Nat.lt_or_ge b W.heap.size with h1 | h1
    · exact h1
    · exact (HRW.out.far h1 hb).elim
  clear hR1 hres1 HRW HC0 HK1 hkn HRes
  go_wp2_with fail
  refine Calls.mono HCp.out ?_
  rintro r w2 ⟨v, ys, rfl, hY, hys, hb2⟩
  obtain ⟨ya, yc, rfl, _⟩ := hY.row
  have hR2 := HR1.out.below hb2
  have d0 := hR2.c0
  have d1 := hR2.c1
  have df := hR2.fb
  have hly : ys.length ≤ 64 := by rw [← hys.len, HlN.out]; omega
  have hpy : ∀ s ∈ ys, s.pl ≤ pm := SL.pl hys (fun s hs => by have := HP4.out s hs; omega)
  obtain ⟨V, hV⟩ : ∃ V, w2.setCell ⟨bb, 1, none⟩ (.slice ya ys.length yc) = V := ⟨_, rfl⟩
  have hOV : Only bb w2 V := by rw [← hV]; exact (Only.refl _ _).setCell _ _
  have hRV : RS B V bb sb cb mb k m k2 m2 (.slice ya ys.length yc) ys v2 ts pm (fun b => b = w.heap.size + 1) := by rw [← hV]; exact HR1.out.swap hb2 hY hly hpy
  have hzR := hR2.hz _ rfl
  have hresV : Res V (w.heap.size + 1) := (HRes1.out.keep (hb2.block _ (HR1.out.hz _ rfl).1)).keep (hOV.block _ hzR.2.2.1)
  have HRV : Hid (Res V (w.heap.size + 1)) := hresV
  obtain ⟨r0, r1, r2, r3, r4, rf⟩ := hresV.cells
  have hCV : Chg (fun b => b = bb) w1 V := (Below.chg hb2 _).trans (Only.chg (P := fun b => b = bb) hOV rfl)
  have HF : Hid (StepR B w bb sb k m k2 m2 ss v2 ts pm o (.returned (.agg #[.int .u8 0, .slice none 0 0, .slice (some ⟨HS, 0, none⟩) N N, .slice none 0 0, .int .i64 0])) (ansW V (w.heap.size + 1) (.int .u8 0) (.slice none 0 0) (.slice (some ⟨HS, 0, none⟩) N N) (.slice none 0 0) (.int .i64 0))) := by
    refine finR (hRV.more (Nat.le_succ _)) (HSp.out ls ys HSL.out (by rw [if_pos HK0.out]; exact HSL.out.symm.trans hys)) ?_ (fun w4 hC => AnsOk.enc (P := fun b => b = bb ∨ (PM sb v2 ts b ∨ b = w.heap.size + 1)) HS1.out HlN.out (by omega) HP4.out HHS.out HPB.out ((hCV.mono (fun b hb => .inl hb)).trans (hC.mono (fun b hb => .inr hb))) (fun b hb => ?_))
    · have h1 := bel_trans HBW.out.1 HB1.out HBW.out.2
      have hBW1 : B ≤ w1.heap.size := Nat.le_trans HBW.out.2 HB1.out.size
      exact bel_chg h1 hCV hBW1 (fun b hb => by rw [hb]; exact ⟨HR1.out.ge.1, HR1.out.noB⟩)
    · rcases hb with rfl | hb
      · exact HBbW.out
      · exact HFarW.out b hb
  clear hY hys hb2 hR2 hly hpy hOV hRV hzR hresV hCV HCp HR1 HSp HS1 HSL HP4 HPB HHS HlN HNk HBW HB1 HRes1 HFarW HBbW HK0 HT1W
  go_wp2
  exact retR rfl rfl HRV.out HF.out

set_option maxRecDepth 100000 in
set_option maxHeartbeats 4000000 in
theorem stepR1_k2no {B : Nat} {w : World} {bb sb cb mb k m k2 m2 : Nat} {v1 v2 : Value} {ss ts : List Sd} {pm : Nat} {o : KOp} {e : Nat → Addr} (h : InR B w bb sb cb mb k m k2 m2 v1 ss v2 ts pm o e) (h0 : o.kind = 2) (hg : goodG o.gen) (hn : o.bs.length ≤ 256) (hfit : ¬ ss.length + (k + m) ≤ 64) :
    Calls Tryd.prog 14 #[.pointer (some ⟨bb, 0, none⟩), opV o] w (StepR B w bb sb k m k2 m2 ss v2 ts pm o) := by
  have hI : Tryd.prog.isIface 48 = true := by kernel_rfl
  have hP := pro w o
  obtain ⟨W, hW⟩ : ∃ W, (w.alloc (opB o)).alloc ansZ = W := ⟨_, rfl⟩
  rw [hW] at hP
  obtain ⟨hRW, hBW⟩ := begR h.rs hP
  have HRW : Hid (RS B W bb sb cb mb k m k2 m2 v1 ss v2 ts pm (fun b => b = w.heap.size + 1)) := hRW
  have HBW : Hid (BelR B w W ∧ B ≤ W.heap.size) := ⟨hBW, by have := hRW.hz _ rfl; omega⟩
  have c0 : W.cell? ⟨w.heap.size, 0, none⟩ = some (.int .u8 o.kind) := hP.cell 0
  have c3 : W.cell? ⟨w.heap.size, 3, none⟩ = some (.int .u8 o.gen) := hP.cell 3
  have c4 : W.cell? ⟨w.heap.size, 4, none⟩ = some (.slice o.da o.bs.length o.dc) := hP.cell 4
  have d0 := hRW.c0
  have b0 : ((o.kind : Int) == 0) = false := by simp; omega
  have b1 : ((o.kind : Int) == 1) = false := by simp; omega
  have b2 : ((o.kind : Int) == 2) = true := by simp; omega
  have HRes : Hid (Res W (w.heap.size + 1)) := hP.res
  have HKd : Hid (∀ V, Keeps W V → V.cell? ⟨bb, 0, none⟩ = some (.pointer (some ⟨cb, 0, none⟩)) ∧ V.cell? ⟨w.heap.size, 3, none⟩ = some (.int .u8 (o.gen : Int)) ∧ V.cell? ⟨w.heap.size, 4, none⟩ = some (.slice o.da o.bs.length o.dc)) := fun V hV => ⟨hV _ _ _ d0, hV _ _ _ c3, hV _ _ _ c4⟩
  have HKW : Hid (Keeps W W.drew) := Below.keeps (Below.refl _ _).drew
  have HEn : Hid (Calls Tryd.prog 18 #[.pointer (some ⟨cb, 0, none⟩), .int .u8 (o.gen : Int), .slice o.da o.bs.length o.dc] W.drew (EnP W k m o)) := encode_P W _ cb mb k m o hRW.codec (h.op.keeps (Below.keeps hP.bel)) hg hn
  have hkn := hRW.codec.hn
  have hpm := h.pm0
  have HSp : Hid (∀ ls ss', SL ls (encL k m o.gen o.bs.length (fun i => o.bs.getD i 0)) → SL (if o.kind = 1 then encL k m o.gen o.bs.length (fun i => o.bs.getD i 0) else if ss.length + (k + m) ≤ 64 then ss ++ encL k m o.gen o.bs.length (fun i => o.bs.getD i 0) else ss) ss' → Spec k m ss o { ansE 0 with sh := ls } k m ss') := fun ls ss' h1 h2 => Spec.k1 (by omega) (.inr (.inr ⟨hg, hn, ⟨rfl, rfl, fun _ _ => rfl, h1, rfl, fun _ _ => rfl, rfl⟩, rfl, rfl, h2⟩))
  have HK0 : Hid (o.kind = 2) := h0
  have HC0 : Hid (W.cell? ⟨w.heap.size, 0, none⟩ = some (.int .u8 o.kind)) := c0
  have HT1W : Hid (∀ b, tblk v1 ss b → b < W.heap.size) := fun b hb => (hRW.t1.lt hb).2
  have HBbW : Hid (bb < W.heap.size) := heap_lt hRW.hb
  unfold opB ansZ at hW
  unfold opV
  clear h hP hRW hBW hg hn h0
  go_enter Tryd.func14, Tryd.ntmps14
  go_upto_region 10 with fail
  clear hW c0 c3 c4 d0
  go_region_held3 (fun w' => w'.cell? ⟨bb, 0, none⟩ = some (.pointer (some ⟨cb, 0, none⟩)) ∧ w'.cell? ⟨w.heap.size, 3, none⟩ = some (.int .u8 (o.gen : Int)) ∧ w'.cell? ⟨w.heap.size, 4, none⟩ = some (.slice o.da o.bs.length o.dc))
    (first | with_reducible exact HKd.out _ HKW.out | with_reducible exact HKd.out _ HK1.out)
    (first | (go_at_call 18; refine HEn.out.mono ?_; rintro r w1 ⟨HS, N, ls, rfl, hNk, hlN, hS1, hsl, hp4, hHS, hpb, hb1, hk1⟩; have HNk : Hid (N = k + m) := hNk; have HlN : Hid (ls.length = N) := hlN; have HS1 : Hid (SdRow w1 (some ⟨HS, 0, none⟩) ls) := hS1; have HSL : Hid (SL ls (encL k m o.gen o.bs.length (fun i => o.bs.getD i 0))) := hsl; have HP4 : Hid (∀ s ∈ ls, s.pl ≤ 4096) := hp4; have HHS : Hid (W.heap.size ≤ HS) := hHS; have HPB : Hid (∀ s ∈ ls, 0 < s.pl → ∀ b o', s.pa = some ⟨b, o', none⟩ → W.heap.size ≤ b) := hpb; have HB1 : Hid (Below W.heap.size W w1) := hb1; have HK1 : Hid (Keeps W w1) := hk1; clear hNk hlN hS1 hsl hp4 hHS hpb hb1 hk1))
  clear HEn HKd HKW
  have e0 : w1.cell? ⟨w.heap.size, 0, none⟩ = some (.int .u8 o.kind) := HK1.out _ _ _ HC0.out
  have hN16 : N ≤ 16 := by have := HNk.out; omega
  have hN0 : 0 < N := by have h1 := HNk.out; have h2 := HRW.out.codec.hk; omega
  have HCp : Hid (Calls Tryd.prog 21 #[.slice (some ⟨HS, 0, none⟩) N N] w1 (ClPost w1 ls)) := by
    have := copies_tray w1 (some ⟨HS, 0, none⟩) N ls HS1.out (by rw [HlN.out]; omega) (fun s hs => by have := HP4.out s hs; omega)
    rw [HlN.out] at this
    exact this
  have hR1 := HRW.out.below HB1.out
  have HR1 : Hid (RS B w1 bb sb cb mb k m k2 m2 v1 ss v2 ts pm (fun b => b = w.heap.size + 1)) := hR1
  have hres1 : Res w1 (w.heap.size + 1) := HRes.out.keep (HB1.out.block _ (HRW.out.hz _ rfl).1)
  have HRes1 : Hid (Res w1 (w.heap.size + 1)) := hres1
  have HFarW : Hid (∀ b, (PM sb v2 ts b ∨ b = w.heap.size + 1) → b < W.heap.size) := fun b hb => by
    rcases Nat.lt_or_ge b W.heap.size with h1 | h1
    · exact h1
    · exact (HRW.out.far h1 hb).elim
  obtain ⟨ao, cap, hv, _⟩ := hR1.t1.row
  obtain ⟨L, hL⟩ : ∃ L, ss.length = L := ⟨_, rfl⟩
  have HL : Hid (ss.length = L) := hL
  have d0 := hR1.c0
  have d1 : w1.cell? ⟨bb, 1, none⟩ = some (.slice ao L cap) := by rw [← hL, ← hv]; exact hR1.c1
  have HV1 : Hid (v1 = .slice ao L cap) := by rw [← hL]; exact hv
  have hL64 : L ≤ 64 := by rw [← hL]; exact hR1.l1
  have HNe : Hid (¬ o.kind = 1) := by have := HK0.out; show ¬ o.kind = 1; omega
  have hle : ¬ ((L : Int) + (N : Int)) ≤ 64 := by have := hfit; have := HNk.out; have := HL.out; omega
  obtain ⟨r0, r1, r2, r3, r4, rf⟩ := hres1.cells
  have HF : Hid (StepR B w bb sb k m k2 m2 ss v2 ts pm o (.returned (.agg #[.int .u8 0, .slice none 0 0, .slice (some ⟨HS, 0, none⟩) N N, .slice none 0 0, .int .i64 0])) (ansW w1 (w.heap.size + 1) (.int .u8 0) (.slice none 0 0) (.slice (some ⟨HS, 0, none⟩) N N) (.slice none 0 0) (.int .i64 0))) := by
    refine finR (hR1.more (Nat.le_succ _)) (HSp.out ls ss HSL.out (by rw [if_neg HNe.out, if_neg hfit]; exact SL.refl _)) (bel_trans HBW.out.1 HB1.out HBW.out.2) (fun w4 hC => AnsOk.enc HS1.out HlN.out (by omega) HP4.out HHS.out HPB.out hC (fun b hb => HFarW.out b hb))
  clear hR1 hres1 HRW HC0 HK1 hkn HRes HCp HR1 HSp HS1 HSL HP4 HPB HHS HlN HNk HBW HB1 HFarW HBbW HK0 HNe HL HV1 hv hL hfit HT1W
  go_wp2
  exact retR rfl rfl HRes1.out HF.out

set_option maxRecDepth 100000 in
set_option maxHeartbeats 4000000 in
theorem stepR1_k2yes {B : Nat} {w : World} {bb sb cb mb k m k2 m2 : Nat} {v1 v2 : Value} {ss ts : List Sd} {pm : Nat} {o : KOp} {e : Nat → Addr} (h : InR B w bb sb cb mb k m k2 m2 v1 ss v2 ts pm o e) (h0 : o.kind = 2) (hg : goodG o.gen) (hn : o.bs.length ≤ 256) (hfit : ss.length + (k + m) ≤ 64) :
    Calls Tryd.prog 14 #[.pointer (some ⟨bb, 0, none⟩), opV o] w (StepR B w bb sb k m k2 m2 ss v2 ts pm o) := by
  have hI : Tryd.prog.isIface 48 = true := by kernel_rfl
  have hP := pro w o
  obtain ⟨W, hW⟩ : ∃ W, (w.alloc (opB o)).alloc ansZ = W := ⟨_, rfl⟩
  rw [hW] at hP
  obtain ⟨hRW, hBW⟩ := begR h.rs hP
  have HRW : Hid (RS B W bb sb cb mb k m k2 m2 v1 ss v2 ts pm (fun b => b = w.heap.size + 1)) := hRW
  have HBW : Hid (BelR B w W ∧ B ≤ W.heap.size) := ⟨hBW, by have := hRW.hz _ rfl; omega⟩
  have c0 : W.cell? ⟨w.heap.size, 0, none⟩ = some (.int .u8 o.kind) := hP.cell 0
  have c3 : W.cell? ⟨w.heap.size, 3, none⟩ = some (.int .u8 o.gen) := hP.cell 3
  have c4 : W.cell? ⟨w.heap.size, 4, none⟩ = some (.slice o.da o.bs.length o.dc) := hP.cell 4
  have d0 := hRW.c0
  have b0 : ((o.kind : Int) == 0) = false := by simp; omega
  have b1 : ((o.kind : Int) == 1) = false := by simp; omega
  have b2 : ((o.kind : Int) == 2) = true := by simp; omega
  have HRes : Hid (Res W (w.heap.size + 1)) := hP.res
  have HKd : Hid (∀ V, Keeps W V → V.cell? ⟨bb, 0, none⟩ = some (.pointer (some ⟨cb, 0, none⟩)) ∧ V.cell? ⟨w.heap.size, 3, none⟩ = some (.int .u8 (o.gen : Int)) ∧ V.cell? ⟨w.heap.size, 4, none⟩ = some (.slice o.da o.bs.length o.dc)) := fun V hV => ⟨hV _ _ _ d0, hV _ _ _ c3, hV _ _ _ c4⟩
  have HKW : Hid (Keeps W W.drew) := Below.keeps (Below.refl _ _).drew
  have HEn : Hid (Calls Tryd.prog 18 #[.pointer (some ⟨cb, 0, none⟩), .int .u8 (o.gen : Int), .slice o.da o.bs.length o.dc] W.drew (EnP W k m o)) := encode_P W _ cb mb k m o hRW.codec (h.op.keeps (Below.keeps hP.bel)) hg hn
  have hkn := hRW.codec.hn
  have hpm := h.pm0
  have HSp : Hid (∀ ls ss', SL ls (encL k m o.gen o.bs.length (fun i => o.bs.getD i 0)) → SL (if o.kind = 1 then encL k m o.gen o.bs.length (fun i => o.bs.getD i 0) else if ss.length + (k + m) ≤ 64 then ss ++ encL k m o.gen o.bs.length (fun i => o.bs.getD i 0) else ss) ss' → Spec k m ss o { ansE 0 with sh := ls } k m ss') := fun ls ss' h1 h2 => Spec.k1 (by omega) (.inr (.inr ⟨hg, hn, ⟨rfl, rfl, fun _ _ => rfl, h1, rfl, fun _ _ => rfl, rfl⟩, rfl, rfl, h2⟩))
  have HK0 : Hid (o.kind = 2) := h0
  have HC0 : Hid (W.cell? ⟨w.heap.size, 0, none⟩ = some (.int .u8 o.kind)) := c0
  have HT1W : Hid (∀ b, tblk v1 ss b → b < W.heap.size) := fun b hb => (hRW.t1.lt hb).2
  have HBbW : Hid (bb < W.heap.size) := heap_lt hRW.hb
  unfold opB ansZ at hW
  unfold opV
  clear h hP hRW hBW hg hn h0
  go_enter Tryd.func14, Tryd.ntmps14
  go_upto_region 10 with fail
  clear hW c0 c3 c4 d0
  go_region_held3 (fun w' => w'.cell? ⟨bb, 0, none⟩ = some (.pointer (some ⟨cb, 0, none⟩)) ∧ w'.cell? ⟨w.heap.size, 3, none⟩ = some (.int .u8 (o.gen : Int)) ∧ w'.cell? ⟨w.heap.size, 4, none⟩ = some (.slice o.da o.bs.length o.dc))
    (first | with_reducible exact HKd.out _ HKW.out | with_reducible exact HKd.out _ HK1.out)
    (first | (go_at_call 18; refine HEn.out.mono ?_; rintro r w1 ⟨HS, N, ls, rfl, hNk, hlN, hS1, hsl, hp4, hHS, hpb, hb1, hk1⟩; have HNk : Hid (N = k + m) := hNk; have HlN : Hid (ls.length = N) := hlN; have HS1 : Hid (SdRow w1 (some ⟨HS, 0, none⟩) ls) := hS1; have HSL : Hid (SL ls (encL k m o.gen o.bs.length (fun i => o.bs.getD i 0))) := hsl; have HP4 : Hid (∀ s ∈ ls, s.pl ≤ 4096) := hp4; have HHS : Hid (W.heap.size ≤ HS) := hHS; have HPB : Hid (∀ s ∈ ls, 0 < s.pl → ∀ b o', s.pa = some ⟨b, o', none⟩ → W.heap.size ≤ b) := hpb; have HB1 : Hid (Below W.heap.size W w1) := hb1; have HK1 : Hid (Keeps W w1) := hk1; clear hNk hlN hS1 hsl hp4 hHS hpb hb1 hk1))
  clear HEn HKd HKW
  have e0 : w1.cell? ⟨w.heap.size, 0, none⟩ = some (.int .u8 o.kind) := HK1.out _ _ _ HC0.out
  have hN16 : N ≤ 16 := by have := HNk.out; omega
  have hN0 : 0 < N := by have h1 := HNk.out; have h2 := HRW.out.codec.hk; omega
  have HCp : Hid (Calls Tryd.prog 21 #[.slice (some ⟨HS, 0, none⟩) N N] w1 (ClPost w1 ls)) := by
    have := copies_tray w1 (some ⟨HS, 0, none⟩) N ls HS1.out (by rw [HlN.out]; omega) (fun s hs => by have := HP4.out s hs; omega)
    rw [HlN.out] at this
    exact this
  have hR1 := HRW.out.below HB1.out
  have HR1 : Hid (RS B w1 bb sb cb mb k m k2 m2 v1 ss v2 ts pm (fun b => b = w.heap.size + 1)) := hR1
  have hres1 : Res w1 (w.heap.size + 1) := HRes.out.keep (HB1.out.block _ (HRW.out.hz _ rfl).1)
  have HRes1 : Hid (Res w1 (w.heap.size + 1)) := hres1
  have HFarW : Hid (∀ b, (PM sb v2 ts b ∨ b = w.heap.size + 1) → b < W.heap.size) := fun b hb => by
    rcases Nat.lt_or_ge b W.heap.size with h1 | h1
    · exact h1
    · exact (HRW.out.far h1 hb).elim
  obtain ⟨ao, cap, hv, _⟩ := hR1.t1.row
  obtain ⟨L, hL⟩ : ∃ L, ss.length = L := ⟨_, rfl⟩
  have HL : Hid (ss.length = L) := hL
  have d0 := hR1.c0
  have d1 : w1.cell? ⟨bb, 1, none⟩ = some (.slice ao L cap) := by rw [← hL, ← hv]; exact hR1.c1
  have HV1 : Hid (v1 = .slice ao L cap) := by rw [← hL]; exact hv
  have hL64 : L ≤ 64 := by rw [← hL]; exact hR1.l1
  have HNe : Hid (¬ o.kind = 1) := by have := HK0.out; show ¬ o.kind = 1; omega
  have hle : ((L : Int) + (N : Int)) ≤ 64 := by have := hfit; have := HNk.out; have := HL.out; omega
  have HFit : Hid (ss.length + N ≤ 64) := by have := hfit; have := HNk.out; show ss.length + N ≤ 64; omega
  have HIf : Hid (ss.length + (k + m) ≤ 64) := hfit
  have HCpd : Hid (Calls Tryd.prog 21 #[.slice (some ⟨HS, 0, none⟩) N N] w1.drew fun r w2 => ∃ ya yc ys, r = .returned (.slice ya N yc) ∧ ys.length = N ∧ Tray w1.heap.size w2 (.slice ya N yc) ys ∧ SL ls ys ∧ Below w1.heap.size w1 w2) := by
    have hd : Below w1.heap.size w1 w1.drew := (Below.refl _ _).drew
    have := copies_tray w1.drew (some ⟨HS, 0, none⟩) N ls (HS1.out.keeps (Below.keeps hd)) (by rw [HlN.out]; omega) (fun s hs => by have := HP4.out s hs; omega)
    rw [HlN.out] at this
    refine this.mono ?_
    rintro r w2 ⟨v, ys, rfl, hY, hys, hb2⟩
    have hyl : ys.length = N := by rw [← hys.len]; exact HlN.out
    obtain ⟨ya, yc, rfl, _⟩ := hY.row
    rw [hyl] at hY ⊢
    exact ⟨ya, yc, ys, rfl, hyl, hY, hys, hd.trans hb2⟩
  have HBk : Hid (∀ V V3 : World, Below w1.heap.size w1 V → V.grownBy V3 (Value.slice ao L cap).ownBlock → V3.cell? ⟨bb, 1, none⟩ = some (.slice ao L cap) ∧ ∀ i, V3.frozen? ⟨bb, i, none⟩ = false) := fun V V3 h1 h2 => by
    have hbl := heap_lt HR1.out.hb
    have hnb := HR1.out.nb1.1
    have e := HV1.out
    have hb3 : V3.heap[bb]? = w1.heap[bb]? := (h2.block bb (Nat.lt_of_lt_of_le hbl h1.size) (fun e' => hnb (.inl (by rw [e]; exact e'.symm)))).trans (h1.block bb hbl)
    have hh := hb3.trans HR1.out.hb
    rw [e] at hh
    exact ⟨by simp [World.cell?, hh], fun i => by simp [World.frozen?, hh]⟩
  have HAp : Hid (∀ V ya yc ys, ys.length = N → Below w1.heap.size w1 V → Tray w1.heap.size V (.slice ya N yc) ys → Tray B V (.slice ao L cap) ss ∧ B ≤ w1.heap.size ∧ w1.heap.size ≤ V.heap.size ∧ (∀ b, tblk (.slice ao L cap) ss b → b < w1.heap.size) ∧ ss.length + ys.length ≤ 65536 ∧ 0 < ys.length) := fun V ya yc ys h1 h2 h3 => by
    have hT := HR1.out.t1
    have e := HV1.out
    rw [e] at hT
    have hbl := heap_lt HR1.out.hb
    refine ⟨hT.below h2, Nat.le_trans HR1.out.ge.1 (Nat.le_of_lt hbl), h2.size, fun b hb => (hT.lt hb).2, ?_, ?_⟩
    · have := HFit.out; omega
    · omega
  clear hR1 hres1 HRW HC0 HK1 hkn HRes HCp hv hL hfit
  go_upto_region 16 with fail
  have HD1 : Hid (∀ V, Below w1.heap.size w1 V → V.cell? ⟨bb, 1, none⟩ = some (.slice ao L cap)) := fun V hb => Below.keeps hb _ _ _ d1
  clear e0 d0
  go_region_law (first
      | ((with_reducible refine step_append_tray (HAp.out _ _ _ _ Hyl.out HB2.out HY.out).1 HY.out (HAp.out _ _ _ _ Hyl.out HB2.out HY.out).2.1 (HAp.out _ _ _ _ Hyl.out HB2.out HY.out).2.2.1 (HAp.out _ _ _ _ Hyl.out HB2.out HY.out).2.2.2.1 (HAp.out _ _ _ _ Hyl.out HB2.out HY.out).2.2.2.2.1 (HAp.out _ _ _ _ Hyl.out HB2.out HY.out).2.2.2.2.2 ?_ ?_ ?_); rfl; rfl; intro v' w3 hT3 hG3 h53; obtain ⟨za, zc, rfl, _⟩ := hT3.row; obtain ⟨f1, ff⟩ := HBk.out w2 w3 HB2.out hG3; have HT3 : Hid (Tray B w3 (.slice za (ss ++ ys).length zc) (ss ++ ys)) := hT3; have HG3 : Hid (w2.grownBy w3 (Value.slice ao L cap).ownBlock) := hG3; have H53 : Hid ((Value.slice za (ss ++ ys).length zc).ownBlock = (Value.slice ao L cap).ownBlock ∨ (Value.slice za (ss ++ ys).length zc).ownBlock = some w2.heap.size) := h53; clear hT3 hG3 h53)
      | (go_simp; go_at_call 21; refine HCpd.out.mono ?_; rintro r w2 ⟨ya, yc, ys, rfl, hyl, hY, hys, hb2⟩; have g1 := HD1.out w2 hb2; have Hyl : Hid (ys.length = N) := hyl; have HY : Hid (Tray w1.heap.size w2 (.slice ya N yc) ys) := hY; have HYS : Hid (SL ls ys) := hys; have HB2 : Hid (Below w1.heap.size w1 w2) := hb2; clear hyl hY hys hb2))
  all_goals
    have hR2 := HR1.out.below HB2.out
    have hpy : ∀ s ∈ ys, s.pl ≤ pm := SL.pl HYS.out (fun s hs => by have := HP4.out s hs; omega)
    obtain ⟨M, hM⟩ : ∃ M, ss.length + ys.length = M := ⟨_, rfl⟩
    have hT3 := HT3.out
    have hG3 := HG3.out
    have h53 := H53.out
    rw [← HV1.out] at hG3 h53
    have hzR := HR1.out.hz _ rfl
    have hRg := HR1.out.grow HB2.out HY.out hT3 hG3 h53 (by rw [Hyl.out]; exact HFit.out) hpy
    rw [List.length_append, hM] at hRg
    simp only [hM]
    clear hM
    obtain ⟨V, hV⟩ : ∃ V, w3.setCell ⟨bb, 1, none⟩ (.slice za M zc) = V := ⟨_, rfl⟩
    rw [hV] at hRg
    simp only [hV]
    have hOV : Only bb w3 V := by rw [← hV]; exact (Only.refl _ _).setCell _ _
    have hg3 : ∀ b, b < w1.heap.size → ¬ tblk v1 ss b → w3.heap[b]? = w1.heap[b]? := fun b hlt hnt => (hG3.block b (Nat.lt_of_lt_of_le hlt HB2.out.size) (fun e => hnt (.inl e.symm))).trans (HB2.out.block b hlt)
    have hresV : Res V (w.heap.size + 1) := HRes1.out.keep ((hOV.block _ hzR.2.2.1).trans (hg3 _ hzR.1 hzR.2.2.2.2.1))
    have HRV : Hid (Res V (w.heap.size + 1)) := hresV
    obtain ⟨r0, r1, r2, r3, r4, rf⟩ := hresV.cells
    have hCV : Chg (fun b => b = bb ∨ tblk v1 ss b) w1 V := ⟨(show V.os = w3.os by rw [← hV]; rfl).trans (hG3.os.trans HB2.out.os), (show V.tape = w3.tape by rw [← hV]; rfl).trans (hG3.tape.trans HB2.out.tape), (show V.output = w3.output by rw [← hV]; rfl).trans (hG3.output.trans HB2.out.output), Nat.le_trans (Nat.le_trans HB2.out.size hG3.size) (Nat.le_of_eq hOV.size.symm), fun b hb hn => (hOV.block b (fun e => hn (.inl e))).trans (hg3 b hb (fun e => hn (.inr e)))⟩
    have HF : Hid (StepR B w bb sb k m k2 m2 ss v2 ts pm o (.returned (.agg #[.int .u8 0, .slice none 0 0, .slice (some ⟨HS, 0, none⟩) N N, .slice none 0 0, .int .i64 0])) (ansW V (w.heap.size + 1) (.int .u8 0) (.slice none 0 0) (.slice (some ⟨HS, 0, none⟩) N N) (.slice none 0 0) (.int .i64 0))) := by
      refine finR (hRg.more (Nat.le_succ _)) (HSp.out ls (ss ++ ys) HSL.out (by rw [if_neg HNe.out, if_pos HIf.out]; exact (SL.refl _).append (HSL.out.symm.trans HYS.out))) ?_ (fun w4 hC => AnsOk.enc (P := fun b => (b = bb ∨ tblk v1 ss b) ∨ (PM sb v2 ts b ∨ b = w.heap.size + 1)) HS1.out HlN.out (by omega) HP4.out HHS.out HPB.out ((hCV.mono (fun b hb => .inl hb)).trans (hC.mono (fun b hb => .inr hb))) (fun b hb => ?_))
      · have h1 := bel_trans HBW.out.1 HB1.out HBW.out.2
        have hBW1 : B ≤ w1.heap.size := Nat.le_trans HBW.out.2 HB1.out.size
        exact bel_chg h1 hCV hBW1 (fun b hb => by
          rcases hb with rfl | hb
          · exact ⟨HR1.out.ge.1, HR1.out.noB⟩
          · exact ⟨(HR1.out.t1.lt hb).1, HR1.out.t1.noOp hb⟩)
      · rcases hb with (rfl | hb) | hb
        · exact HBbW.out
        · exact HT1W.out b hb
        · exact HFarW.out b hb
    clear hR2 hpy hT3 hG3 h53 hzR hRg hOV hg3 hresV hCV HR1 HSp HS1 HSL HP4 HPB HHS HlN HNk HBW HB1 HRes1 HFarW HBbW HK0 HNe HL HV1 HAp HBk HD1 HCpd HFit HIf HY HYS HB2 HT3 HG3 H53 HT1W
    go_wp2
    exact retR rfl rfl HRV.out HF.out
end Go.Proofs.Qxb6500697aDoor
