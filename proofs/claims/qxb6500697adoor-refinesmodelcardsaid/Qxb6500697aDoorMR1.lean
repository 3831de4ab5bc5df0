/-
  THE BENCH's STEP: KEncode, KEncodeMore.
-/
import Derived.Test.Qxb6500697aDoorMCore
namespace Go.Proofs.Qxb6500697aDoor
open Go.RowKit

set_option maxRecDepth 100000 in
set_option maxHeartbeats 4000000 in
theorem stepR1_err {B : Nat} {w : World} {bb sb cb mb k m k2 m2 : Nat} {v1 v2 : Value} {ss ts : List Sd} {pm : Nat} {o : KOp} {e : Nat → Addr} (i : Nat) (hi : i < 9) (h : InR B w bb sb cb mb k m k2 m2 v1 ss v2 ts pm o e) (h0 : o.kind = 1 ∨ o.kind = 2) (hsp : Spec k m ss o (ansE (i + 1)) k m ss)
    (hp : ∀ V, KErrs 10 V e → CodecAt V (fun b => B ≤ b ∧ ¬ XS bb sb v1 ss v2 ts (fun b => b = w.heap.size + 1) b) cb mb k m → Calls Tryd.prog 49 #[.pointer (some ⟨cb, 0, none⟩), .int .u8 o.gen, .int .i64 o.bs.length] V fun r w' => r = .returned (.tuple #[planZ, errV e (some i)]) ∧ Below V.heap.size V w') :
    Calls Tryd.prog 14 #[.pointer (some ⟨bb, 0, none⟩), opV o] w (StepR B w bb sb k m k2 m2 ss v2 ts pm o) := by
  have hI : Tryd.prog.isIface 48 = true := by kernel_rfl
  have hP := pro w o
  obtain ⟨W, hW⟩ : ∃ W, (w.alloc (opB o)).alloc ansZ = W := ⟨_, rfl⟩
  rw [hW] at hP
  obtain ⟨hRW, hBW⟩ := begR h.rs hP
  have HRW : Hid _ := hRW
  have HBW : Hid (BelR B w W ∧ B ≤ W.heap.size) := ⟨hBW, by have := hRW.hz _ rfl; omega⟩
  have c0 : W.cell? ⟨w.heap.size, 0, none⟩ = some (.int .u8 o.kind) := hP.cell 0
  have c3 : W.cell? ⟨w.heap.size, 3, none⟩ = some (.int .u8 o.gen) := hP.cell 3
  have c4 : W.cell? ⟨w.heap.size, 4, none⟩ = some (.slice o.da o.bs.length o.dc) := hP.cell 4
  have d0 := hRW.c0
  have b0 : ((o.kind : Int) == 0) = false := by simp; omega
  have b1 : ((o.kind : Int) == 1) = decide (o.kind = 1) := by
    by_cases hk : o.kind = 1
    · simp [hk]
    · rw [decide_eq_false hk]; simp; omega
  have b2 : o.kind = 1 ∨ ((o.kind : Int) == 2) = true := by
    rcases h0 with h0 | h0
    · exact .inl h0
    · exact .inr (by simp; omega)
  have HE : Hid (KErrs 10 W e) := h.E.below hP.bel
  have HRes : Hid (Res W (w.heap.size + 1)) := hP.res
  have HSpec : Hid (Spec k m ss o (ansE (i + 1)) k m ss) := hsp
  have HKd : Hid (∀ V, Keeps W V → V.cell? ⟨bb, 0, none⟩ = some (.pointer (some ⟨cb, 0, none⟩)) ∧ V.cell? ⟨w.heap.size, 3, none⟩ = some (.int .u8 (o.gen : Int)) ∧ V.cell? ⟨w.heap.size, 4, none⟩ = some (.slice o.da o.bs.length o.dc)) := fun V hV => ⟨hV _ _ _ d0, hV _ _ _ c3, hV _ _ _ c4⟩
  have HKW : Hid (Keeps W W.drew) := Below.keeps (Below.refl _ _).drew
  have HEn : Hid (Calls Tryd.prog 18 #[.pointer (some ⟨cb, 0, none⟩), .int .u8 (o.gen : Int), .slice o.da o.bs.length o.dc] W.drew fun r w' => r = .returned (.tuple #[.slice none 0 0, errV e (some i)]) ∧ Below W.heap.size W w' ∧ Keeps W w') := by
    refine (encode_err W.drew cb o.gen o.bs.length o.dc i o.da e (hp _ (HE.out.below (Below.refl _ _).drew) (hRW.codec.below (Below.refl _ _).drew))).mono ?_
    rintro r w' ⟨h1, h2⟩
    have h3 : Below W.heap.size W w' := (Below.refl _ _).drew.trans h2
    exact ⟨h1, h3, Below.keeps h3⟩
  unfold opB ansZ at hW
  unfold opV
  unfold errV at HEn
  clear h hP hRW hBW hsp hp
  rcases b2 with hk1 | b2
  · rw [decide_eq_true hk1] at b1
    clear hk1 h0
    go_enter Tryd.func14, Tryd.ntmps14
    go_upto_region 10 with fail
    clear hW c0 c3 c4 d0
    go_region_held3 (fun w' => w'.cell? ⟨bb, 0, none⟩ = some (.pointer (some ⟨cb, 0, none⟩)) ∧ w'.cell? ⟨w.heap.size, 3, none⟩ = some (.int .u8 (o.gen : Int)) ∧ w'.cell? ⟨w.heap.size, 4, none⟩ = some (.slice o.da o.bs.length o.dc))
      (first | with_reducible exact HKd.out _ HKW.out | with_reducible exact HKd.out _ HK1.out)
      (first | (go_at_call 18; refine HEn.out.mono ?_; rintro r w1 ⟨rfl, hb1, hk1⟩; have HB1 : Hid (Below W.heap.size W w1) := hb1; have HK1 : Hid (Keeps W w1) := hk1; clear hb1 hk1))
    have HCl : Hid _ := class_any w1 e (HE.out.below HB1.out) i hi
    unfold errV at HCl
    obtain ⟨i1, hi1⟩ : ∃ i1, i + 1 = i1 := ⟨_, rfl⟩
    rw [hi1] at HCl HSpec
    have hi9 : i1 < 256 := by omega
    clear HEn HKd HKW HK1 hi1
    go_wp2_with fail
    refine Calls.mono HCl.out ?_
    rintro r w2 ⟨rfl, hb2⟩
    have hb02 : Below W.heap.size W w2 := HB1.out.trans (hb2.mono HB1.out.size)
    have hres2 : Res w2 (w.heap.size + 1) := HRes.out.keep (hb02.block _ (HRW.out.hz _ rfl).1)
    have HR2 : Hid (Res w2 (w.heap.size + 1)) := hres2
    obtain ⟨r0, r1, r2, r3, r4, rf⟩ := hres2.cells
    have HF : Hid (StepR B w bb sb k m k2 m2 ss v2 ts pm o (.returned (.agg #[.int .u8 (i1 : Int), .slice none 0 0, .slice none 0 0, .slice none 0 0, .int .i64 0])) (ansW w2 (w.heap.size + 1) (.int .u8 (i1 : Int)) (.slice none 0 0) (.slice none 0 0) (.slice none 0 0) (.int .i64 0))) :=
      finR ((HRW.out.below hb02).more (Nat.le_succ _)) HSpec.out (bel_trans HBW.out.1 hb02 HBW.out.2) (fun w3 _ => AnsOk.num w3 i1 0)
    clear hb2 hb02 hres2 HCl HRW HBW HB1 HE HRes HSpec
    go_wp2
    exact retR rfl rfl HR2.out HF.out
  · have hk1 : ¬ o.kind = 1 := fun e => by simp [e] at b2
    rw [decide_eq_false hk1] at b1
    clear hk1 h0
    go_enter Tryd.func14, Tryd.ntmps14
    go_upto_region 10 with fail
    clear hW c0 c3 c4 d0
    go_region_held3 (fun w' => w'.cell? ⟨bb, 0, none⟩ = some (.pointer (some ⟨cb, 0, none⟩)) ∧ w'.cell? ⟨w.heap.size, 3, none⟩ = some (.int .u8 (o.gen : Int)) ∧ w'.cell? ⟨w.heap.size, 4, none⟩ = some (.slice o.da o.bs.length o.dc))
      (first | with_reducible exact HKd.out _ HKW.out | with_reducible exact HKd.out _ HK1.out)
      (first | (go_at_call 18; refine HEn.out.mono ?_; rintro r w1 ⟨rfl, hb1, hk1⟩; have HB1 : Hid (Below W.heap.size W w1) := hb1; have HK1 : Hid (Keeps W w1) := hk1; clear hb1 hk1))
    have HCl : Hid _ := class_any w1 e (HE.out.below HB1.out) i hi
    unfold errV at HCl
    obtain ⟨i1, hi1⟩ : ∃ i1, i + 1 = i1 := ⟨_, rfl⟩
    rw [hi1] at HCl HSpec
    have hi9 : i1 < 256 := by omega
    clear HEn HKd HKW HK1 hi1
    go_wp2_with fail
    refine Calls.mono HCl.out ?_
    rintro r w2 ⟨rfl, hb2⟩
    have hb02 : Below W.heap.size W w2 := HB1.out.trans (hb2.mono HB1.out.size)
    have hres2 : Res w2 (w.heap.size + 1) := HRes.out.keep (hb02.block _ (HRW.out.hz _ rfl).1)
    have HR2 : Hid (Res w2 (w.heap.size + 1)) := hres2
    obtain ⟨r0, r1, r2, r3, r4, rf⟩ := hres2.cells
    have HF : Hid (StepR B w bb sb k m k2 m2 ss v2 ts pm o (.returned (.agg #[.int .u8 (i1 : Int), .slice none 0 0, .slice none 0 0, .slice none 0 0, .int .i64 0])) (ansW w2 (w.heap.size + 1) (.int .u8 (i1 : Int)) (.slice none 0 0) (.slice none 0 0) (.slice none 0 0) (.int .i64 0))) :=
      finR ((HRW.out.below hb02).more (Nat.le_succ _)) HSpec.out (bel_trans HBW.out.1 hb02 HBW.out.2) (fun w3 _ => AnsOk.num w3 i1 0)
    clear hb2 hb02 hres2 HCl HRW HBW HB1 HE HRes HSpec
    go_wp2
    exact retR rfl rfl HR2.out HF.out
end Go.Proofs.Qxb6500697aDoor
