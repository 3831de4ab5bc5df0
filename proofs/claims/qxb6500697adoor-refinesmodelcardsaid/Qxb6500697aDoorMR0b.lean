/-
  THE BENCH's STEP: KSetup with a good geometry.
-/
import Derived.Test.Qxb6500697aDoorMR0
namespace Go.Proofs.Qxb6500697aDoor
open Go.RowKit

theorem tblk_nil (b : Nat) : ¬ tblk (.slice none 0 0) [] b := by
  rintro (h | ⟨s, hs, _⟩)
  · cases h
  · cases hs
theorem two_cells {w : World} {bb : Nat} {p q u v : Value} {t : TypeId} (h : w.heap[bb]? = some (.cells #[p, q] t (0, 0))) : ((w.setCell ⟨bb, 0, none⟩ u).setCell ⟨bb, 1, none⟩ v).heap[bb]? = some (.cells #[u, v] t (0, 0)) := by
  simp [World.setCell, Array.getElem?_modify, h]

/-- A new codec, an empty tray. -/
theorem RS.setup {B C : Nat} {w : World} {bb sb cb mb k m k2 m2 cb' mb' k' m' : Nat} {v1 v2 : Value} {ss ts : List Sd} {pm : Nat} {Z : Nat → Prop} (h : RS B w bb sb cb mb k m k2 m2 v1 ss v2 ts pm Z)
    (hC : CodecAt w (fun b => C ≤ b) cb' mb' k' m') (hm : w.heap[mb']? = some (.map #[] 0)) (hX : ∀ b, XS bb sb v1 ss v2 ts Z b → b < C) (hmb : C ≤ mb') (hBC : B ≤ C) :
    RS B ((w.setCell ⟨bb, 0, none⟩ (.pointer (some ⟨cb', 0, none⟩))).setCell ⟨bb, 1, none⟩ (.slice none 0 0)) bb sb cb' mb' k' m' k2 m2 (.slice none 0 0) [] v2 ts pm Z := by
  have hO : Only bb w ((w.setCell ⟨bb, 0, none⟩ (.pointer (some ⟨cb', 0, none⟩))).setCell ⟨bb, 1, none⟩ (.slice none 0 0)) := ((Only.refl _ _).setCell _ _).setCell _ _
  have hbC : bb < C := hX bb (.inl rfl)
  have hsub : ∀ b, XS bb sb (.slice none 0 0) [] v2 ts Z b → b < C := fun b hb => by
    rcases hb with h3 | h3 | h3 | h3 | h3
    · exact hX b (.inl h3)
    · exact hX b (.inr (.inl h3))
    · exact (tblk_nil b h3).elim
    · exact hX b (.inr (.inr (.inr (.inl h3))))
    · exact hX b (.inr (.inr (.inr (.inr h3))))
  refine ⟨two_cells h.hb, (hO.block sb (Ne.symm h.ne)).trans h.hs, Tray.nil _ _, h.t2.keep (fun b hb => hO.block b (fun e => h.nb2.1 (by rw [← e]; exact hb))), by simp, h.l2, by simp, h.p2, ?_, ?_, fun hx => by have := hsub mb' hx; omega, ⟨h.ge.1, h.ge.2.1, by omega⟩, h.ne, ⟨tblk_nil _, tblk_nil _⟩, h.nb2, fun b hb => (tblk_nil b hb).elim, fun b hb => ?_, h.g2⟩
  · exact (hC.keep (fun b hF _ => hO.block b (by have hF : C ≤ b := hF; omega))).mono (fun b _ hF => ⟨by have hF : C ≤ b := hF; omega, fun hx => by have hF : C ≤ b := hF; have := hsub b hx; omega⟩)
  · exact Cache.empty _ _ ((hO.block mb' (by omega)).trans hm)
  · obtain ⟨z1, z2, z3, z4, z5, z6⟩ := h.hz b hb
    exact ⟨by rw [hO.size]; exact z1, z2, z3, z4, tblk_nil b, z6⟩

set_option maxRecDepth 100000 in
set_option maxHeartbeats 4000000 in
theorem stepR0_ok {B : Nat} {w : World} {bb sb cb mb k m k2 m2 : Nat} {v1 v2 : Value} {ss ts : List Sd} {pm : Nat} {o : KOp} {e : Nat → Addr} (h : InR B w bb sb cb mb k m k2 m2 v1 ss v2 ts pm o e) (h0 : o.kind = 0) (hg : geo o.k o.m = true) :
    Calls Tryd.prog 14 #[.pointer (some ⟨bb, 0, none⟩), opV o] w (StepR B w bb sb k m k2 m2 ss v2 ts pm o) := by
  have hI : Tryd.prog.isIface 48 = true := by kernel_rfl
  have hgg : 1 ≤ o.k ∧ 1 ≤ o.m ∧ o.k + o.m ≤ 16 := of_decide_eq_true hg
  obtain ⟨k', hk'⟩ : ∃ k' : Nat, o.k = (k' : Int) := ⟨o.k.toNat, by omega⟩
  obtain ⟨m', hm'⟩ : ∃ m' : Nat, o.m = (m' : Int) := ⟨o.m.toNat, by omega⟩
  have hP := pro w o
  obtain ⟨W, hW⟩ : ∃ W, (w.alloc (opB o)).alloc ansZ = W := ⟨_, rfl⟩
  rw [hW] at hP
  obtain ⟨hRW, hBW⟩ := begR h.rs hP
  have HRW : Hid _ := hRW
  have HBW : Hid (BelR B w W ∧ B ≤ W.heap.size) := ⟨hBW, by have := hRW.hz _ rfl; omega⟩
  have c0 : W.cell? ⟨w.heap.size, 0, none⟩ = some (.int .u8 o.kind) := hP.cell 0
  have c1 : W.cell? ⟨w.heap.size, 1, none⟩ = some (.int .i64 (k' : Int)) := by rw [← hk']; exact hP.cell 1
  have c2 : W.cell? ⟨w.heap.size, 2, none⟩ = some (.int .i64 (m' : Int)) := by rw [← hm']; exact hP.cell 2
  have b0 : ((o.kind : Int) == 0) = true := by simp; omega
  have HNe : Hid _ := new_ok k' m' W (by omega) (by omega) (by omega)
  have HRes : Hid (Res W (w.heap.size + 1)) := hP.res
  have HSpec : Hid (Spec k m ss o { ansE 0 with n := ((k' + m' : Nat) : Int) } k' m' []) := by
    show Spec k m ss o { ansE 0 with n := ((k' + m' : Nat) : Int) } k' m' []
    unfold Spec; rw [if_pos h0]
    refine .inr ⟨hg, ⟨rfl, rfl, fun _ _ => rfl, SL.nil, rfl, fun _ _ => rfl, ?_⟩, hk'.symm, hm'.symm, rfl⟩
    show ((k' + m' : Nat) : Int) = o.k + o.m
    omega
  unfold opB ansZ at hW
  rw [hk', hm'] at hW
  unfold opV
  rw [hk', hm']
  clear h hP hRW hBW hg h0 hgg hk' hm'
  go_enter Tryd.func14, Tryd.ntmps14
  go_wp2_with fail
  refine Calls.mono HNe.out ?_
  rintro r w1 ⟨hb1, rfl, hC1, hm1⟩
  have hR1 := HRW.out.below hb1
  have hsu := hR1.setup (C := W.heap.size) hC1 hm1 (fun b hb => HRW.out.xlt b hb) (Nat.le_refl _) HBW.out.2
  have HSu : Hid _ := hsu
  have hres1 : Res w1 (w.heap.size + 1) := HRes.out.keep (hb1.block _ (HRW.out.hz _ rfl).1)
  have d0 := hR1.c0
  have d1 := hR1.c1
  have df := hR1.fb
  obtain ⟨V, hV⟩ : ∃ V, (w1.setCell ⟨bb, 0, none⟩ (.pointer (some ⟨W.heap.size + 1, 0, none⟩))).setCell ⟨bb, 1, none⟩ (.slice none 0 0) = V := ⟨_, rfl⟩
  have hOV : Only bb w1 V := by rw [← hV]; exact ((Only.refl _ _).setCell _ _).setCell _ _
  rw [hV] at HSu hsu
  have HNn : Hid _ := codecN_drew V _ _ _ k' m' hsu.codec
  have hresV : Res V (w.heap.size + 1) := hres1.keep (hOV.block _ (HRW.out.hz _ rfl).2.2.1)
  have HResV : Hid (Res V.drew (w.heap.size + 1)) := hresV
  have HF : Hid (StepR B w bb sb k m k2 m2 ss v2 ts pm o (.returned (.agg #[.int .u8 0, .slice none 0 0, .slice none 0 0, .slice none 0 0, .int .i64 ((k' + m' : Nat) : Int)])) (ansW V.drew (w.heap.size + 1) (.int .u8 0) (.slice none 0 0) (.slice none 0 0) (.slice none 0 0) (.int .i64 ((k' + m' : Nat) : Int)))) := by
    have hB1 : BelR B w w1 := bel_trans HBW.out.1 hb1 HBW.out.2
    have hB2 : BelR B w V := bel_chg hB1 (Only.chg (P := fun b => b = bb) hOV rfl) (Nat.le_trans HBW.out.2 hb1.size) (fun b hb => by rw [hb]; exact ⟨HRW.out.ge.1, hR1.noB⟩)
    have hB3 : BelR B w V.drew := bel_trans hB2 (Below.refl _ _).drew (Nat.le_trans HBW.out.2 (Nat.le_trans hb1.size (Nat.le_of_eq hOV.size.symm)))
    exact finR ((hsu.below (Below.refl _ _).drew).more (Nat.le_succ _)) HSpec.out hB3 (fun w3 _ => AnsOk.num w3 0 _)
  obtain ⟨N, hN⟩ : ∃ N, k' + m' = N := ⟨_, rfl⟩
  rw [hN] at HNn HF
  obtain ⟨cbn, hcbn⟩ : ∃ cbn, W.heap.size + 1 = cbn := ⟨_, rfl⟩
  rw [hcbn] at HNn hV ⊢
  clear hb1 hC1 hm1 hR1 hsu hOV hresV hres1 HNe c0 c1 c2 hW HRW HBW HRes HSpec HSu hN hcbn
  go_wp2_with fail
  refine Calls.mono HNn.out ?_
  rintro r w2 ⟨rfl, hw⟩
  rw [← hw] at HResV HF
  obtain ⟨r0, r1, r2, r3, r4, rf⟩ := HResV.out.cells
  clear HNn hV hw
  go_wp2
  exact retR rfl rfl HResV.out HF.out
end Go.Proofs.Qxb6500697aDoor
