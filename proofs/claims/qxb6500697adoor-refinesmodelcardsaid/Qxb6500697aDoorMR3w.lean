/-
  THE BENCH's STEP: KDecode.
-/
import Derived.Test.Qxb6500697aDoorMRG
namespace Go.Proofs.Qxb6500697aDoor
open Go.RowKit

set_option maxRecDepth 100000 in
set_option maxHeartbeats 4000000 in
theorem stepR3_go {B : Nat} {w : World} {bb sb cb mb k m k2 m2 : Nat} {v1 v2 : Value} {ss ts : List Sd} {pm : Nat} {o : KOp} {e : Nat → Addr} (h : InR B w bb sb cb mb k m k2 m2 v1 ss v2 ts pm o e) (h0 : o.kind = 3)
    (hop : ∀ W V v, RS B W bb sb cb mb k m k2 m2 v1 ss v2 ts pm (fun b => b = w.heap.size + 1) → KErrs 10 W e → SOut W.heap.size V v (pk o.pick ss) → Below W.heap.size W V → Calls Tryd.prog 22 #[.pointer (some ⟨cb, 0, none⟩), v] V (CP B W bb sb cb mb k m k2 m2 v1 ss v2 ts pm o (w.heap.size + 1) e (fun v c => .agg #[c, v, .slice none 0 0, .slice none 0 0, .int .i64 0]))) :
    Calls Tryd.prog 14 #[.pointer (some ⟨bb, 0, none⟩), opV o] w (StepR B w bb sb k m k2 m2 ss v2 ts pm o) := by
  have hP := pro w o
  obtain ⟨W, hW⟩ : ∃ W, (w.alloc (opB o)).alloc ansZ = W := ⟨_, rfl⟩
  rw [hW] at hP
  obtain ⟨hRW, hBW⟩ := begR h.rs hP
  have HBW : Hid (BelR B w W ∧ B ≤ W.heap.size) := ⟨hBW, by have := hRW.hz _ rfl; omega⟩
  have c0 : W.cell? ⟨w.heap.size, 0, none⟩ = some (.int .u8 o.kind) := hP.cell 0
  have c3 : W.cell? ⟨w.heap.size, 3, none⟩ = some (.int .u8 o.gen) := hP.cell 3
  have c5 : W.cell? ⟨w.heap.size, 5, none⟩ = some (.slice o.pa o.pick.length o.pc) := hP.cell 5
  have d0 := hRW.c0
  have b0 : ((o.kind : Int) == 0) = false := by simp; omega
  have b1 : ((o.kind : Int) == 1) = false := by simp; omega
  have b2 : ((o.kind : Int) == 2) = false := by simp; omega
  have b3 : ((o.kind : Int) == 3) = true := by simp; omega
  have HE : Hid (KErrs 10 W e) := h.E.below hP.bel
  have HRes : Hid (Res W (w.heap.size + 1)) := hP.res
  have HKd : Hid (∀ V, Keeps W V → V.cell? ⟨bb, 0, none⟩ = some (.pointer (some ⟨cb, 0, none⟩)) ∧ V.cell? ⟨w.heap.size, 3, none⟩ = some (.int .u8 (o.gen : Int)) ∧ V.cell? ⟨w.heap.size, 5, none⟩ = some (.slice o.pa o.pick.length o.pc)) := fun V hV => ⟨hV _ _ _ d0, hV _ _ _ c3, hV _ _ _ c5⟩
  have HKW : Hid (Keeps W W.drew) := Below.keeps (Below.refl _ _).drew
  have HPk : Hid (Calls Tryd.prog 39 #[.pointer (some ⟨bb, 0, none⟩), .slice o.pa o.pick.length o.pc] W.drew fun r w' => ∃ v, r = .returned v ∧ SOut W.heap.size w' v (pk o.pick ss) ∧ Below W.heap.size W w' ∧ Keeps W w') := picked_R (o := o) hRW (h.op.keeps (Below.keeps hP.bel))
  have HOp : Hid (∀ V v, SOut W.heap.size V v (pk o.pick ss) → Below W.heap.size W V → Calls Tryd.prog 22 #[.pointer (some ⟨cb, 0, none⟩), v] V (CP B W bb sb cb mb k m k2 m2 v1 ss v2 ts pm o (w.heap.size + 1) e (fun v c => .agg #[c, v, .slice none 0 0, .slice none 0 0, .int .i64 0]))) := fun V v hs hb => hop W V v hRW HE.out hs hb
  unfold opB ansZ at hW
  unfold opV
  clear h hP hRW hBW hop h0
  go_enter Tryd.func14, Tryd.ntmps14
  go_upto_region 19 with fail
  clear hW c0 c3 c5 d0
  go_region_held3 (fun w' => w'.cell? ⟨bb, 0, none⟩ = some (.pointer (some ⟨cb, 0, none⟩)) ∧ w'.cell? ⟨w.heap.size, 3, none⟩ = some (.int .u8 (o.gen : Int)) ∧ w'.cell? ⟨w.heap.size, 5, none⟩ = some (.slice o.pa o.pick.length o.pc))
    (first | with_reducible exact HKd.out _ HKW.out | with_reducible exact HKd.out _ HK1.out | with_reducible exact HKd.out _ HK2.out)
    (first
      | (go_at_call 39; refine HPk.out.mono ?_; rintro r w1 ⟨v, rfl, hs1, hb1, hk1⟩; have HS1 : Hid (SOut W.heap.size w1 v (pk o.pick ss)) := hs1; have HB1 : Hid (Below W.heap.size W w1) := hb1; have HK1 : Hid (Keeps W w1) := hk1; clear hs1 hb1 hk1)
      | (go_at_call 22; refine (HOp.out _ _ HS1.out HB1.out).mono ?_; rintro r w2 ⟨a, n, c, x, rfl, hx, hcb⟩; have HX : Hid (∀ i, x = some i → i < 9) := hx; have HC2 : Hid (CB B W bb sb cb mb k m k2 m2 v1 ss v2 ts pm o (w.heap.size + 1) (.agg #[.int .u8 ((clsX x : Nat) : Int), .slice a n c, .slice none 0 0, .slice none 0 0, .int .i64 0]) w2) := hcb; have HK2 : Hid (Keeps W w2) := hcb.kp; clear hx hcb))
  clear HPk HOp HKd HKW HK1 HS1 HB1
  have HCl : Hid _ := class_opt w2 e (HC2.out.er e HE.out) x HX.out
  obtain ⟨i1, hi1⟩ : ∃ i1, clsX x = i1 := ⟨_, rfl⟩
  have hi9 : i1 < 256 := by rw [← hi1]; exact clsX_lt HX.out
  rw [hi1] at HCl HC2
  obtain ⟨ev, hev⟩ : ∃ ev, errV e x = ev := ⟨_, rfl⟩
  simp only [hev] at HCl ⊢
  clear hi1 HX HK2 hev HE
  go_wp2_with fail
  refine Calls.mono HCl.out ?_
  rintro r w3 ⟨rfl, hb3⟩
  have hres3 : Res w3 (w.heap.size + 1) := HC2.out.res hb3 HRes.out
  have HR3 : Hid (Res w3 (w.heap.size + 1)) := hres3
  obtain ⟨r0, r1, r2, r3, r4, rf⟩ := hres3.cells
  have HF : Hid _ := CB.fin HC2.out hb3 HBW.out
  clear hb3 hres3 HCl HBW HRes HC2
  go_wp2
  exact retR rfl rfl HR3.out HF.out
end Go.Proofs.Qxb6500697aDoor
