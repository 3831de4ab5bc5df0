/-
  THE BENCH's STEP: KShardLen; a kind that is none.
-/
import Derived.Test.Qxb6500697aDoorMRP
namespace Go.Proofs.Qxb6500697aDoor
open Go.RowKit

/-- An answer that is a number and an error. -/
def CPn (B : Nat) (W : World) (bb sb cb mb k m k2 m2 : Nat) (v1 : Value) (ss : List Sd) (v2 : Value) (ts : List Sd) (pm : Nat) (o : KOp) (R : Nat) (e : Nat → Addr) (r : Ending) (w2 : World) : Prop :=
  ∃ n : Int, ∃ x, r = .returned (.tuple #[.int .i64 n, errV e x]) ∧ (∀ i, x = some i → i < 9) ∧ CB B W bb sb cb mb k m k2 m2 v1 ss v2 ts pm o R (.agg #[.int .u8 ((clsX x : Nat) : Int), .slice none 0 0, .slice none 0 0, .slice none 0 0, .int .i64 n]) w2

set_option maxRecDepth 100000 in
set_option maxHeartbeats 4000000 in
theorem stepR9_go {B : Nat} {w : World} {bb sb cb mb k m k2 m2 : Nat} {v1 v2 : Value} {ss ts : List Sd} {pm : Nat} {o : KOp} {e : Nat → Addr} (h : InR B w bb sb cb mb k m k2 m2 v1 ss v2 ts pm o e) (h0 : o.kind = 9)
    (hop : ∀ W V, RS B W bb sb cb mb k m k2 m2 v1 ss v2 ts pm (fun b => b = w.heap.size + 1) → KErrs 10 W e → Below W.heap.size W V → Calls Tryd.prog 30 #[.pointer (some ⟨cb, 0, none⟩), .int .u8 (o.gen : Int), .int .i64 o.value] V (CPn B W bb sb cb mb k m k2 m2 v1 ss v2 ts pm o (w.heap.size + 1) e)) :
    Calls Tryd.prog 14 #[.pointer (some ⟨bb, 0, none⟩), opV o] w (StepR B w bb sb k m k2 m2 ss v2 ts pm o) := by
  have hP := pro w o
  obtain ⟨W, hW⟩ : ∃ W, (w.alloc (opB o)).alloc ansZ = W := ⟨_, rfl⟩
  rw [hW] at hP
  obtain ⟨hRW, hBW⟩ := begR h.rs hP
  have HBW : Hid (BelR B w W ∧ B ≤ W.heap.size) := ⟨hBW, by have := hRW.hz _ rfl; omega⟩
  have c0 : W.cell? ⟨w.heap.size, 0, none⟩ = some (.int .u8 o.kind) := hP.cell 0
  have c3 : W.cell? ⟨w.heap.size, 3, none⟩ = some (.int .u8 o.gen) := hP.cell 3
  have c8 : W.cell? ⟨w.heap.size, 8, none⟩ = some (.int .i64 o.value) := hP.cell 8
  have d0 := hRW.c0
  have b0 : ((o.kind : Int) == 0) = false := by simp; omega
  have b1 : ((o.kind : Int) == 1) = false := by simp; omega
  have b2 : ((o.kind : Int) == 2) = false := by simp; omega
  have b3 : ((o.kind : Int) == 3) = false := by simp; omega
  have b4 : ((o.kind : Int) == 4) = false := by simp; omega
  have b5 : ((o.kind : Int) == 5) = false := by simp; omega
  have b6 : ((o.kind : Int) == 6) = false := by simp; omega
  have b7 : ((o.kind : Int) == 7) = false := by simp; omega
  have b8 : ((o.kind : Int) == 8) = false := by simp; omega
  have b9 : ((o.kind : Int) == 9) = true := by simp; omega
  have HE : Hid (KErrs 10 W e) := h.E.below hP.bel
  have HRes : Hid (Res W (w.heap.size + 1)) := hP.res
  have HKd : Hid (∀ V, Keeps W V → V.cell? ⟨bb, 0, none⟩ = some (.pointer (some ⟨cb, 0, none⟩)) ∧ V.cell? ⟨w.heap.size, 3, none⟩ = some (.int .u8 (o.gen : Int)) ∧ V.cell? ⟨w.heap.size, 8, none⟩ = some (.int .i64 o.value)) := fun V hV => ⟨hV _ _ _ d0, hV _ _ _ c3, hV _ _ _ c8⟩
  have HKW : Hid (Keeps W W.drew) := Below.keeps (Below.refl _ _).drew
  have HOp : Hid (Calls Tryd.prog 30 #[.pointer (some ⟨cb, 0, none⟩), .int .u8 (o.gen : Int), .int .i64 o.value] W.drew (CPn B W bb sb cb mb k m k2 m2 v1 ss v2 ts pm o (w.heap.size + 1) e)) := hop W W.drew hRW HE.out (Below.refl _ _).drew
  unfold opB ansZ at hW
  unfold opV
  clear h hP hRW hBW hop h0
  go_enter Tryd.func14, Tryd.ntmps14
  go_upto_region 40 with fail
  clear hW c0 c3 c8 d0
  go_region_held3 (fun w' => w'.cell? ⟨bb, 0, none⟩ = some (.pointer (some ⟨cb, 0, none⟩)) ∧ w'.cell? ⟨w.heap.size, 3, none⟩ = some (.int .u8 (o.gen : Int)) ∧ w'.cell? ⟨w.heap.size, 8, none⟩ = some (.int .i64 o.value))
    (first | with_reducible exact HKd.out _ HKW.out | with_reducible exact HKd.out _ HK2.out)
    (first
      | (go_at_call 30; refine HOp.out.mono ?_; rintro r w2 ⟨n, x, rfl, hx, hcb⟩; have HX : Hid (∀ i, x = some i → i < 9) := hx; have HC2 : Hid (CB B W bb sb cb mb k m k2 m2 v1 ss v2 ts pm o (w.heap.size + 1) (.agg #[.int .u8 ((clsX x : Nat) : Int), .slice none 0 0, .slice none 0 0, .slice none 0 0, .int .i64 n]) w2) := hcb; have HK2 : Hid (Keeps W w2) := hcb.kp; clear hx hcb))
  clear HOp HKd HKW
  have HCl : Hid _ := class_opt w2 e (HC2.out.er e HE.out) x HX.out
  obtain ⟨i1, hi1⟩ : ∃ i1, clsX x = i1 := ⟨_, rfl⟩
  have hi9 : i1 < 256 := by rw [← hi1]; exact clsX_lt HX.out
  rw [hi1] at HCl HC2
  obtain ⟨ev, hev⟩ : ∃ ev, errV e x = ev := ⟨_, rfl⟩
  simp only [hev] at HCl ⊢
  clear hi1 HX HK2 hev HE
  go_wp2_with fail
  refine Calls.mono HCl.out ?_
  rintro r w3 ⟨rfl, hb3⟩
  have hres3 : Res w3 (w.heap.size + 1) := HC2.out.res hb3 HRes.out
  have HR3 : Hid (Res w3 (w.heap.size + 1)) := hres3
  obtain ⟨r0, r1, r2, r3, r4, rf⟩ := hres3.cells
  have HF : Hid _ := CB.fin HC2.out hb3 HBW.out
  clear hb3 hres3 HCl HBW HRes HC2
  go_wp2
  exact retR rfl rfl HR3.out HF.out

section
variable {B : Nat} {w : World} {bb sb cb mb k m k2 m2 : Nat} {v1 v2 : Value} {ss ts : List Sd} {pm : Nat} {o : KOp} {e : Nat → Addr}
theorem stepR9 (h : InR B w bb sb cb mb k m k2 m2 v1 ss v2 ts pm o e) (h0 : o.kind = 9) :
    Calls Tryd.prog 14 #[.pointer (some ⟨bb, 0, none⟩), opV o] w (StepR B w bb sb k m k2 m2 ss v2 ts pm o) := by
  refine stepR9_go h h0 (fun W V hRW hE hb => ?_)
  have bad : ∀ i w2, i < 9 → Below V.heap.size V w2 → Spec k m ss o (ansE (i + 1)) k m ss → CB B W bb sb cb mb k m k2 m2 v1 ss v2 ts pm o (w.heap.size + 1) (.agg #[.int .u8 ((clsX (some i) : Nat) : Int), .slice none 0 0, .slice none 0 0, .slice none 0 0, .int .i64 0]) w2 := fun i w2 _ hB hs =>
    CB.of hRW hb (Below.mut hB mb) ((hRW.cache.below hb).below hB) hs (fun w3 _ => AnsOk.num w3 (i + 1) 0)
  by_cases hg : goodG o.gen
  · by_cases hv : o.value < 0 ∨ 256 < o.value
    · refine (shardLen_err V cb o.gen 2 o.value e (plan_long 10 e V (hE.below hb) (by omega) cb o.gen o.value hg hv h.op.hvalue.1 h.op.hvalue.2)).mono ?_
      rintro r w2 ⟨rfl, hB⟩
      exact ⟨0, some 2, rfl, fun j hj => by cases hj; omega, bad 2 w2 (by omega) hB (Spec.k9 h0 ⟨Stay.refl _ _ _, .inr (.inl ⟨hg, hv, AnsEq.refl _⟩)⟩)⟩
    · obtain ⟨n, hn⟩ : ∃ n : Nat, o.value = (n : Int) := ⟨o.value.toNat, by omega⟩
      rw [hn]
      refine (shardLen_ok V _ cb mb k m o.gen n (hRW.codec.below hb) hg (by omega)).mono ?_
      rintro r w2 ⟨rfl, hB⟩
      refine ⟨_, none, rfl, fun j hj => (by cases hj), CB.of hRW hb (Below.mut hB mb) ((hRW.cache.below hb).below hB) (A := { ansE 0 with n := ((psize o.gen k n : Nat) : Int) }) (Spec.k9 h0 ⟨Stay.refl _ _ _, .inr (.inr ⟨hg, by omega, by omega, ?_⟩)⟩) (fun w3 _ => AnsOk.num w3 0 _)⟩
      rw [hn, Int.toNat_natCast]
      exact AnsEq.refl _
  · refine (shardLen_err V cb o.gen 1 o.value e (plan_gen 10 e V (hE.below hb) (by omega) cb o.gen o.value hg)).mono ?_
    rintro r w2 ⟨rfl, hB⟩
    exact ⟨0, some 1, rfl, fun j hj => by cases hj; omega, bad 1 w2 (by omega) hB (Spec.k9 h0 ⟨Stay.refl _ _ _, .inl ⟨hg, AnsEq.refl _⟩⟩)⟩
end

set_option maxRecDepth 100000 in
set_option maxHeartbeats 4000000 in
theorem stepR10 {B : Nat} {w : World} {bb sb cb mb k m k2 m2 : Nat} {v1 v2 : Value} {ss ts : List Sd} {pm : Nat} {o : KOp} {e : Nat → Addr} (h : InR B w bb sb cb mb k m k2 m2 v1 ss v2 ts pm o e) (h0 : 9 < o.kind) :
    Calls Tryd.prog 14 #[.pointer (some ⟨bb, 0, none⟩), opV o] w (StepR B w bb sb k m k2 m2 ss v2 ts pm o) := by
  have hP := pro w o
  obtain ⟨W, hW⟩ : ∃ W, (w.alloc (opB o)).alloc ansZ = W := ⟨_, rfl⟩
  rw [hW] at hP
  obtain ⟨hRW, hBW⟩ := begR h.rs hP
  have c0 : W.cell? ⟨w.heap.size, 0, none⟩ = some (.int .u8 o.kind) := hP.cell 0
  have b0 : ((o.kind : Int) == 0) = false := by simp; omega
  have b1 : ((o.kind : Int) == 1) = false := by simp; omega
  have b2 : ((o.kind : Int) == 2) = false := by simp; omega
  have b3 : ((o.kind : Int) == 3) = false := by simp; omega
  have b4 : ((o.kind : Int) == 4) = false := by simp; omega
  have b5 : ((o.kind : Int) == 5) = false := by simp; omega
  have b6 : ((o.kind : Int) == 6) = false := by simp; omega
  have b7 : ((o.kind : Int) == 7) = false := by simp; omega
  have b8 : ((o.kind : Int) == 8) = false := by simp; omega
  have b9 : ((o.kind : Int) == 9) = false := by simp; omega
  have hres3 : Res W (w.heap.size + 1) := hP.res
  have HR3 : Hid (Res W (w.heap.size + 1)) := hres3
  obtain ⟨r0, r1, r2, r3, r4, rf⟩ := hres3.cells
  have HF : Hid (StepR B w bb sb k m k2 m2 ss v2 ts pm o (.returned (.agg #[.int .u8 0, .slice none 0 0, .slice none 0 0, .slice none 0 0, .int .i64 0])) (ansW W (w.heap.size + 1) (.int .u8 0) (.slice none 0 0) (.slice none 0 0) (.slice none 0 0) (.int .i64 0))) :=
    finR (cb := cb) (mb := mb) (v1 := v1) (hRW.more (Nat.le_succ _)) (Spec.k10 h0) hBW (fun w3 _ => AnsOk.num w3 0 0)
  unfold opB ansZ at hW
  unfold opV
  clear h hP hRW hBW h0 hres3
  go_enter Tryd.func14, Tryd.ntmps14
  go_wp2
  exact retR rfl rfl HR3.out HF.out
end Go.Proofs.Qxb6500697aDoor
