/-
  THE BENCH's STEP: the beginning and the end that every kind shares; KSetup.
-/
import Derived.Test.Qxb6500697aDoorMState
namespace Go.Proofs.Qxb6500697aDoor
open Go.RowKit

/-- The step's data is in memory that is only read. -/
structure OpOk (w : World) (o : KOp) : Prop where
  data : FRow w o.da o.bs.length (fun i => o.bs.getD i 0)
  pk : IRow w o.pa o.pick
  cap : o.bs.length ≤ o.dc ∧ o.dc ≤ 9223372036854775807
  bl : o.bs.length ≤ 65536
  pl : o.pick.length ≤ 65536
  hkind : o.kind < 256
  hk : -9223372036854775808 ≤ o.k ∧ o.k ≤ 9223372036854775807
  hm : -9223372036854775808 ≤ o.m ∧ o.m ≤ 9223372036854775807
  hgen : o.gen < 256
  hindex : -9223372036854775808 ≤ o.index ∧ o.index ≤ 9223372036854775807
  hvalue : -9223372036854775808 ≤ o.value ∧ o.value ≤ 9223372036854775807
  hmask : o.mask < 256
theorem OpOk.keeps {w w' : World} {o : KOp} (h : OpOk w o) (k : Keeps w w') : OpOk w' o := { h with data := h.data.keeps k, pk := ⟨h.pk.wf, fun hne => by
  obtain ⟨b, o', ha, hc⟩ := h.pk.row hne
  exact ⟨b, o', ha, fun i hi => k _ _ _ (hc i hi)⟩⟩ }

abbrev ansZ : Obj := .cells #[.int .u8 0, .slice none 0 0, .slice none 0 0, .slice none 0 0, .int .i64 0] 38
/-- Behind the beginning: the step boxed in block w.heap.size, the answer's box behind it. -/
structure Pro (w W : World) (o : KOp) : Prop where
  bel : Below w.heap.size w W
  sz : W.heap.size = w.heap.size + 2
  box : W.heap[w.heap.size]? = some (.cells #[.int .u8 o.kind, .int .i64 o.k, .int .i64 o.m, .int .u8 o.gen, .slice o.da o.bs.length o.dc, .slice o.pa o.pick.length o.pc, .int .i64 o.index, .int .u8 o.field, .int .i64 o.value, .int .u8 o.mask] 34 (0, 0))
  res : W.heap[w.heap.size + 1]? = some (.cells #[.int .u8 0, .slice none 0 0, .slice none 0 0, .slice none 0 0, .int .i64 0] 38 (0, 0))
theorem pro (w : World) (o : KOp) : Pro w ((w.alloc (opB o)).alloc ansZ) o := by
  refine ⟨((Below.refl _ _).alloc (Nat.le_refl _) _).alloc (by simp) _, by simp, ?_, ?_⟩
  · rw [Below.heap_alloc _ _ _ (by simp)]; exact heap_alloc_new w _
  · have h := heap_alloc_new (w.alloc (opB o)) ansZ
    simpa using h
section
variable {w W V : World} {o : KOp}
theorem Pro.cell (h : Pro w W o) (i : Nat) : W.cell? ⟨w.heap.size, i, none⟩ = (#[Value.int .u8 o.kind, .int .i64 o.k, .int .i64 o.m, .int .u8 o.gen, .slice o.da o.bs.length o.dc, .slice o.pa o.pick.length o.pc, .int .i64 o.index, .int .u8 o.field, .int .i64 o.value, .int .u8 o.mask])[i]? := by simp [World.cell?, h.box]
end

/-- The answer laid into its box. -/
def ansW (V : World) (R : Nat) (a b c d e : Value) : World := ((((V.setCell ⟨R, 0, none⟩ a).setCell ⟨R, 1, none⟩ b).setCell ⟨R, 2, none⟩ c).setCell ⟨R, 3, none⟩ d).setCell ⟨R, 4, none⟩ e
theorem ansW_only (V : World) (R : Nat) (a b c d e : Value) : Only R V (ansW V R a b c d e) := (((((Only.refl _ _).setCell _ _).setCell _ _).setCell _ _).setCell _ _).setCell _ _
theorem ansW_cells {V : World} {R : Nat} {a b c d e : Value} {t : TypeId} {p0 p1 p2 p3 p4 : Value} (h : V.heap[R]? = some (.cells #[p0, p1, p2, p3, p4] t (0, 0))) : (ansW V R a b c d e).cell? ⟨R, 0, none⟩ = some a ∧ (ansW V R a b c d e).cell? ⟨R, 1, none⟩ = some b ∧ (ansW V R a b c d e).cell? ⟨R, 2, none⟩ = some c ∧ (ansW V R a b c d e).cell? ⟨R, 3, none⟩ = some d ∧ (ansW V R a b c d e).cell? ⟨R, 4, none⟩ = some e := by
  have h1 : (ansW V R a b c d e).heap[R]? = some (.cells #[a, b, c, d, e] t (0, 0)) := by simp [ansW, World.setCell, Array.getElem?_modify, h]
  generalize ansW V R a b c d e = W at h1
  refine ⟨?_, ?_, ?_, ?_, ?_⟩ <;> simp [World.cell?, h1]

/-- The end of a step of the bench. -/
theorem finR {B : Nat} {w V : World} {bb sb cb mb k m k' m' k2 m2 R : Nat} {v1 v2 : Value} {ss ss' ts : List Sd} {pm : Nat} {o : KOp} {A : Ans} {a b c d e : Value}
    (hV : RS B V bb sb cb mb k' m' k2 m2 v1 ss' v2 ts (pm + 1) (fun b => b = R)) (hsp : Spec k m ss o A k' m' ss') (hB : BelR B w V) (hA : ∀ w2, Chg (fun b => PM sb v2 ts b ∨ b = R) V w2 → AnsOk w2 (.agg #[a, b, c, d, e]) A) (hRw : w.heap.size ≤ R := by omega) :
    StepR B w bb sb k m k2 m2 ss v2 ts pm o (.returned (.agg #[a, b, c, d, e])) (ansW V R a b c d e) := by
  have hO := ansW_only V R a b c d e
  have hz := hV.hz R rfl
  refine ⟨_, A, cb, mb, k', m', v1, ss', rfl, hsp, (hV.putZ rfl hO).dropZ, fun w2 hC => hA w2 ?_, ?_⟩
  · exact (Only.chg (P := fun b => PM sb v2 ts b ∨ b = R) hO (.inr rfl)).trans (hC.mono (fun b hb => .inl hb))
  · have h1 : Below B V (ansW V R a b c d e) := hO.below hz.2.1
    refine ⟨hB.bel.trans h1, fun b hi => ?_⟩
    obtain ⟨x, f, hc⟩ := hi
    have h2 := heap_lt hc
    exact (hO.block b (by omega)).trans (hB.ops b ⟨x, f, hc⟩)

/-- What the beginning of a step gives. -/
theorem begR {B : Nat} {w W : World} {bb sb cb mb k m k2 m2 : Nat} {v1 v2 : Value} {ss ts : List Sd} {pm : Nat} {o : KOp} (h : RS B w bb sb cb mb k m k2 m2 v1 ss v2 ts pm NoZ) (hP : Pro w W o) : RS B W bb sb cb mb k m k2 m2 v1 ss v2 ts pm (fun b => b = w.heap.size + 1) ∧ BelR B w W := by
  refine ⟨h.addZ hP.bel (by omega) (by have := hP.sz; omega), ?_⟩
  have hB : B ≤ w.heap.size := Nat.le_trans h.ge.1 (Nat.le_of_lt (heap_lt h.hb))
  exact ⟨⟨hP.bel.os, hP.bel.tape, hP.bel.output, hP.bel.size, fun k hk => hP.bel.block k (by omega)⟩, Below.keepOps hP.bel⟩
theorem bel_trans {B : Nat} {a b c : World} (h : BelR B a b) (k : Below b.heap.size b c) (hB : B ≤ b.heap.size) : BelR B a c := ⟨h.bel.trans (k.mono hB), h.ops.trans (Below.keepOps k)⟩
theorem bel_mut {B mb : Nat} {a b c : World} (h : BelR B a b) (k : Mut mb b c) (hB : B ≤ b.heap.size) (hm : B ≤ mb) (hn : ¬ OpBlk b mb) : BelR B a c :=
  ⟨⟨k.os.trans h.bel.os, k.tape.trans h.bel.tape, k.output.trans h.bel.output, Nat.le_trans h.bel.size k.size, fun i hi => (k.block i (by omega) (by omega)).trans (h.bel.block i hi)⟩, h.ops.trans (k.keepOps hn)⟩
theorem bel_chg {P : Nat → Prop} {B : Nat} {a b c : World} (h : BelR B a b) (k : Chg P b c) (hB : B ≤ b.heap.size) (hP : ∀ i, P i → B ≤ i ∧ ¬ OpBlk b i) : BelR B a c :=
  ⟨h.bel.trans (Chg.below k (Below.refl B b) hB (fun i hi => (hP i hi).1)), h.ops.trans (k.keepOps (fun i hi => (hP i hi).2))⟩

/-- The answer's box, still empty. -/
def Res (V : World) (R : Nat) : Prop := V.heap[R]? = some (.cells #[.int .u8 0, .slice none 0 0, .slice none 0 0, .slice none 0 0, .int .i64 0] 38 (0, 0))
theorem Res.cells {V : World} {R : Nat} (h : Res V R) : V.cell? ⟨R, 0, none⟩ = some (.int .u8 0) ∧ V.cell? ⟨R, 1, none⟩ = some (.slice none 0 0) ∧ V.cell? ⟨R, 2, none⟩ = some (.slice none 0 0) ∧ V.cell? ⟨R, 3, none⟩ = some (.slice none 0 0) ∧ V.cell? ⟨R, 4, none⟩ = some (.int .i64 0) ∧ ∀ i, V.frozen? ⟨R, i, none⟩ = false := by
  unfold Res at h
  refine ⟨?_, ?_, ?_, ?_, ?_, fun i => ?_⟩ <;> simp [World.cell?, World.frozen?, h]
theorem Res.keep {V V' : World} {R : Nat} (h : Res V R) (hb : V'.heap[R]? = V.heap[R]?) : Res V' R := hb.trans h

set_option maxRecDepth 100000 in
theorem retR {Q : Ending → World → Prop} {V : World} {R : Nat} {a b c d e : Value} {A : Act} (hA : A.tmps.getD 4 undef = .pointer (some ⟨R, 0, none⟩)) (hD : A.defers = []) (hR : Res V R) (hQ : Q (.returned (.agg #[a, b, c, d, e])) (ansW V R a b c d e)) : bodyPost Tryd.prog Tryd.f14 Q .ret A (ansW V R a b c d e) := by
  obtain ⟨y0, y1, y2, y3, y4⟩ := ansW_cells (a := a) (b := b) (c := c) (d := d) (e := e) hR
  generalize ansW V R a b c d e = W at *
  refine bodyPost_ret (v := .agg #[a, b, c, d, e]) ?_ hD hQ
  have hA' : A.tmps[4]?.getD undef = .pointer (some ⟨R, 0, none⟩) := by simpa using hA
  simp [results, Tryd.results14, go_sem, hA', y0, y1, y2, y3, y4]

/-- All that a step of the bench starts from. -/
structure InR (B : Nat) (w : World) (bb sb cb mb k m k2 m2 : Nat) (v1 : Value) (ss : List Sd) (v2 : Value) (ts : List Sd) (pm : Nat) (o : KOp) (e : Nat → Addr) : Prop where
  E : KErrs 10 w e
  rs : RS B w bb sb cb mb k m k2 m2 v1 ss v2 ts pm NoZ
  op : OpOk w o
  pm0 : 4096 ≤ pm
  pm1 : pm ≤ 1000000

set_option maxRecDepth 100000 in
set_option maxHeartbeats 4000000 in
theorem stepR0_bad {B : Nat} {w : World} {bb sb cb mb k m k2 m2 : Nat} {v1 v2 : Value} {ss ts : List Sd} {pm : Nat} {o : KOp} {e : Nat → Addr} (h : InR B w bb sb cb mb k m k2 m2 v1 ss v2 ts pm o e) (h0 : o.kind = 0) (hg : geo o.k o.m = false) :
    Calls Tryd.prog 14 #[.pointer (some ⟨bb, 0, none⟩), opV o] w (StepR B w bb sb k m k2 m2 ss v2 ts pm o) := by
  have hI : Tryd.prog.isIface 48 = true := by kernel_rfl
  have hP := pro w o
  obtain ⟨W, hW⟩ : ∃ W, (w.alloc (opB o)).alloc ansZ = W := ⟨_, rfl⟩
  rw [hW] at hP
  obtain ⟨hRW, hBW⟩ := begR h.rs hP
  have HRW : Hid _ := hRW
  have HBW : Hid (BelR B w W ∧ B ≤ W.heap.size) := ⟨hBW, by have := hRW.hz _ rfl; omega⟩
  have c0 : W.cell? ⟨w.heap.size, 0, none⟩ = some (.int .u8 o.kind) := hP.cell 0
  have c1 : W.cell? ⟨w.heap.size, 1, none⟩ = some (.int .i64 o.k) := hP.cell 1
  have c2 : W.cell? ⟨w.heap.size, 2, none⟩ = some (.int .i64 o.m) := hP.cell 2
  have b0 : ((o.kind : Int) == 0) = true := by simp; omega
  have HNe : Hid _ := new_bad 10 o.k o.m e W (h.E.below hP.bel) (by omega) h.op.hk.1 h.op.hk.2 h.op.hm.1 h.op.hm.2 hg
  have HE : Hid (KErrs 10 W e) := h.E.below hP.bel
  have HRes : Hid (Res W (w.heap.size + 1)) := hP.res
  have HSpec : Hid (Spec k m ss o (ansE 1) k m ss) := by
    show Spec k m ss o (ansE 1) k m ss
    unfold Spec; rw [if_pos h0]; exact .inl ⟨hg, AnsEq.refl _, rfl, rfl, SL.refl _⟩
  unfold opB ansZ at hW
  unfold opV
  clear h hP hRW hBW hg h0
  go_enter Tryd.func14, Tryd.ntmps14
  go_wp2_with fail
  refine Calls.mono HNe.out ?_
  rintro r w1 ⟨rfl, q1, hw1⟩
  have hb1 : Below W.heap.size W w1 := by rw [hw1]; exact drewN_below _ _ _
  have HB1 : Hid (Below W.heap.size W w1) := hb1
  have HCl : Hid _ := class_any w1 e (HE.out.below hb1) 0 (by omega)
  unfold errV at HCl ⊢
  clear hw1 hb1 HNe c0 c1 c2 hW
  go_wp2_with fail
  refine Calls.mono HCl.out ?_
  rintro r w2 ⟨rfl, hb2⟩
  have hb02 : Below W.heap.size W w2 := HB1.out.trans (hb2.mono HB1.out.size)
  have hres2 : Res w2 (w.heap.size + 1) := HRes.out.keep (hb02.block _ (HRW.out.hz _ rfl).1)
  have HR2 : Hid (Res w2 (w.heap.size + 1)) := hres2
  obtain ⟨r0, r1, r2, r3, r4, rf⟩ := hres2.cells
  have HF : Hid (StepR B w bb sb k m k2 m2 ss v2 ts pm o (.returned (.agg #[.int .u8 1, .slice none 0 0, .slice none 0 0, .slice none 0 0, .int .i64 0])) (ansW w2 (w.heap.size + 1) (.int .u8 1) (.slice none 0 0) (.slice none 0 0) (.slice none 0 0) (.int .i64 0))) :=
    finR ((HRW.out.below hb02).more (Nat.le_succ _)) HSpec.out (bel_trans HBW.out.1 hb02 HBW.out.2) (fun w3 _ => AnsOk.num w3 1 0)
  clear hb2 hb02 hres2 HCl HRW HBW HB1 HE HRes HSpec
  go_wp2
  exact retR rfl rfl HR2.out HF.out
end Go.Proofs.Qxb6500697aDoor
