/-
  THE MODEL's STEP: the beginning and the end that every kind shares; a kind that is none.
-/
import Derived.Test.Qxb6500697aDoorMRAll
namespace Go.Proofs.Qxb6500697aDoor
open Go.RowKit

/-- All that a step of the model starts from. -/
structure InM (B : Nat) (w : World) (bb sb cb mb k m k2 m2 : Nat) (v1 : Value) (ss : List Sd) (v2 : Value) (ts : List Sd) (pm : Nat) (o : KOp) : Prop where
  rs : RS B w bb sb cb mb k m k2 m2 v1 ss v2 ts pm NoZ
  op : OpOk w o
  pm0 : 4096 ≤ pm
  pm1 : pm ≤ 1000000

/-- The end of a step of the model. -/
theorem finM {B : Nat} {w V : World} {bb sb cb mb k m k2 m2 k2' m2' R : Nat} {v1 v2 v2' : Value} {ss ts ts' : List Sd} {pm : Nat} {o : KOp} {A : Ans} {a b c d e : Value}
    (hV : RS B V bb sb cb mb k m k2' m2' v1 ss v2' ts' (pm + 1) (fun b => b = R)) (hsp : Spec k2 m2 ts o A k2' m2' ts') (hC : Chg (PM sb v2 ts) w V) (hR : w.heap.size ≤ R) (hA : ∀ w2, Chg (fun b => b = R) V w2 → AnsOk w2 (.agg #[a, b, c, d, e]) A) :
    StepM B w bb sb cb mb k m k2 m2 v1 ss v2 ts pm o (.returned (.agg #[a, b, c, d, e])) (ansW V R a b c d e) := by
  have hO := ansW_only V R a b c d e
  have h1 : Below R V (ansW V R a b c d e) := hO.below (Nat.le_refl _)
  refine ⟨_, A, k2', m2', v2', ts', rfl, hsp, (hV.putZ rfl hO).dropZ, hA _ (Only.chg (P := fun b => b = R) hO rfl), ?_⟩
  exact ⟨h1.os.trans hC.os, h1.tape.trans hC.tape, h1.output.trans hC.output, Nat.le_trans hC.size h1.size, fun i hi hn => (h1.block i (by omega)).trans (hC.block i hi hn)⟩

set_option maxRecDepth 100000 in
theorem retM {Q : Ending → World → Prop} {V : World} {R : Nat} {a b c d e : Value} {A : Act} (hA : A.tmps.getD 4 undef = .pointer (some ⟨R, 0, none⟩)) (hD : A.defers = []) (hR : Res V R) (hQ : Q (.returned (.agg #[a, b, c, d, e])) (ansW V R a b c d e)) : bodyPost Tryd.prog Tryd.f16 Q .ret A (ansW V R a b c d e) := by
  obtain ⟨y0, y1, y2, y3, y4⟩ := ansW_cells (a := a) (b := b) (c := c) (d := d) (e := e) hR
  generalize ansW V R a b c d e = W at *
  refine bodyPost_ret (v := .agg #[a, b, c, d, e]) ?_ hD hQ
  have hA' : A.tmps[4]?.getD undef = .pointer (some ⟨R, 0, none⟩) := by simpa using hA
  simp [results, Tryd.results16, go_sem, hA', y0, y1, y2, y3, y4]

/-- An end that leaves the state as it was: memory only grown. -/
theorem finM0 {B : Nat} {w W V : World} {bb sb cb mb k m k2 m2 : Nat} {v1 v2 : Value} {ss ts : List Sd} {pm : Nat} {o : KOp} {A : Ans} {a b c d e : Value}
    (hW : RS B W bb sb cb mb k m k2 m2 v1 ss v2 ts pm (fun b => b = w.heap.size + 1)) (hP : Below w.heap.size w W) (hb : Below W.heap.size W V) (hsp : Spec k2 m2 ts o A k2 m2 ts) (hA : ∀ w2, Chg (fun b => b = w.heap.size + 1) V w2 → AnsOk w2 (.agg #[a, b, c, d, e]) A) :
    StepM B w bb sb cb mb k m k2 m2 v1 ss v2 ts pm o (.returned (.agg #[a, b, c, d, e])) (ansW V (w.heap.size + 1) a b c d e) :=
  finM ((hW.below hb).more (Nat.le_succ _)) hsp (Below.chg (hP.trans (hb.mono hP.size)) _) (Nat.le_succ _) hA
theorem Res.below {V V' : World} {R : Nat} (h : Res V R) (hb : Below V.heap.size V V') : Res V' R := h.keep (hb.block R (heap_lt h))

set_option maxRecDepth 100000 in
set_option maxHeartbeats 4000000 in
theorem stepM10 {B : Nat} {w : World} {bb sb cb mb k m k2 m2 : Nat} {v1 v2 : Value} {ss ts : List Sd} {pm : Nat} {o : KOp} (h : InM B w bb sb cb mb k m k2 m2 v1 ss v2 ts pm o) (h0 : 9 < o.kind) :
    Calls Tryd.prog 16 #[.pointer (some ⟨sb, 0, none⟩), opV o] w (StepM B w bb sb cb mb k m k2 m2 v1 ss v2 ts pm o) := by
  have hP := pro w o
  obtain ⟨W, hW⟩ : ∃ W, (w.alloc (opB o)).alloc ansZ = W := ⟨_, rfl⟩
  rw [hW] at hP
  obtain ⟨hRW, hBW⟩ := begR h.rs hP
  have c0 : W.cell? ⟨w.heap.size, 0, none⟩ = some (.int .u8 o.kind) := hP.cell 0
  have b0 : ((o.kind : Int) == 0) = false := by simp; omega
  have b1 : ((o.kind : Int) == 1) = false := by simp; omega
  have b2 : ((o.kind : Int) == 2) = false := by simp; omega
  have b3 : ((o.kind : Int) == 3) = false := by simp; omega
  have b4 : ((o.kind : Int) == 4) = false := by simp; omega
  have b5 : ((o.kind : Int) == 5) = false := by simp; omega
  have b6 : ((o.kind : Int) == 6) = false := by simp; omega
  have b7 : ((o.kind : Int) == 7) = false := by simp; omega
  have b8 : ((o.kind : Int) == 8) = false := by simp; omega
  have b9 : ((o.kind : Int) == 9) = false := by simp; omega
  have hres3 : Res W (w.heap.size + 1) := hP.res
  have HR3 : Hid (Res W (w.heap.size + 1)) := hres3
  obtain ⟨r0, r1, r2, r3, r4, rf⟩ := hres3.cells
  have HF : Hid (StepM B w bb sb cb mb k m k2 m2 v1 ss v2 ts pm o (.returned (.agg #[.int .u8 0, .slice none 0 0, .slice none 0 0, .slice none 0 0, .int .i64 0])) (ansW W (w.heap.size + 1) (.int .u8 0) (.slice none 0 0) (.slice none 0 0) (.slice none 0 0) (.int .i64 0))) :=
    finM0 hRW hP.bel (Below.refl _ _) (Spec.k10 h0) (fun w3 _ => AnsOk.num w3 0 0)
  unfold opB ansZ at hW
  unfold opV
  clear h hP hRW hBW h0 hres3
  go_enter Tryd.func16, Tryd.ntmps16
  go_wp2
  exact retM rfl rfl HR3.out HF.out
end Go.Proofs.Qxb6500697aDoor
