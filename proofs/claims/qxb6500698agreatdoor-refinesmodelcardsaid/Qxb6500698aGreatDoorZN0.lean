/-
  WHAT EVERY STEP OF THE MODEL SHARES.
-/
import Derived.Test.Qxb6500698aGreatDoorZM4
namespace Go.Proofs.Qxb6500698aGreatDoor
open Go.RowKit
structure InN (B : Nat) (w : World) (l : Ml) (s : ZSt) (o : OpD) : Prop where
  zm : ZM B w l s
  op : OpZ B w o
  fm : s.F.length ≤ 4398046511104
/-- What a step of the model gives. -/
def StM (B : Nat) (w : World) (l : Ml) (s : ZSt) (o : OpD) (r : Ending) (w' : World) : Prop :=
  ∃ l' a c, r = .returned (ansV (zstep s o).2.cr (zstep s o).2.fl (zstep s o).2.ln (zstep s o).2.v a (zstep s o).2.dat.length c (zstep s o).2.er) ∧ MSt B w w' l l' s (zstep s o).1 ∧ BRow w' a (zstep s o).2.dat
/-- Behind the beginning of a step. -/
structure ProM (B : Nat) (w W : World) (l : Ml) (s : ZSt) (o : OpD) : Prop where
  bel : Below w.heap.size w W
  sz : W.heap.size = w.heap.size + 2
  box : W.heap[w.heap.size]? = some (.cells #[.int .u8 (o.kind : Int), .slice o.da o.bs.length o.dc, .int .u8 (o.b : Int), .int .i64 o.n, .int .u64 (o.v : Int), .int .i64 o.width] 32 (0, 0))
  res : Res W (w.heap.size + 1)
  zm : ZM B W l s
  z0 : ZM B w l s
  Bw : B ≤ w.heap.size
theorem proM {B : Nat} {w W : World} {l : Ml} {s : ZSt} {o : OpD} (h : InN B w l s o) (hW : (w.alloc (opB o)).alloc ans0 = W) : ProM B w W l s o := by
  have hb : Below w.heap.size w W := by rw [← hW]; exact ((Below.refl _ _).alloc (Nat.le_refl _) _).alloc (by simp) _
  have hB : B ≤ w.heap.size := Nat.le_trans h.zm.hB (Nat.le_of_lt h.zm.lt)
  refine ⟨hb, by rw [← hW]; simp, ?_, ?_, h.zm.below hb, h.zm, hB⟩
  · rw [← hW, Below.heap_alloc _ _ _ (by simp)]; exact heap_alloc_new w _
  · have hx := heap_alloc_new (w.alloc (opB o)) ans0
    rw [hW] at hx
    have e1 : (w.alloc (opB o)).heap.size = w.heap.size + 1 := by simp
    rw [e1] at hx
    exact hx
section
variable {B : Nat} {w W V V1 : World} {l l' L1 : Ml} {s s' S1 : ZSt} {o : OpD}
theorem ProM.cell (h : ProM B w W l s o) (i : Nat) : W.cell? ⟨w.heap.size, i, none⟩ = (#[Value.int .u8 (o.kind : Int), .slice o.da o.bs.length o.dc, .int .u8 (o.b : Int), .int .i64 o.n, .int .u64 (o.v : Int), .int .i64 o.width])[i]? := by simp [World.cell?, h.box]
/-- The step's box is as it was. -/
theorem MSt.opc (h : MSt B W V l l' s s') (hP : ProM B w W l s o) (i : Nat) : V.cell? ⟨w.heap.size, i, none⟩ = (#[Value.int .u8 (o.kind : Int), .slice o.da o.bs.length o.dc, .int .u8 (o.b : Int), .int .i64 o.n, .int .u64 (o.v : Int), .int .i64 o.width])[i]? := by
  have e1 : V.heap[w.heap.size]? = W.heap[w.heap.size]? := h.chg.block w.heap.size (by have := hP.sz; omega) (fun hx => by have := (hP.z0.mlt hx).2; omega)
  exact (World.cell?_of_block (a := ⟨w.heap.size, i, none⟩) e1).trans (hP.cell i)
/-- The answer's box, still there. -/
theorem MSt.res (h : MSt B W V l l' s s') (hP : ProM B w W l s o) : Res V (w.heap.size + 1) :=
  hP.res.keep (h.chg.block _ (by have := hP.sz; omega) (fun hx => by have := (hP.z0.mlt hx).2; omega))
/-- The end of a step. -/
theorem MSt.fin (h : MSt B W V l l' s s') (hP : ProM B w W l s o) (p q r t u x : Value) : MSt B w (ansW V (w.heap.size + 1) p q r t u x) l l' s s' := by
  have hsz := hP.sz
  have hA := ansW_only V (w.heap.size + 1) p q r t u x
  have n1 : ∀ b, MW l' b ∨ MI l' s' b → b ≠ w.heap.size + 1 := fun b hb => by
    rcases h.new b hb with h1 | h1 | h1
    · have := (hP.z0.mlt h1).2; omega
    · have := hP.z0.ilt h1; omega
    · omega
  have h1 : MSt B w V l l' s s' := (MSt.start hP.z0 hP.bel).trans h
  exact ⟨h.zm.keep (fun b hb => hA.block b (n1 b hb)) (Nat.le_of_eq hA.size.symm), h1.chg.then (Only.chg (P := fun b => b = w.heap.size + 1) hA rfl) (fun i hi => .inr (by omega)), h1.sb, h1.new, h1.nw⟩
theorem StM.mk0 {cr fl ln v er : Nat} (h : MSt B W V l l' s s') (hP : ProM B w W l s o) (hz : zstep s o = (s', ⟨cr, fl, ln, v, [], er⟩)) : StM B w l s o (.returned (ansV cr fl ln v none 0 0 er)) (ansW V (w.heap.size + 1) (.int .u32 (cr : Int)) (.int .u32 (fl : Int)) (.int .u64 (ln : Int)) (.int .u64 (v : Int)) (.slice none 0 0) (.int .u8 (er : Int))) := by
  unfold StM
  rw [hz]
  exact ⟨l', none, 0, rfl, h.fin hP _ _ _ _ _ _, BRow.nil _ _⟩
theorem StM.mk1 {cr fl ln v er c n : Nat} {dat : List Nat} {a : Option Addr} (h : MSt B W V l l' s s') (hP : ProM B w W l s o) (hz : zstep s o = (s', ⟨cr, fl, ln, v, dat, er⟩)) (hr : BRow V a dat) (hn : dat.length = n) (ha : dat ≠ [] → ∀ b o', a = some ⟨b, o', none⟩ → b ≠ w.heap.size + 1) : StM B w l s o (.returned (ansV cr fl ln v a n c er)) (ansW V (w.heap.size + 1) (.int .u32 (cr : Int)) (.int .u32 (fl : Int)) (.int .u64 (ln : Int)) (.int .u64 (v : Int)) (.slice a n c) (.int .u8 (er : Int))) := by
  unfold StM
  rw [hz, ← hn]
  exact ⟨l', a, c, rfl, h.fin hP _ _ _ _ _ _, brow_keep hr (fun hne b o' he => (ansW_only _ _ _ _ _ _ _ _).block b (ha hne b o' he))⟩
/-- The end of a step of the reader. -/
theorem showEnd {x n c : Nat} {a : Option Addr} {dat : List Nat} (hP : ProM B w W l s o) (hz : zstep s o = (S1, readA S1 x dat)) (hS1 : MSt B W V1 l L1 s S1) (hrow : BRow V1 a dat) (hn : dat.length = n) (hl : n ≤ 65536) :
    Calls Tryz.prog 45 #[.pointer (some ⟨l.sb, 0, none⟩), .int .u64 (x : Int), .slice a n c] V1 fun r V2 => ∃ a' c', r = .returned (ansV 0 0 S1.I.length x a' n c' (errCode S1.ie)) ∧ MSt B W V2 l L1 s S1 ∧ Res V2 (w.heap.size + 1) ∧ StM B w l s o (.returned (ansV 0 0 S1.I.length x a' n c' (errCode S1.ie))) (ansW V2 (w.heap.size + 1) (.int .u32 ((0 : Nat) : Int)) (.int .u32 ((0 : Nat) : Int)) (.int .u64 (S1.I.length : Int)) (.int .u64 (x : Int)) (.slice a' n c') (.int .u8 (errCode S1.ie : Int))) := by
  rw [← hS1.sb]
  refine (shows_any2 (l := L1) hS1.zm hrow hn hl).mono ?_
  rintro r V2 ⟨a', c', h1, h2, h3, h4⟩
  have hS2 := hS1.below h4
  have hs1 := hS1.chg.size
  have hsz := hP.sz
  exact ⟨a', c', h1, hS2, hS2.res hP, StM.mk1 hS2 hP hz h2 hn (fun h0 b o' he => by have := h3 h0 b o' he; omega)⟩
theorem StM.drew {r : Ending} (h : StM B w l s o r V) : StM B w l s o r V.drew := by
  obtain ⟨l', a, c, h1, h2, h3⟩ := h
  have hb : Below V.heap.size V V.drew := (Below.refl _ _).drew
  exact ⟨l', a, c, h1, h2.below hb, h3.below hb⟩
end
set_option maxRecDepth 100000 in
theorem retStepMd {Q : Ending → World → Prop} {V : World} {R : Nat} {a b c d e f : Value} {A : Act} (hA : A.tmps.getD 4 undef = .pointer (some ⟨R, 0, none⟩)) (hD : A.defers = []) (hR : Res V R) (hQ : Q (.returned (.agg #[a, b, c, d, e, f])) (ansW V R a b c d e f).drew) : bodyPost Tryz.prog Tryz.f9 Q .ret A (ansW V R a b c d e f).drew := by
  have hy := ansW_cells (a := a) (b := b) (c := c) (d := d) (e := e) (f := f) hR
  generalize ansW V R a b c d e f = W0 at *
  have hy' : W0.drew.cell? ⟨R, 0, none⟩ = some a ∧ W0.drew.cell? ⟨R, 1, none⟩ = some b ∧ W0.drew.cell? ⟨R, 2, none⟩ = some c ∧ W0.drew.cell? ⟨R, 3, none⟩ = some d ∧ W0.drew.cell? ⟨R, 4, none⟩ = some e ∧ W0.drew.cell? ⟨R, 5, none⟩ = some f := hy
  clear hy
  generalize W0.drew = W at *
  obtain ⟨y0, y1, y2, y3, y4, y5⟩ := hy'
  refine bodyPost_ret (v := .agg #[a, b, c, d, e, f]) ?_ hD hQ
  have hA' : A.tmps[4]?.getD undef = .pointer (some ⟨R, 0, none⟩) := by simpa using hA
  simp [results, Tryz.results9, go_sem, hA', y0, y1, y2, y3, y4, y5]
set_option maxRecDepth 100000 in
theorem retStepM {Q : Ending → World → Prop} {V : World} {R : Nat} {a b c d e f : Value} {A : Act} (hA : A.tmps.getD 4 undef = .pointer (some ⟨R, 0, none⟩)) (hD : A.defers = []) (hR : Res V R) (hQ : Q (.returned (.agg #[a, b, c, d, e, f])) (ansW V R a b c d e f)) : bodyPost Tryz.prog Tryz.f9 Q .ret A (ansW V R a b c d e f) := by
  obtain ⟨y0, y1, y2, y3, y4, y5⟩ := ansW_cells (a := a) (b := b) (c := c) (d := d) (e := e) (f := f) hR
  generalize ansW V R a b c d e f = W at *
  refine bodyPost_ret (v := .agg #[a, b, c, d, e, f]) ?_ hD hQ
  have hA' : A.tmps[4]?.getD undef = .pointer (some ⟨R, 0, none⟩) := by simpa using hA
  simp [results, Tryz.results9, go_sem, hA', y0, y1, y2, y3, y4, y5]
end Go.Proofs.Qxb6500698aGreatDoor
