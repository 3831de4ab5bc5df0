/-
  THE CODEC'S MAP OF DECODE MATRICES.
-/
import Derived.Test.Qxb6500697aDoorKGath
import Derived.Test.Qxb6500697aDoorKMds
import Derived.Maps.Keyed
import Derived.DeepKeys4
import Derived.Maps.Own
namespace Go.Proofs.Qxb6500697aDoor
open Go.RowKit
open Go.ChangeMaps (setBlock heap_setBlock_same heap_setBlock_other)

def keyV (fam r : Nat) : Value := .agg #[.int .u8 (fam : Int), .int .u16 (r : Int)]

theorem Tryd.laidOut : laidOutB Tryd.prog = true := by kernel_rfl
theorem Tryd.keyRow : (177 : TypeId) < Tryd.prog.types.size := of_decide_eq_true (by kernel_rfl)
theorem Tryd.keyAt : Tryd.prog.keyTypeAt 2 177 = true := by kernel_rfl
theorem Tryd.keyLaw : WideMaps.KeyLaw Tryd.prog 177 := deep_law_laid Tryd.laidOut (m := 2) (by omega) Tryd.keyRow Tryd.keyAt (by rw [Tryd.underlying177])
theorem Tryd.keyed : Maps.Keyed Tryd.prog 177 := Maps.Keyed.of_law Tryd.keyLaw
theorem Tryd.keyType : Tryd.prog.keyType 177 = true := by kernel_rfl
theorem Tryd.keySize : ∃ n, Tryd.prog.types.size + 1 = n + 2 := ⟨Tryd.prog.types.size - 1, by have h : 0 < Tryd.prog.types.size := Nat.lt_of_le_of_lt (Nat.zero_le _) Tryd.keyRow; omega⟩
theorem Tryd.keyCells : Tryd.prog.cellsOf 177 = 2 := by kernel_rfl
theorem Tryd.famCells : Tryd.prog.cellsOf 93 = 1 := by kernel_rfl
theorem Tryd.setCells : Tryd.prog.cellsOf 117 = 1 := by kernel_rfl

theorem keyOf_keyV (fam r : Nat) (hf : fam ≤ 1) (hr : r < 65536) : ∃ l, keyOf Tryd.prog 177 (keyV fam r) = some l := by
  obtain ⟨n, hn⟩ := Tryd.keySize
  have w1 : (Lit.int .u8 (fam : Int)).wf = true := by simp [Lit.wf, IntKind.min, IntKind.max, IntKind.signed, IntKind.bits]; omega
  have w2 : (Lit.int .u16 (r : Int)).wf = true := by simp [Lit.wf, IntKind.min, IntKind.max, IntKind.signed, IntKind.bits]; omega
  refine ⟨.string (keyBytes [.int .u8 (fam : Int), .int .u16 (r : Int)]), ?_⟩
  unfold keyOf keyV
  rw [Tryd.underlying177, Tryd.keyType, hn]
  simp [Value.formed, Tryd.underlying177, Tryd.keyCells, Value.cells, Program.keyLits, Tryd.underlying93, Tryd.underlying117, Tryd.famCells, Tryd.setCells, w1, w2]

theorem keyV_inj {f r f' r' : Nat} (h : keyV f r = keyV f' r') : f = f' ∧ r = r' := by
  unfold keyV at h
  simp at h
  omega

/-! ### The rows of a set -/
/-- The members of a set below N, rising. -/
def bitsL (r N : Nat) : List Nat := (List.range N).filter (fun i => r.testBit i)
theorem bitsL_succ (r N : Nat) : bitsL r (N + 1) = bitsL r N ++ (if r.testBit N then [N] else []) := by
  unfold bitsL
  rw [List.range_succ, List.filter_append]
  congr 1
  simp only [List.filter_cons, List.filter_nil]
theorem mem_bitsL {r N i : Nat} : i ∈ bitsL r N ↔ i < N ∧ r.testBit i = true := by
  unfold bitsL; rw [List.mem_filter, List.mem_range]
theorem bitsL_nodup (r N : Nat) : (bitsL r N).Nodup := List.Pairwise.filter _ List.nodup_range
theorem bitsL_get {r N t : Nat} (h : t < (bitsL r N).length) : (bitsL r N).getD t 0 < N ∧ r.testBit ((bitsL r N).getD t 0) = true := mem_bitsL.1 (getD_mem h)
theorem bitsL_inj {r N s t : Nat} (hs : s < (bitsL r N).length) (ht : t < (bitsL r N).length) (h : (bitsL r N).getD s 0 = (bitsL r N).getD t 0) : s = t := by
  rw [List.getD_eq_getElem?_getD, List.getD_eq_getElem?_getD, List.getElem?_eq_getElem hs, List.getElem?_eq_getElem ht] at h
  exact (List.getElem_inj (bitsL_nodup r N)).1 h
theorem bitsL_pos {r N i : Nat} (h : i < N) (hb : r.testBit i = true) : ∃ t, t < (bitsL r N).length ∧ (bitsL r N).getD t 0 = i := by
  obtain ⟨t, ht, he⟩ := List.getElem_of_mem (mem_bitsL.2 ⟨h, hb⟩)
  exact ⟨t, ht, by rw [List.getD_eq_getElem?_getD, List.getElem?_eq_getElem ht]; exact he⟩

/-- A family's generator. -/
def gfam (fam k : Nat) : Nat → Nat → Nat := if fam = 0 then vand k else cauchy k
theorem gfam_pfam (g k : Nat) : gfam (pfam g) k = genr g k := by
  unfold gfam pfam genr
  by_cases h : g = 1
  · simp [h]
  · simp [h]
def dsub (fam k N r : Nat) : Nat → Nat → Nat := fun t => gfam fam k ((bitsL r N).getD t 0)
/-- The decode matrix of the rows r. -/
def dmat (fam k N r : Nat) : Nat → Nat → Nat := ((gjS k (dsub fam k N r) k).getD (gone, gone)).2

theorem dmat_spec (g k N r : Nat) (hk : k ≤ 16) (hN : N ≤ 16) (hc : (bitsL r N).length = k) :
    (∃ s, gjS k (dsub (pfam g) k N r) k = some s ∧ s.2 = dmat (pfam g) k N r) ∧ Byt k k (dmat (pfam g) k N r) ∧ ∀ p, BytV k p → ∀ t, t < k → gdot (genr g k ((bitsL r N).getD t 0)) (fun j => gdot (dmat (pfam g) k N r j) p k) k = p t := by
  obtain ⟨s, h1, h2, h3⟩ := genr_inv g k hk (fun t => (bitsL r N).getD t 0) (fun t ht => by have := (bitsL_get (r := r) (N := N) (t := t) (by omega)).1; omega) (fun s t hs ht e => bitsL_inj (by omega) (by omega) e)
  have e1 : (fun t => genr g k ((bitsL r N).getD t 0)) = dsub (pfam g) k N r := by funext t; unfold dsub; rw [gfam_pfam]
  rw [e1] at h1
  have e2 : dmat (pfam g) k N r = s.2 := by unfold dmat; rw [h1]; rfl
  rw [e2]
  exact ⟨⟨s, h1, rfl⟩, h2, h3⟩

/-! ### The map -/
/-- Block mb alone may have been written, or memory made. -/
structure Mut (mb : Nat) (w w' : World) : Prop where
  os : w'.os = w.os
  tape : w'.tape = w.tape
  output : w'.output = w.output
  size : w.heap.size ≤ w'.heap.size
  block : ∀ b, b < w.heap.size → b ≠ mb → w'.heap[b]? = w.heap[b]?
theorem Mut.refl (mb : Nat) (w : World) : Mut mb w w := ⟨rfl, rfl, rfl, Nat.le_refl _, fun _ _ _ => rfl⟩
theorem Mut.trans {mb : Nat} {a b c : World} (h : Mut mb a b) (k : Mut mb b c) : Mut mb a c :=
  ⟨k.os.trans h.os, k.tape.trans h.tape, k.output.trans h.output, Nat.le_trans h.size k.size, fun i hi hn => (k.block i (Nat.lt_of_lt_of_le hi h.size) hn).trans (h.block i hi hn)⟩
theorem Below.mut {w w' : World} (h : Below w.heap.size w w') (mb : Nat) : Mut mb w w' := ⟨h.os, h.tape, h.output, h.size, fun b hb _ => h.block b hb⟩
theorem Mut.below {mb : Nat} {a w w' : World} (h : Mut mb w w') (hb : Below a.heap.size a w) (hm : a.heap.size ≤ mb) : Below a.heap.size a w' :=
  ⟨h.os.trans hb.os, h.tape.trans hb.tape, h.output.trans hb.output, Nat.le_trans hb.size h.size, fun i hi => (h.block i (Nat.lt_of_lt_of_le hi hb.size) (by omega)).trans (hb.block i hi)⟩

theorem map_cell {w : World} {mb b o : Nat} {es : Array MapEntry} {c : Nat} {v : Value} (h : w.heap[mb]? = some (.map es c)) (hc : w.cell? ⟨b, o, none⟩ = some v) : b ≠ mb := by
  intro e
  subst e
  simp [World.cell?, h] at hc
theorem Mut.keeps {mb : Nat} {w w' : World} {es : Array MapEntry} {c : Nat} (h : Mut mb w w') (hm : w.heap[mb]? = some (.map es c)) : Keeps w w' := fun b o _ hv =>
  (World.cell?_of_block (a := ⟨b, o, none⟩) (h.block b (cell_lt hv) (map_cell hm hv))).trans hv

/-- The entries of a codec's map. -/
def Ents (X : Nat → Prop) (w : World) (k N : Nat) (es : Array MapEntry) : Prop := es.toList.Pairwise (fun x y => x.key ≠ y.key) ∧
  ∀ x ∈ es.toList, ∃ fam r H c, x.key = keyV fam r ∧ fam ≤ 1 ∧ r < 65536 ∧ x.val = .slice (some ⟨H, 0, none⟩) k c ∧ k ≤ c ∧ c ≤ 9223372036854775807 ∧ RMatF w (fun b => ¬ X b) (some ⟨H, 0, none⟩) k k (dmat fam k N r)
structure Cache (X : Nat → Prop) (w : World) (mb k N : Nat) : Prop where
  ents : ∃ es clock, w.heap[mb]? = some (.map es clock) ∧ es.size ≤ 128 ∧ Ents X w k N es
theorem Ents.keeps {X : Nat → Prop} {w w' : World} {k N : Nat} {es : Array MapEntry} (h : Ents X w k N es) (kp : Keeps w w') : Ents X w' k N es := by
  refine ⟨h.1, fun x hx => ?_⟩
  obtain ⟨fam, r, H, c, h1, h2, h3, h4, h5, h6, h7⟩ := h.2 x hx
  exact ⟨fam, r, H, c, h1, h2, h3, h4, h5, h6, h7.keeps kp⟩
theorem key_unique {l : List MapEntry} (h : l.Pairwise (fun x y => x.key ≠ y.key)) {x y : MapEntry} (hx : x ∈ l) (hy : y ∈ l) (e : x.key = y.key) : x = y := by
  induction l with
  | nil => cases hx
  | cons a l ih =>
    obtain ⟨h1, h2⟩ := List.pairwise_cons.1 h
    rcases List.mem_cons.1 hx with hx1 | hx1 <;> rcases List.mem_cons.1 hy with hy1 | hy1
    · rw [hx1, hy1]
    · exact absurd (by rw [← hx1]; exact e) (h1 y hy1)
    · exact absurd (by rw [← hy1]; exact e.symm) (h1 x hx1)
    · exact ih h2 hx1 hy1
theorem Cache.keep {X : Nat → Prop} {w w' : World} {mb k N : Nat} (h : Cache X w mb k N) (kp : Keeps w w') (hb : w'.heap[mb]? = w.heap[mb]?) : Cache X w' mb k N := by
  obtain ⟨es, clock, h1, h2, h3⟩ := h.ents
  exact ⟨es, clock, hb.trans h1, h2, h3.keeps kp⟩
theorem Cache.lt {X : Nat → Prop} {w : World} {mb k N : Nat} (h : Cache X w mb k N) : mb < w.heap.size := by
  obtain ⟨es, clock, h1, _⟩ := h.ents
  exact (Array.getElem?_eq_some_iff.1 h1).1
theorem Cache.below {X : Nat → Prop} {w w' : World} {mb k N : Nat} (h : Cache X w mb k N) (hb : Below w.heap.size w w') : Cache X w' mb k N := h.keep (Below.keeps hb) (hb.block _ h.lt)
theorem Cache.empty {X : Nat → Prop} {w : World} {mb : Nat} (k N : Nat) (h : w.heap[mb]? = some (.map #[] 0)) : Cache X w mb k N := ⟨#[], 0, h, by simp, by simp, by intro x hx; simp at hx⟩
/-- Blocks that no cached matrix touches: more of them, if they were made later. -/
theorem Cache.addX {X X' : Nat → Prop} {w w' : World} {mb k N : Nat} (h : Cache X w mb k N) (hb : Below w.heap.size w w') (hX : ∀ b, X' b → X b ∨ w.heap.size ≤ b) : Cache X' w' mb k N := by
  obtain ⟨es, clock, h1, h2, h3⟩ := h.ents
  refine ⟨es, clock, (hb.block _ h.lt).trans h1, h2, h3.1, fun x hx => ?_⟩
  obtain ⟨fam, r, H, c, q1, q2, q3, q4, q5, q6, q7⟩ := h3.2 x hx
  refine ⟨fam, r, H, c, q1, q2, q3, q4, q5, q6, (q7.mono (F' := fun b => ¬ X' b) (fun b hlt hn hx' => ?_)).keeps (Below.keeps hb)⟩
  rcases hX b hx' with h5 | h5
  · exact hn h5
  · omega
/-- Only such blocks written. -/
theorem Cache.keepX {X : Nat → Prop} {w w' : World} {mb k N : Nat} (h : Cache X w mb k N) (hm : ¬ X mb) (hk : ∀ b, ¬ X b → b < w.heap.size → w'.heap[b]? = w.heap[b]?) : Cache X w' mb k N := by
  obtain ⟨es, clock, h1, h2, h3⟩ := h.ents
  refine ⟨es, clock, (hk mb hm h.lt).trans h1, h2, h3.1, fun x hx => ?_⟩
  obtain ⟨fam, r, H, c, q1, q2, q3, q4, q5, q6, q7⟩ := h3.2 x hx
  exact ⟨fam, r, H, c, q1, q2, q3, q4, q5, q6, q7.keep hk⟩
theorem Mut.keepsC {X : Nat → Prop} {mb k N : Nat} {w w' : World} (h : Mut mb w w') (hm : Cache X w mb k N) : Keeps w w' := by
  obtain ⟨es, clock, h1, _⟩ := hm.ents
  exact h.keeps h1

theorem Tryd.zeroMat (w : World) : (zeroValue 100).run Tryd.prog w = .ok (.slice none 0 0) w := by kernel_rfl

theorem look_any {w : World} {mb : Nat} {es : Array MapEntry} {clock : Nat} (hb : w.heap[mb]? = some (.map es clock)) (hk : ∀ x ∈ es.toList, ∃ f r, x.key = keyV f r ∧ f ≤ 1 ∧ r < 65536) (fam r : Nat) (hf : fam ≤ 1) (hr : r < 65536) :
    ((Instr.lookup 102 (.map (some mb)) (keyV fam r) true).run Tryd.prog w = .ok (.tuple #[.slice none 0 0, .bool false]) w ∧ ∀ x ∈ es.toList, x.key ≠ keyV fam r) ∨
    ∃ x ∈ es.toList, x.key = keyV fam r ∧ (Instr.lookup 102 (.map (some mb)) (keyV fam r) true).run Tryd.prog w = .ok (.tuple #[x.val, .bool true]) w := by
  obtain ⟨l, hl⟩ := keyOf_keyV fam r hf hr
  have hks : ∀ e ∈ es.toList, ∃ l, keyOf Tryd.prog 177 e.key = some l := by
    intro e he
    obtain ⟨f, q, h1, h2, h3⟩ := hk e he
    rw [h1]; exact keyOf_keyV f q h2 h3
  rcases Tryd.keyed.find w hl es.toList hks with ⟨h1, h2⟩ | ⟨j, e0, h1, h2, h3⟩
  · refine .inl ⟨?_, h2⟩
    simp [Instr.lookup, run_underlying Tryd.underlying102, MapKept.run_getObj_map hb, Tryd.keyed.check w _ hl, h1, Result.andThen, Tryd.zeroMat w]
  · refine .inr ⟨e0, List.mem_of_getElem? h2, h3, ?_⟩
    simp [Instr.lookup, run_underlying Tryd.underlying102, MapKept.run_getObj_map hb, Tryd.keyed.check w _ hl, h1, Result.andThen]

theorem put_any {w : World} {mb : Nat} {es : Array MapEntry} {clock : Nat} (hb : w.heap[mb]? = some (.map es clock)) (hk : ∀ x ∈ es.toList, ∃ f r, x.key = keyV f r ∧ f ≤ 1 ∧ r < 65536) (fam r : Nat) (hf : fam ≤ 1) (hr : r < 65536) (v : Value) (hne : ∀ x ∈ es.toList, x.key ≠ keyV fam r) :
    (Instr.mapUpdate 102 (.map (some mb)) (keyV fam r) v).run Tryd.prog w = .ok () (setBlock w mb (.map (es.push ⟨keyV fam r, v, clock⟩) (clock + 1))) := by
  obtain ⟨l, hl⟩ := keyOf_keyV fam r hf hr
  have hks : ∀ e ∈ es.toList, ∃ l, keyOf Tryd.prog 177 e.key = some l := by
    intro e he
    obtain ⟨f, q, h1, h2, h3⟩ := hk e he
    rw [h1]; exact keyOf_keyV f q h2 h3
  rcases Tryd.keyed.find w hl es.toList hks with ⟨h1, h2⟩ | ⟨j, e0, h1, h2, h3⟩
  · simp [Instr.mapUpdate, run_underlying Tryd.underlying102, MapKept.run_getObj_map hb, Tryd.keyed.check w false hl, h1, MapKept.run_setObj_map _ hb, Result.andThen, setBlock]
  · exact absurd h3 (hne e0 (List.mem_of_getElem? h2))

theorem clear_map {w : World} {mb : Nat} {es : Array MapEntry} {clock : Nat} (hb : w.heap[mb]? = some (.map es clock)) (ty : TypeId) :
    (Builtin.clear_ #[102] ty #[.map (some mb)]).run Tryd.prog w = .ok (.tuple #[]) (setBlock w mb (.map #[] clock)) := by
  simp [Builtin.clear_, run_underlying Tryd.underlying102, MapKept.run_getObj_map hb, MapKept.run_setObj_map _ hb, Result.andThen, setBlock]

theorem len_map {w : World} {mb : Nat} {es : Array MapEntry} {clock : Nat} (hb : w.heap[mb]? = some (.map es clock)) (ty : TypeId) :
    (Builtin.len_ #[102] ty #[.map (some mb)]).run Tryd.prog w = .ok (.int .i64 (es.size : Int)) w := by
  simp [Builtin.len_, run_underlying Tryd.underlying102, MapKept.run_getObj_map hb, Result.andThen, goInt]

/-- The map with one entry more. -/
theorem Cache.put {X : Nat → Prop} {a w : World} {mb k N fam r IH clock : Nat} {es : Array MapEntry} (hb : w.heap[mb]? = some (.map es clock)) (hm : Mut mb a w) (hE : Ents X w k N es) (hs : es.size < 128) (hne : ∀ x ∈ es.toList, x.key ≠ keyV fam r) (hf : fam ≤ 1) (hr : r < 65536) (hk : k ≤ 4096) (hR : RMatF w (fun b => ¬ X b) (some ⟨IH, 0, none⟩) k k (dmat fam k N r)) :
    Cache X (setBlock w mb (.map (es.push ⟨keyV fam r, .slice (some ⟨IH, 0, none⟩) k k, clock⟩) (clock + 1))) mb k N ∧ RMat (setBlock w mb (.map (es.push ⟨keyV fam r, .slice (some ⟨IH, 0, none⟩) k k, clock⟩) (clock + 1))) (some ⟨IH, 0, none⟩) k k (dmat fam k N r) ∧ Mut mb a (setBlock w mb (.map (es.push ⟨keyV fam r, .slice (some ⟨IH, 0, none⟩) k k, clock⟩) (clock + 1))) := by
  have mw : Mut mb w (setBlock w mb (.map (es.push ⟨keyV fam r, .slice (some ⟨IH, 0, none⟩) k k, clock⟩) (clock + 1))) :=
    ⟨rfl, rfl, rfl, by simp [setBlock], fun b _ hn => heap_setBlock_other hb _ hn⟩
  have kp := mw.keeps hb
  refine ⟨⟨_, _, heap_setBlock_same hb _, by simp; omega, ?_, ?_⟩, (hR.keeps kp).rmat, hm.trans mw⟩
  · rw [Array.toList_push, List.pairwise_append]
    exact ⟨hE.1, by simp, fun x hx y hy => by have : y = ⟨keyV fam r, .slice (some ⟨IH, 0, none⟩) k k, clock⟩ := by simpa using hy
                                              rw [this]; exact hne x hx⟩
  · intro x hx
    rw [Array.toList_push] at hx
    rcases List.mem_append.1 hx with hx | hx
    · exact (hE.keeps kp).2 x hx
    · have : x = ⟨keyV fam r, .slice (some ⟨IH, 0, none⟩) k k, clock⟩ := by simpa using hx
      rw [this]
      exact ⟨fam, r, IH, k, rfl, hf, hr, rfl, Nat.le_refl _, by omega, hR.keeps kp⟩

theorem Mut.setBlock {mb : Nat} {a w : World} (h : Mut mb a w) (o : Obj) : Mut mb a (Go.ChangeMaps.setBlock w mb o) :=
  ⟨h.os, h.tape, h.output, by simpa [Go.ChangeMaps.setBlock] using h.size, fun b hb hn => by
    rw [← h.block b hb hn]
    simp [Go.ChangeMaps.setBlock, Ne.symm hn]⟩
end Go.Proofs.Qxb6500697aDoor
