/-
  'append(dst, src...)' OVER BYTES; THE WALKS OF bytes.Clone, remake's copy.
-/
import Derived.Test.Qxb6500697aDoorKStr
import Derived.Maps.AppendAt
import Derived.WalkLawsBesides
namespace Go.Proofs.Qxb6500697aDoor
open Go.RowKit

theorem run_append_zero {P : Program} (w : World) (t ty e : TypeId) (i : TypeInfo) (ht : P.underlying t = some (.slice e)) (hi : P.info? e = some i) (base : Nat) (size : Nat)
    (v : Value) (n : Nat) (xs : List Value) (hown : w.ownsRow base e size v n xs) (ao : Option Addr) (c : Nat) :
    (Builtin.append_ #[t, t] ty #[v, .slice ao 0 c]).run P w = .ok v w := by
  rcases hown.2 with ⟨rfl, h0⟩ | ⟨g, cap, cur, rfl, hb, hg, hle, hm, hs, htk⟩
  · cases ao <;> simp [Builtin.append_, run_underlying ht, sizeOf, typeInfo, hi, Builtin.lenOf, Builtin.firstCells, loadCells, loadCellsFrom]
  · cases ao <;> simp [Builtin.append_, run_underlying ht, sizeOf, typeInfo, hi, Builtin.lenOf, hle, Builtin.firstCells, loadCells, loadCellsFrom, storeCells]

section
variable (w : World)
theorem wpList_append_bytes {ops : Array Oper} {rest : List Oper} {o : Oper} {a : Act} {Q : Exit → Act → World → Prop} (hgd : o.guard = none) (s x : Operand)
    (ho : o.op = .call { callee := .builtin .append, args := #[s, x], argTypes := #[30, 30] })
    (base : Nat) (v : Value) (bs ns : List Nat) (hs : a.eval s = v) (hown : w.ownsRow base 5 1 v bs.length (bs.map fun y => Value.int .u8 ((y : Nat) : Int)))
    (ao : Option Addr) (c : Nat) (hx : a.eval x = .slice ao ns.length c) (hrow : BRow w ao ns) (hlen : bs.length + ns.length ≤ 140737488355328) (hbase : base ≤ w.heap.size)
    (h : ∀ v' w', w'.ownsRow base 5 1 v' (bs ++ ns).length ((bs ++ ns).map fun y => Value.int .u8 ((y : Nat) : Int)) → w.grownBy w' v.ownBlock → (v'.ownBlock = v.ownBlock ∨ v'.ownBlock = some w.heap.size) → wpList Tryd.prog ops Q rest (a.put o.dst v') w') :
    wpList Tryd.prog ops Q (o :: rest) a w := by
  obtain ⟨i0, hi, hzz⟩ := Option.map_eq_some_iff.1 Tryd.info5
  simp only [Prod.mk.injEq] at hzz
  obtain ⟨hz0, hz1, hz2⟩ := hzz
  by_cases hn : ns = []
  · subst hn
    refine wpList_plain hgd fun K hK => ?_
    have hr := run_append_zero (P := Tryd.prog) w 30 o.type 5 i0 Tryd.underlying30 hi base 1 v bs.length _ hown ao c
    have hw := h v w (by simpa using hown) ⟨rfl, rfl, rfl, Nat.le_refl _, fun _ _ _ => rfl⟩ (.inl rfl)
    have hx' : a.eval x = .slice ao 0 c := hx
    unfold Oper.wp execOp
    simp only [ho, resolve, invoke, builtin, Sem.run_bind, Sem.run_pure, Result.andThen_ok, List.map_toArray, List.map_cons, List.map_nil, hs, hx', hr]
    exact hK _ _ hw
  · obtain ⟨b, o', rfl, hc⟩ := hrow.row hn
    refine wpList_append_own_at w hgd s x 30 ho base 5 i0 (.int .u8 0) 1 1 Tryd.underlying30 hi hz0 hz1 hz2 rfl (by decide) v bs.length _ hs hown ⟨b, o', none⟩ ns.length c (ns.map fun y => Value.int .u8 ((y : Nat) : Int)) hx (by simp) hrow.news (bytes_oneCell ns)
      (by unfold maxLen; omega) (by omega) hbase ?_
    intro v' w' h2 h3 _ h5
    refine h v' w' ?_ h3 h5
    rw [List.map_append, List.length_append]; exact h2
end

/-- The first cells of a block that may be written. -/
def WRow (w : World) (g n : Nat) (f : Nat → Nat) : Prop := (∀ i, i < n → f i < 256) ∧ ∃ cs t, w.heap[g]? = some (.cells cs t (0, 0)) ∧ ∀ i, i < n → cs[i]? = some (.int .u8 ((f i : Nat) : Int))
theorem WRow.frow {w : World} {g n : Nat} {f : Nat → Nat} (h : WRow w g n f) : FRow w (some ⟨g, 0, none⟩) n f := by
  obtain ⟨h1, cs, t, h2, h3⟩ := h
  refine ⟨h1, fun _ => ⟨g, 0, rfl, fun i hi => ?_⟩⟩
  rw [Nat.zero_add]
  simp [World.cell?, h2, h3 i hi]
theorem WRow.of_block {w w' : World} {g n : Nat} {f : Nat → Nat} (h : WRow w g n f) (e : w'.heap[g]? = w.heap[g]?) : WRow w' g n f := by
  obtain ⟨h1, cs, t, h2, h3⟩ := h
  exact ⟨h1, cs, t, e.trans h2, h3⟩
theorem WRow.lt {w : World} {g n : Nat} {f : Nat → Nat} (h : WRow w g n f) : g < w.heap.size := by
  obtain ⟨h1, cs, t, h2, h3⟩ := h
  exact (Array.getElem?_eq_some_iff.1 h2).1
theorem WRow.below {w w' : World} {g n : Nat} {f : Nat → Nat} (h : WRow w g n f) (hb : Below w.heap.size w w') : WRow w' g n f := h.of_block (hb.block g h.lt)
theorem WRow.congr {w : World} {g n : Nat} {f f' : Nat → Nat} (h : WRow w g n f) (e : ∀ i, i < n → f i = f' i) : WRow w g n f' := by
  obtain ⟨h1, cs, t, h2, h3⟩ := h
  exact ⟨fun i hi => by rw [← e i hi]; exact h1 i hi, cs, t, h2, fun i hi => by rw [← e i hi]; exact h3 i hi⟩
theorem Row.wrow {w : World} {g n m : Nat} {f : Nat → Nat} (h : Row w g n f) (hm : m ≤ n) : WRow w g m f := by
  obtain ⟨cs, h1, h2, h3⟩ := h.2
  exact ⟨fun i hi => h.1 i (by omega), cs, _, h1, fun i hi => h3 i (by omega)⟩
theorem WRow.frozen {w : World} {g n : Nat} {f : Nat → Nat} (h : WRow w g n f) (i : Nat) : w.frozen? ⟨g, i, none⟩ = false := by
  obtain ⟨h1, cs, t, h2, h3⟩ := h
  simp [World.frozen?, h2]
theorem WRow.set {w : World} {g n : Nat} {f : Nat → Nat} (h : WRow w g n f) (i x : Nat) (hx : x < 256) : WRow (w.setCell ⟨g, i, none⟩ (.int .u8 (x : Int))) g n (fun j => if j = i then x else f j) := by
  obtain ⟨h1, cs, t, h2, h3⟩ := h
  refine ⟨fun j hj => ?_, cs.setIfInBounds i (.int .u8 (x : Int)), t, by simp [World.setCell, Array.getElem?_modify, h2], fun j hj => ?_⟩
  · show (if j = i then x else f j) < 256
    split
    · exact hx
    · exact h1 j hj
  · by_cases e : j = i
    · subst e
      have : j < cs.size := (Array.getElem?_eq_some_iff.1 (h3 j hj)).1
      simp [this]
    · simp [e, Ne.symm e, h3 j hj]

/-- Bytes in memory that was made after w: they may be written and nothing else sees it. -/
def Fresh (w w' : World) (ao : Option Addr) (n : Nat) (s : Nat → Nat) : Prop := FRow w' ao n s ∧ (0 < n → ∃ g, ao = some ⟨g, 0, none⟩ ∧ w.heap.size ≤ g ∧ WRow w' g n s)
theorem Fresh.below {w w' w'' : World} {ao : Option Addr} {n : Nat} {s : Nat → Nat} (h : Fresh w w' ao n s) (hb : Below w'.heap.size w' w'') : Fresh w w'' ao n s := by
  refine ⟨h.1.below hb, fun h0 => ?_⟩
  obtain ⟨g, h1, h2, h3⟩ := h.2 h0
  exact ⟨g, h1, h2, h3.below hb⟩

theorem fresh_of_owns {w w' : World} {base : Nat} {v : Value} {n m : Nat} {s : Nat → Nat} (h : w'.ownsRow base 5 1 v m (((List.range n).map s).map fun x => Value.int .u8 ((x : Nat) : Int))) (hlt : ∀ i, i < n → s i < 256) (hb : w.heap.size ≤ base) :
    ∃ ao c, v = .slice ao n c ∧ n ≤ c ∧ c ≤ 9223372036854775807 ∧ Fresh w w' ao n s := by
  have hn : n = m := by simpa using h.1
  have hl8 : ∀ x ∈ (List.range n).map s, x < 256 := by
    intro x hx
    obtain ⟨i, hi, rfl⟩ := List.mem_map.1 hx
    exact hlt i (List.mem_range.1 hi)
  rcases h.2 with ⟨rfl, h0⟩ | ⟨g, cap, cur, rfl, hbg, hg, hle, hm, hs, ht⟩
  · have : n = 0 := by omega
    subst this
    exact ⟨none, 0, rfl, Nat.le_refl _, by omega, ⟨fun i hi => by omega, fun h0 => by omega⟩, fun h0 => by omega⟩
  · have hW : WRow w' g n s := by
      refine ⟨hlt, cur, _, hg, fun i hi => ?_⟩
      have h1 : (cur.toList.take (m * 1))[i]? = some (.int .u8 ((s i : Nat) : Int)) := by
        rw [ht]; simp [hi]
      rw [List.getElem?_take] at h1
      split at h1
      · simpa using h1
      · cases h1
    exact ⟨some ⟨g, 0, none⟩, cap, by rw [hn], by omega, by unfold maxLen at hm; omega, hW.frow, fun _ => ⟨g, rfl, by omega, hW⟩⟩

theorem FRow.brow' {w : World} {ao : Option Addr} {m : Nat} {s : Nat → Nat} (h : FRow w ao m s) : BRow w ao ((List.range m).map s) := by
  refine ⟨fun x hx => ?_, fun hne => ?_⟩
  · obtain ⟨i, hi, rfl⟩ := List.mem_map.1 hx
    exact h.1 i (List.mem_range.1 hi)
  · have h0 : 0 < m := by
      rcases Nat.eq_zero_or_pos m with h0 | h0
      · subst h0; simp at hne
      · exact h0
    obtain ⟨b, o, ha, hc⟩ := h.2 h0
    refine ⟨b, o, ha, fun i hi => ?_⟩
    have hi' : i < m := by simpa using hi
    rw [hc i hi', List.getD_eq_getElem?_getD]
    simp [hi']

theorem eql_nil (w : World) (a : Option Addr) (l c : Nat) : (binOp .eql 30 (.slice a l c) (.slice none 0 0)).run Tryd.prog w = .ok (.bool a.isNone) w := by
  simp only [binOp]
  simp [run_equal_slice_nil w 30 5 a l c Tryd.underlying30]

set_option maxRecDepth 100000 in
set_option maxHeartbeats 1000000 in
theorem clone_any (ao : Option Addr) (n c : Nat) (s : Nat → Nat) (w : World) (h : FRow w ao n s) (hn : n ≤ 140737488355328) :
    Calls Tryd.prog 36 #[.slice ao n c] w fun e w' => ∃ ao' c', e = .returned (.slice ao' n c') ∧ n ≤ c' ∧ c' ≤ 9223372036854775807 ∧ Fresh w w' ao' n s ∧ Below w.heap.size w w' := by
  cases ao with
  | none =>
    have hn0 : n = 0 := by
      rcases Nat.eq_zero_or_pos n with h0 | h0
      · exact h0
      · obtain ⟨b, o, ha, _⟩ := h.2 h0; cases ha
    subst hn0
    have heq := eql_nil w none 0 c
    go_enter Tryd.func36, Tryd.ntmps36
    go_wp2
    go_ret
    exact ⟨none, 0, rfl, Nat.le_refl _, by omega, ⟨⟨fun i hi => by omega, fun h0 => by omega⟩, fun h0 => by omega⟩, Below.refl _ _⟩
  | some a =>
    obtain ⟨W, hW⟩ : ∃ W, w.alloc (.cells #[] 5) = W := ⟨_, rfl⟩
    have hb : Below w.heap.size w W := by rw [← hW]; exact (Below.refl _ _).alloc (Nat.le_refl _) _
    have HB : Hid (Below w.heap.size w W) := hb
    have HO : Hid (W.ownsRow w.heap.size 5 1 (.slice (some ⟨w.heap.size, 0, none⟩) 0 0) ([] : List Nat).length (([] : List Nat).map fun y => Value.int .u8 ((y : Nat) : Int))) := by
      refine ⟨rfl, .inr ⟨w.heap.size, 0, #[], rfl, Nat.le_refl _, ?_, Nat.le_refl _, by unfold maxLen; omega, rfl, rfl⟩⟩
      rw [← hW]; exact heap_alloc_new w _
    have HR : Hid (BRow W (some a) ((List.range n).map s)) := (h.below hb).brow'
    have hlt := h.1
    have hs1 : w.heap.size ≤ W.heap.size := hb.size
    have heq := eql_nil w (some a) n c
    clear h hb
    go_enter Tryd.func36, Tryd.ntmps36
    have hll : ((List.range n).map s).length = n := by simp
    have hlb : ([] : List Nat).length + ((List.range n).map s).length ≤ 140737488355328 := by rw [hll]; simpa using hn
    have HFin : Hid (∀ v' w', w'.ownsRow w.heap.size 5 1 v' ([] ++ (List.range n).map s).length (([] ++ (List.range n).map s).map fun y => Value.int .u8 ((y : Nat) : Int)) → W.grownBy w' (some w.heap.size) → ∃ ao' c', v' = .slice ao' n c' ∧ n ≤ c' ∧ c' ≤ 9223372036854775807 ∧ Fresh w w' ao' n s ∧ Below w.heap.size w w') := by
      intro v' w' h1 h2
      rw [List.nil_append] at h1
      obtain ⟨ao', c', q1, q2, q3, q4⟩ := fresh_of_owns (w := w) h1 hlt (Nat.le_refl _)
      exact ⟨ao', c', q1, q2, q3, q4, HB.out.grown h2 HB.out.size (fun k hk => by simp at hk; omega)⟩
    go_wp2_with (at_builtin; refine wpList_append_bytes W (by rfl) _ _ (by rfl) w.heap.size (.slice (some ⟨w.heap.size, 0, none⟩) 0 0) [] ((List.range n).map s) (by rfl) HO.out (some a) c (by rw [hll]; rfl) HR.out hlb hs1 ?_; intro v' w' h1 h2 h3; have HF : Hid _ := HFin.out v' w' h1 h2; clear h1 h2 h3)
    obtain ⟨ao', c', rfl, q⟩ := HF.out
    go_ret
    exact ⟨ao', c', rfl, q⟩
end Go.Proofs.Qxb6500697aDoor
