/-
  THE SET 'map[int]bool' THAT A CALL MAKES.
-/
import Derived.Test.Qxb6500697aDoorKMulAdd
import Derived.Maps.Own
import Derived.Maps.OwnSet
import Derived.Maps.Views
namespace Go.Proofs.Qxb6500697aDoor
open Go.RowKit

theorem Tryd.zeroBool (w : World) : (zeroValue 4).run Tryd.prog w = .ok (.bool false) w := by kernel_rfl
theorem Tryd.intKey : Maps.Keyed Tryd.prog 3 := Maps.int_keyed Tryd.underlying3

/-- Block b is a map of at most n entries that holds true at the numbers of S (below 1000). -/
def Seen (w : World) (b n : Nat) (S : Nat → Bool) : Prop :=
  ∃ D : DataW Unit, w.ownsMap Tryd.prog 3 (plainElem Tryd.prog 4) b n D ∧ ∀ i : Nat, i < 1000 → D.atKey (.int .i64 (i : Int)) (.lit (.bool false)) = .lit (.bool (S i))

theorem key_wf {i : Nat} (h : i < 1000) : (Lit.int .i64 (i : Int)).wf = true := by
  simp [Lit.wf, IntKind.min, IntKind.max, IntKind.signed, IntKind.bits]; omega

theorem Seen.lt {w : World} {b n : Nat} {S : Nat → Bool} (h : Seen w b n S) : b < w.heap.size := by
  obtain ⟨D, h1, _⟩ := h
  exact h1.lt
theorem Seen.of_block {w w' : World} {b n : Nat} {S : Nat → Bool} (h : Seen w b n S) (e : w'.heap[b]? = w.heap[b]?) : Seen w' b n S := by
  obtain ⟨D, ⟨es, clock, hb, h1⟩, h2⟩ := h
  exact ⟨D, ⟨es, clock, e.trans hb, h1⟩, h2⟩
theorem Seen.made (w : World) : Seen (w.alloc (.map #[] 0)) w.heap.size 0 (fun _ => false) :=
  ⟨.map [], World.ownsMap_made w _ _ _, fun _ _ => rfl⟩

theorem plainElem_bool_inv {P : Program} {e : TypeId} (he : P.underlying e = some .bool) {v : Value} {x : Bool} {ps : List MemPlace} (h : plainElem (H := Unit) P e v = some (.lit (.bool x), ps)) : v = .bool x := by
  unfold plainElem at h
  rw [he] at h
  cases v <;> simp at h
  rw [h.1]

theorem Seen.look {w : World} {b n : Nat} {S : Nat → Bool} (h : Seen w b n S) {i : Nat} (hi : i < 1000) : (Instr.lookup 62 (.map (some b)) (.int .i64 (i : Int)) false).run Tryd.prog w = .ok (.bool (S i)) w := by
  obtain ⟨D, h1, h2⟩ := h
  obtain ⟨v, ps, hr, hv⟩ := h1.lookup Tryd.intKey Tryd.underlying62 (Tryd.zeroBool w) (plainElem_bool Tryd.underlying4 false) (Maps.keyOf_int_mk Tryd.underlying3 (key_wf hi))
  rw [h2 i hi] at hv
  rw [hr, plainElem_bool_inv Tryd.underlying4 hv]

theorem Seen.put {w : World} {b n : Nat} {S : Nat → Bool} (h : Seen w b n S) {i : Nat} (hi : i < 1000) (hn : n ≤ 1000000) :
    ∃ w', (Instr.mapUpdate 62 (.map (some b)) (.int .i64 (i : Int)) (.bool true)).run Tryd.prog w = .ok () w' ∧ Seen w' b (n + 1) (fun j => if j = i then true else S j) ∧ w.grownBy w' (some b) := by
  obtain ⟨D, h1, h2⟩ := h
  obtain ⟨w', hr, h3, h4⟩ := h1.update Tryd.intKey Tryd.underlying62 (by unfold maxLen; omega) (Maps.keyOf_int_mk Tryd.underlying3 (key_wf hi)) (plainElem_bool Tryd.underlying4 true)
  refine ⟨w', hr, ⟨_, h3, fun j hj => ?_⟩, h4⟩
  by_cases e : j = i
  · subst e
    simp only [if_true]
    exact Maps.atKey_put_same h1.isMap (by simp [WideAt.IsKeyLit]) _ _
  · simp only [if_neg e]
    rw [Maps.atKey_put_other (by simp; omega)]
    exact h2 j hj

theorem wpList_seen_put {w : World} {ops : Array Oper} {rest : List Oper} {o : Oper} {a : Act} {Q : Exit → Act → World → Prop}
    (hg : o.guard = none) (m x v : Operand) (hop : o.op = Op.mapUpdate 62 m x v) (b n : Nat) (S : Nat → Bool) (i : Nat)
    (hm : a.eval m = .map (some b)) (hx : a.eval x = .int .i64 (i : Int)) (hv : a.eval v = .bool true) (h : Seen w b n S) (hi : i < 1000) (hn : n ≤ 1000000)
    (hK : ∀ w', Seen w' b (n + 1) (fun j => if j = i then true else S j) → w.grownBy w' (some b) → wpList Tryd.prog ops Q rest (a.put o.dst undef) w') :
    wpList Tryd.prog ops Q (o :: rest) a w := by
  refine wpList_plain hg fun K' hK' => ?_
  obtain ⟨w', hrun, r1, r2⟩ := h.put hi hn
  unfold Oper.wp
  simp [execOp, hop, hm, hx, hv, hrun, Result.andThen]
  exact hK' _ _ (hK w' r1 r2)
end Go.Proofs.Qxb6500697aDoor
