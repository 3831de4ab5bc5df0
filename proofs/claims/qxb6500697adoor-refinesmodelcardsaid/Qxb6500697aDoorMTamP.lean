/-
  ONE SHARD OF A TRAY CHANGED: what memory then holds.
-/
import Derived.Test.Qxb6500697aDoorMClones
namespace Go.Proofs.Qxb6500697aDoor
open Go.RowKit

/-- Only blocks of P written, or memory made. -/
structure Chg (P : Nat → Prop) (w w' : World) : Prop where
  os : w'.os = w.os
  tape : w'.tape = w.tape
  output : w'.output = w.output
  size : w.heap.size ≤ w'.heap.size
  block : ∀ b, b < w.heap.size → ¬ P b → w'.heap[b]? = w.heap[b]?
theorem Chg.trans {P : Nat → Prop} {a b c : World} (h : Chg P a b) (k : Chg P b c) : Chg P a c := ⟨k.os.trans h.os, k.tape.trans h.tape, k.output.trans h.output, Nat.le_trans h.size k.size, fun i hi hn => (k.block i (Nat.lt_of_lt_of_le hi h.size) hn).trans (h.block i hi hn)⟩
theorem Below.chg {w w' : World} (h : Below w.heap.size w w') (P : Nat → Prop) : Chg P w w' := ⟨h.os, h.tape, h.output, h.size, fun b hb _ => h.block b hb⟩
theorem Only.chg {d : Nat} {w w' : World} {P : Nat → Prop} (h : Only d w w') (hd : P d) : Chg P w w' := ⟨h.os, h.tape, h.output, Nat.le_of_eq h.size.symm, fun b _ hn => h.block b (fun e => hn (by rw [e]; exact hd))⟩
theorem grown_chg {w w' : World} {row : Option Nat} {P : Nat → Prop} (h : w.grownBy w' row) (hr : ∀ b, row = some b → P b) : Chg P w w' := ⟨h.os, h.tape, h.output, h.size, fun b hb hn => h.block b hb (fun e => hn (hr b e.symm))⟩
theorem Chg.mono {P P' : Nat → Prop} {w w' : World} (h : Chg P w w') (hP : ∀ b, P b → P' b) : Chg P' w w' := ⟨h.os, h.tape, h.output, h.size, fun b hb hn => h.block b hb (fun hp => hn (hP b hp))⟩
theorem Chg.below {P : Nat → Prop} {B : Nat} {a w w' : World} (h : Chg P w w') (hb : Below B a w) (hB : B ≤ w.heap.size) (hP : ∀ b, P b → B ≤ b) : Below B a w' :=
  ⟨h.os.trans hb.os, h.tape.trans hb.tape, h.output.trans hb.output, Nat.le_trans hb.size h.size, fun k hk => (h.block k (by omega) (fun hp => by have := hP k hp; omega)).trans (hb.block k hk)⟩

/-- A cell of a row of one's own written. -/
theorem own_set {w : World} {B g p : Nat} {e : TypeId} {s : Nat} {v : Value} {n : Nat} {xs : List Value} (h : w.ownsRow B e s v n xs) (hg : v.ownBlock = some g) (u : Value) : (w.setCell ⟨g, p, none⟩ u).ownsRow B e s v n (xs.set p u) := by
  refine ⟨by rw [List.length_set]; exact h.1, ?_⟩
  rcases h.2 with ⟨h1, _⟩ | ⟨g', cap, cur, hv, hb, hg', hle, hm, hs, ht⟩
  · rw [h1] at hg; cases hg
  · rw [hv] at hg
    have e1 : g' = g := by simpa [Value.ownBlock] using hg
    subst e1
    refine .inr ⟨g', cap, cur.setIfInBounds p u, hv, hb, ?_, hle, hm, by rw [Array.size_setIfInBounds]; exact hs, ?_⟩
    · simp [World.setCell, Array.getElem?_modify, hg']
    · rw [← ht, Array.toList_setIfInBounds, List.take_set]

/-- The last cell of a row of bytes let go. -/
theorem own_cut {w : World} {B g pl pc : Nat} {P : Nat → Nat} (h : w.ownsRow B 5 1 (.slice (some ⟨g, 0, none⟩) pl pc) pl (bytV pl P)) {k : Nat} (hk : k ≤ pl) : w.ownsRow B 5 1 (.slice (some ⟨g, 0, none⟩) k pc) k (bytV k P) := by
  refine ⟨by simp [bytV], ?_⟩
  rcases h.2 with ⟨h1, _⟩ | ⟨g', cap, cur, hv, hb, hg', hle, hm, hs, ht⟩
  · cases h1
  · cases hv
    refine .inr ⟨g, pc, cur, rfl, hb, hg', by omega, hm, hs, ?_⟩
    have e : bytV k P = (bytV pl P).take k := by
      unfold bytV
      rw [← List.map_take, ← List.map_take, List.take_range, Nat.min_eq_left hk]
    rw [e, ← ht, Nat.mul_one, Nat.mul_one, List.take_take, Nat.min_eq_left hk]

theorem flat_set (ss : List Sd) (q i : Nat) (y : Sd) (u : Value) (hq : q < ss.length) (hi : i < 4) (hy : y.cells = (ss[q]).cells.set i u) : (ss.set q y).flatMap Sd.cells = (ss.flatMap Sd.cells).set (q * 4 + i) u := by
  induction ss generalizing q with
  | nil => simp at hq
  | cons t l ih =>
    have hl : t.cells.length = 4 := rfl
    cases q with
    | zero =>
      have hy' : y.cells = t.cells.set i u := by simpa using hy
      simp only [List.set_cons_zero, List.flatMap_cons]
      rw [hy', List.set_append_left _ _ (by rw [hl]; omega)]
      simp
    | succ q =>
      simp only [List.set_cons_succ, List.flatMap_cons]
      rw [ih q (by simpa using hq) (by simpa using hy), List.set_append_right _ _ (by rw [hl]; omega), hl, show (q + 1) * 4 + i - 4 = q * 4 + i by omega]
theorem flat_same (ss : List Sd) (q : Nat) (y : Sd) (hq : q < ss.length) (hy : y.cells = (ss[q]).cells) : (ss.set q y).flatMap Sd.cells = ss.flatMap Sd.cells := by
  induction ss generalizing q with
  | nil => simp at hq
  | cons t l ih =>
    cases q with
    | zero =>
      have hy' : y.cells = t.cells := by simpa using hy
      simp only [List.set_cons_zero, List.flatMap_cons]
      rw [hy']
    | succ q =>
      simp only [List.set_cons_succ, List.flatMap_cons]
      rw [ih q (by simpa using hq) (by simpa using hy)]

theorem set_get {ss : List Sd} {q i : Nat} {y : Sd} (hi : i < ss.length) : (ss.set q y).getD i Sd.zero = if i = q then y else ss.getD i Sd.zero := by
  rw [getD_lt (by simpa using hi), List.getElem_set, getD_lt hi]
  by_cases e : q = i
  · rw [if_pos e, if_pos e.symm]
  · rw [if_neg e, if_neg (fun h => e h.symm)]

section
variable {B : Nat} {w w' : World} {v : Value} {ss : List Sd} {q : Nat} {y : Sd}
/-- One shard changed. -/
theorem Tray.upd (h : Tray B w v ss)
    (hH : w'.ownsRow B 60 4 v ss.length ((ss.set q y).flatMap Sd.cells)) (hy : OwnP B w' y) (hyr : RngS y)
    (hoth : ∀ i, i < ss.length → i ≠ q → ∀ b, (ss.getD i Sd.zero).pv.ownBlock = some b → w'.heap[b]? = w.heap[b]? ∧ y.pv.ownBlock ≠ some b)
    (hyv : ∀ b, y.pv.ownBlock = some b → v.ownBlock ≠ some b) : Tray B w' v (ss.set q y) := by
  have hmem : ∀ s ∈ ss.set q y, s = y ∨ ∃ i, i < ss.length ∧ i ≠ q ∧ s = ss.getD i Sd.zero := by
    intro s hs
    obtain ⟨i, hi, rfl⟩ := List.getElem_of_mem hs
    have hi' : i < ss.length := by simpa using hi
    rw [List.getElem_set]
    by_cases e : q = i
    · rw [if_pos e]; exact .inl rfl
    · rw [if_neg e]; exact .inr ⟨i, hi', fun h => e h.symm, by rw [getD_lt hi']⟩
  refine ⟨by rw [List.length_set]; exact hH, fun s hs => ?_, fun s hs b hb => ?_, fun i j hi hj hij b hb => ?_⟩
  · rcases hmem s hs with rfl | ⟨i, hi, hne, rfl⟩
    · exact ⟨hy, hyr⟩
    · have h1 := h.pay _ (getD_mem' hi)
      exact ⟨own_block h1.1 (fun b hb => (hoth i hi hne b hb).1), h1.2⟩
  · rcases hmem s hs with rfl | ⟨i, hi, hne, rfl⟩
    · exact hyv b hb
    · exact h.far _ (getD_mem' hi) b hb
  · rw [List.length_set] at hi hj
    rw [set_get hi] at hb
    rw [set_get hj]
    by_cases ei : i = q
    · rw [if_pos ei] at hb
      rw [if_neg (fun e => hij (by rw [ei, e]))]
      exact fun e => (hoth j hj (fun e => hij (by rw [ei, e])) b e).2 hb
    · rw [if_neg ei] at hb
      by_cases ej : j = q
      · rw [if_pos ej]; exact (hoth i hi ei b hb).2
      · rw [if_neg ej]; exact h.apart i j hi hj hij b hb

/-- A header cell changed, the payload's memory the same. -/
theorem Tray.putCell {H i : Nat} {u : Value} (h : Tray B w v ss) (hq : q < ss.length) (hv : v.ownBlock = some H) (hi : i < 4) (hc : y.cells = (ss[q]).cells.set i u) (hy : OwnP B w y) (hyr : RngS y) (hyb : ∀ b, y.pv.ownBlock = some b → (ss.getD q Sd.zero).pv.ownBlock = some b ∨ ¬ tblk v ss b) : Tray B (w.setCell ⟨H, q * 4 + i, none⟩ u) v (ss.set q y) := by
  have hO : Only H w (w.setCell ⟨H, q * 4 + i, none⟩ u) := (Only.refl _ _).setCell _ _
  have hyv : ∀ b, y.pv.ownBlock = some b → v.ownBlock ≠ some b := fun b hb => by
    rcases hyb b hb with h1 | h1
    · exact h.far _ (getD_mem' hq) b h1
    · exact fun e => h1 (.inl e)
  refine h.upd ?_ (own_block hy (fun b hb => hO.block b (fun e => hyv b hb (by rw [e]; exact hv)))) hyr (fun j hj hne b hb => ⟨hO.block b (fun e => h.far _ (getD_mem' hj) b hb (by rw [e]; exact hv)), fun e => ?_⟩) hyv
  · rw [flat_set ss q i y u hq hi hc]
    exact own_set h.hdr hv u
  · rcases hyb b e with h1 | h1
    · exact h.apart j q hj hq hne b hb h1
    · exact h1 (.inr ⟨_, getD_mem' hj, hb⟩)
end
end Go.Proofs.Qxb6500697aDoor
