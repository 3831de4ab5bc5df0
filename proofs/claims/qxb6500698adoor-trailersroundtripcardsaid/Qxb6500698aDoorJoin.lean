/-
  THE WALK OF join: the parts glued into one fresh string.
-/
import Derived.Test.Qxb6500698aDoorApp
namespace Go.Proofs.Qxb6500698aDoor
open Go.RowKit

/-- One part: a slice whose bytes lie in memory. -/
structure PartAt (w : World) (v : Value) (bs : List Nat) : Prop where
  val : ∃ b o c, v = .slice (some ⟨b, o, none⟩) bs.length c ∧ bs.length ≤ c ∧ c ≤ maxLen ∧ BRow w (some ⟨b, o, none⟩) bs

theorem PartAt.same {w w' : World} {v : Value} {bs : List Nat} (h : PartAt w v bs) (hs : ∀ b o, b < w.heap.size → w'.cell? ⟨b, o, none⟩ = w.cell? ⟨b, o, none⟩) : PartAt w' v bs := by
  obtain ⟨b, o, c, h1, h2, h3, h4⟩ := h.val
  exact ⟨b, o, c, h1, h2, h3, h4.same hs⟩
theorem PartAt.below {w w' : World} {v : Value} {bs : List Nat} (h : PartAt w v bs) (hb : Below w.heap.size w w') : PartAt w' v bs := h.same fun b _ hlt => hb.cell (p := ⟨b, _, none⟩) hlt

/-- The parts: a slice of slices that begins at po. -/
def Parts (w : World) (po : Option Addr) (ps : List (List Nat)) : Prop :=
  ps ≠ [] → ∃ b o, po = some ⟨b, o, none⟩ ∧ ∀ i, i < ps.length → ∃ v, w.cell? ⟨b, o + i, none⟩ = some v ∧ PartAt w v (ps.getD i [])

theorem Parts.same {w w' : World} {po : Option Addr} {ps : List (List Nat)} (h : Parts w po ps) (hs : ∀ b o, b < w.heap.size → w'.cell? ⟨b, o, none⟩ = w.cell? ⟨b, o, none⟩) : Parts w' po ps := by
  intro hn
  obtain ⟨b, o, ha, hc⟩ := h hn
  refine ⟨b, o, ha, fun i hi => ?_⟩
  obtain ⟨v, h1, h2⟩ := hc i hi
  exact ⟨v, (hs _ _ (cell_lt h1)).trans h1, h2.same hs⟩
theorem Parts.below {w w' : World} {po : Option Addr} {ps : List (List Nat)} (h : Parts w po ps) (hb : Below w.heap.size w w') : Parts w' po ps := h.same fun b _ hlt => hb.cell (p := ⟨b, _, none⟩) hlt

theorem flatten_take_succ (ps : List (List Nat)) (k : Nat) (h : k < ps.length) : (ps.take (k + 1)).flatten = (ps.take k).flatten ++ ps.getD k [] := by
  rw [List.take_succ_eq_append_getElem h, List.flatten_append]
  simp [List.getD_eq_getElem?_getD, h]

theorem flatten_take_le (ps : List (List Nat)) (k : Nat) : (ps.take k).flatten.length ≤ ps.flatten.length := by
  have h : ps.flatten = (ps.take k).flatten ++ (ps.drop k).flatten := by rw [← List.flatten_append, List.take_append_drop]
  rw [h, List.length_append]; omega

end Go.Proofs.Qxb6500698aDoor
