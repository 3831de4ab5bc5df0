/-
  THE WALK OF join: the parts glued into one fresh string.
-/
import Derived.Test.Qxb6500698aApp
namespace Go.Proofs.Qxb6500698a
open Go.RowKit

/-- One part: a slice whose bytes lie in memory. -/
structure PartAt (w : World) (v : Value) (bs : List Nat) : Prop where
  val : ∃ b o c, v = .slice (some ⟨b, o, none⟩) bs.length c ∧ bs.length ≤ c ∧ c ≤ maxLen ∧ BRow w (some ⟨b, o, none⟩) bs

theorem PartAt.same {w w' : World} {v : Value} {bs : List Nat} (h : PartAt w v bs) (hs : ∀ b o, b < w.heap.size → w'.cell? ⟨b, o, none⟩ = w.cell? ⟨b, o, none⟩) : PartAt w' v bs := by
  obtain ⟨b, o, c, h1, h2, h3, h4⟩ := h.val
  exact ⟨b, o, c, h1, h2, h3, h4.same hs⟩
theorem PartAt.below {w w' : World} {v : Value} {bs : List Nat} (h : PartAt w v bs) (hb : Below w.heap.size w w') : PartAt w' v bs := h.same fun b _ hlt => hb.cell (p := ⟨b, _, none⟩) hlt

/-- The parts: a slice of slices that begins at po. -/
def Parts (w : World) (po : Option Addr) (ps : List (List Nat)) : Prop :=
  ps ≠ [] → ∃ b o, po = some ⟨b, o, none⟩ ∧ ∀ i, i < ps.length → ∃ v, w.cell? ⟨b, o + i, none⟩ = some v ∧ PartAt w v (ps.getD i [])

theorem Parts.same {w w' : World} {po : Option Addr} {ps : List (List Nat)} (h : Parts w po ps) (hs : ∀ b o, b < w.heap.size → w'.cell? ⟨b, o, none⟩ = w.cell? ⟨b, o, none⟩) : Parts w' po ps := by
  intro hn
  obtain ⟨b, o, ha, hc⟩ := h hn
  refine ⟨b, o, ha, fun i hi => ?_⟩
  obtain ⟨v, h1, h2⟩ := hc i hi
  exact ⟨v, (hs _ _ (cell_lt h1)).trans h1, h2.same hs⟩
theorem Parts.below {w w' : World} {po : Option Addr} {ps : List (List Nat)} (h : Parts w po ps) (hb : Below w.heap.size w w') : Parts w' po ps := h.same fun b _ hlt => hb.cell (p := ⟨b, _, none⟩) hlt

theorem flatten_take_succ (ps : List (List Nat)) (k : Nat) (h : k < ps.length) : (ps.take (k + 1)).flatten = (ps.take k).flatten ++ ps.getD k [] := by
  rw [List.take_succ_eq_append_getElem h, List.flatten_append]
  simp [List.getD_eq_getElem?_getD, h]

theorem flatten_take_le (ps : List (List Nat)) (k : Nat) : (ps.take k).flatten.length ≤ ps.flatten.length := by
  have h : ps.flatten = (ps.take k).flatten ++ (ps.drop k).flatten := by rw [← List.flatten_append, List.take_append_drop]
  rw [h, List.length_append]; omega

set_option maxHeartbeats 1000000 in
theorem join_any (ps : List (List Nat)) (po : Option Addr) (c : Nat) (w : World) (hp : Parts w po ps) (hlen : ps.flatten.length ≤ 140737488355328) (hn : ps.length ≤ 140737488355328) (hlt : ∀ x ∈ ps.flatten, x < 256) :
    Calls Try.prog 12 #[.slice po ps.length c] w fun e w' => ∃ ao cap, e = .returned (.slice ao ps.flatten.length cap) ∧ ps.flatten.length ≤ cap ∧ cap ≤ maxLen ∧ BRow w' ao ps.flatten ∧ Below w.heap.size w w' ∧
      ((ao = none ∧ cap = 0) ∨ ∃ g, ao = some ⟨g, 0, none⟩ ∧ w.heap.size ≤ g) := by
  go_enter Try.func12, Try.ntmps12
  go_wp2
  go_loopw [3, 8] (fun v i wr => ∃ k : Nat, k ≤ ps.length ∧ i = .int .i64 k ∧ wr.ownsRow w.heap.size 5 1 v (ps.take k).flatten.length ((ps.take k).flatten.map fun y => Value.int .u8 ((y : Nat) : Int)) ∧ Below w.heap.size w wr) (fun _ i _ => ps.length - (intOf i).toNat)
  case atStart => exact ⟨0, Nat.zero_le _, rfl, by simpa using World.ownsRow_nil w w.heap.size 5 1, Below.refl _ _⟩
  case round =>
    obtain ⟨k, hk, rfl, hown, hbel⟩ := hrel
    by_cases hlt : k < ps.length
    · obtain ⟨b, o, rfl, hcs⟩ := hp (ne_nil_of_lt hlt)
      obtain ⟨v, hc, hv⟩ := hcs k hlt
      have hc' : wr.cell? ⟨b, o + k, none⟩ = some v := (hbel.cell (p := ⟨b, o + k, none⟩) (cell_lt hc)).trans hc
      have hv' := hv.below hbel
      obtain ⟨pb, po', pc, rfl, hpc, _, hrow⟩ := hv'.val
      have hle := flatten_take_le ps (k + 1)
      have hsucc := flatten_take_succ ps k hlt
      rw [hsucc, List.length_append] at hle
      have hle2 : (ps.take k).flatten.length + (ps.getD k []).length ≤ 140737488355328 := by omega
      have HS : Hid ((ps.take (k + 1)).flatten = (ps.take k).flatten ++ ps.getD k []) := hsucc
      clear hsucc hle hcs hv hv' hc hp
      generalize ps.getD k [] = p at *
      have HO : Hid (wr.ownsRow w.heap.size 5 1 u3 (ps.take k).flatten.length ((ps.take k).flatten.map fun y => Value.int .u8 ((y : Nat) : Int))) := hown
      clear hown
      have hsz := hbel.size
      have hlt' : (k : Int) < (ps.length : Int) := by omega
      have hk2 : (ps.length : Int) ≤ 140737488355328 := by omega
      generalize (ps.take k).flatten = q at *
      go_wp2_with (at_builtin; refine wpList_append_bytes _ rfl _ _ rfl w.heap.size _ q p rfl HO.out _ pc rfl hrow hle2 hsz ?_; intro v' w' h1 h2 _; have H1 : Hid _ := h1; clear h1)
      have hb2 := hbel.grown h2 hsz (fun g hg => (HO.out.lt g hg).1)
      clear hbel hrow h2 HO
      go_wp2
      go_roundw
      case rel => exact ⟨k + 1, by omega, by go_num, by rw [HS.out]; exact H1.out, hb2⟩
      case measure => simp [intOf]; omega
    · have hkk : k = ps.length := by omega
      subst hkk
      rw [List.take_length] at hown
      obtain ⟨ao, cap, hv, h1, h2, h3, h4⟩ := BRow.of_owns' hown (by assumption)
      have hlt' : (ps.length : Int) ≤ (ps.length : Int) := Int.le_refl _
      rw [hv]
      clear hv hown
      go_wp2
      go_ret
      exact ⟨ao, cap, rfl, h1, h2, h3, hbel, h4⟩

end Go.Proofs.Qxb6500698a
