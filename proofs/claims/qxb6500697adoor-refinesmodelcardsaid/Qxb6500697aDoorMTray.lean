/-
  A TRAY OF SHARDS IN MEMORY OF ITS OWN.
-/
import Derived.Test.Qxb6500697aDoorMOwn
namespace Go.Proofs.Qxb6500697aDoor
open Go.RowKit

/-- A list of shards: its headers in a slice of one's own, each payload alone. -/
structure Tray (B : Nat) (w : World) (v : Value) (ss : List Sd) : Prop where
  hdr : w.ownsRow B 60 4 v ss.length (ss.flatMap Sd.cells)
  pay : ∀ s ∈ ss, OwnP B w s ∧ RngS s
  far : ∀ s ∈ ss, ∀ b, s.pv.ownBlock = some b → v.ownBlock ≠ some b
  apart : ∀ i j, i < ss.length → j < ss.length → i ≠ j → ∀ b, (ss.getD i Sd.zero).pv.ownBlock = some b → (ss.getD j Sd.zero).pv.ownBlock ≠ some b
/-- The tray's blocks. -/
def tblk (v : Value) (ss : List Sd) (b : Nat) : Prop := v.ownBlock = some b ∨ ∃ s ∈ ss, s.pv.ownBlock = some b

section
variable {B : Nat} {w w' : World} {v v' : Value} {ss : List Sd}
theorem Tray.nil (B : Nat) (w : World) : Tray B w (.slice none 0 0) [] := ⟨by simpa using World.ownsRow_nil w B 60 4, by simp, by simp, fun i j hi => by simp at hi⟩
theorem Tray.lt (h : Tray B w v ss) {b : Nat} (hb : tblk v ss b) : B ≤ b ∧ b < w.heap.size := by
  rcases hb with hb | ⟨s, hs, hb⟩
  · exact h.hdr.lt b hb
  · exact (h.pay s hs).1.lt b hb
theorem Tray.keep (h : Tray B w v ss) (hk : ∀ b, tblk v ss b → w'.heap[b]? = w.heap[b]?) : Tray B w' v ss :=
  ⟨own_block h.hdr (fun b hb => hk b (.inl hb)), fun s hs => ⟨own_block (h.pay s hs).1 (fun b hb => hk b (.inr ⟨s, hs, hb⟩)), (h.pay s hs).2⟩, h.far, h.apart⟩
theorem Tray.below (h : Tray B w v ss) (hb : Below w.heap.size w w') : Tray B w' v ss := h.keep (fun b hbk => hb.block b (h.lt hbk).2)
theorem Tray.base {B' : Nat} (h : Tray B w v ss) (hb : B' ≤ B) : Tray B' w v ss := ⟨h.hdr.base hb, fun s hs => ⟨(h.pay s hs).1.base hb, (h.pay s hs).2⟩, h.far, h.apart⟩
theorem pv_block {s : Sd} {b o : Nat} (h : s.pa = some ⟨b, o, none⟩) : s.pv.ownBlock = some b := by unfold Sd.pv; rw [h]; rfl
theorem Tray.sout (h : Tray B w v ss) : SOut B w v ss := ⟨h.hdr, fun s hs => ⟨(h.pay s hs).1.ok (h.pay s hs).2, fun _ b _ he => h.far s hs b (pv_block he)⟩⟩
theorem Tray.row (h : Tray B w v ss) : ∃ ao cap, v = .slice ao ss.length cap ∧ SdRow w ao ss := h.sout.form
theorem getD_mem' {i : Nat} (h : i < ss.length) : ss.getD i Sd.zero ∈ ss := getD_mem h

theorem own_at {y : Sd} {C D : Nat} (h : OwnP C w y) (hD : w.heap.size ≤ D) {b : Nat} (hb : y.pv.ownBlock = some b) : C ≤ b ∧ b < D := ⟨(h.lt b hb).1, Nat.lt_of_lt_of_le (h.lt b hb).2 hD⟩

/-- One shard more, its payload in a block that is new. -/
theorem Tray.push {W : World} {y : Sd} {C : Nat} (h : Tray B W v ss) (hy : OwnP C W y) (hyr : RngS y) (hBC : B ≤ C) (hC : ∀ b, tblk v ss b → b < C)
    (h2 : w'.ownsRow B 60 4 v' (ss.length + 1) (ss.flatMap Sd.cells ++ y.cells)) (h3 : W.grownBy w' v.ownBlock) (h5 : v'.ownBlock = v.ownBlock ∨ v'.ownBlock = some W.heap.size) : Tray B w' v' (ss ++ [y]) := by
  have hyb : ∀ b, y.pv.ownBlock = some b → C ≤ b ∧ b < W.heap.size := fun b hb => hy.lt b hb
  have ne : ∀ b, b < W.heap.size → v.ownBlock ≠ some b → v'.ownBlock ≠ some b := by
    intro b hb hne
    rcases h5 with h5 | h5
    · rw [h5]; exact hne
    · rw [h5]; intro e; have e : W.heap.size = b := by simpa using e
      omega
  have hfar : ∀ s ∈ ss ++ [y], ∀ b, s.pv.ownBlock = some b → v.ownBlock ≠ some b ∧ b < W.heap.size := by
    intro s hs b hb
    rcases List.mem_append.1 hs with hs | hs
    · exact ⟨h.far s hs b hb, ((h.pay s hs).1.lt b hb).2⟩
    · have e : s = y := by simpa using hs
      rw [e] at hb
      refine ⟨fun e2 => ?_, (hyb b hb).2⟩
      have h6 := hC b (.inl e2)
      have h7 := (hyb b hb).1
      omega
  refine ⟨by simpa using h2, fun s hs => ?_, fun s hs b hb => ne b (hfar s hs b hb).2 (hfar s hs b hb).1, fun i j hi hj hij b hb => ?_⟩
  · have hs2 : OwnP B W s ∧ RngS s := by
      rcases List.mem_append.1 hs with hs | hs
      · exact h.pay s hs
      · have e : s = y := by simpa using hs
        rw [e]; exact ⟨hy.base hBC, hyr⟩
    refine ⟨own_block hs2.1 (fun b hb => h3.block b (hs2.1.lt b hb).2 (fun e => (hfar s hs b hb).1 e.symm)), hs2.2⟩
  · simp only [List.length_append, List.length_singleton] at hi hj
    have key : ∀ i, i < ss.length → ∀ b, (ss.getD i Sd.zero).pv.ownBlock = some b → y.pv.ownBlock ≠ some b := fun i hi b hb e => by
      have h6 := hC b (.inr ⟨_, getD_mem' hi, hb⟩)
      have h7 := (hyb b e).1
      omega
    by_cases ei : i < ss.length
    · rw [getD_snoc_lt ei] at hb
      by_cases ej : j < ss.length
      · rw [getD_snoc_lt ej]; exact h.apart i j ei ej hij b hb
      · rw [getD_snoc_eq (by omega)]; exact key i ei b hb
    · rw [getD_snoc_eq (by omega)] at hb
      have ej : j < ss.length := by omega
      rw [getD_snoc_lt ej]
      exact fun e => key j ej b e hb

/-- Several shards more: those of another tray, whose headers are left behind. -/
theorem Tray.join {W : World} {u : Value} {ys : List Sd} {C : Nat} (h : Tray B W v ss) (hy : Tray C W u ys) (hBC : B ≤ C) (hC : ∀ b, tblk v ss b → b < C)
    (h2 : w'.ownsRow B 60 4 v' (ss.length + ys.length) (ss.flatMap Sd.cells ++ ys.flatMap Sd.cells)) (h3 : W.grownBy w' v.ownBlock) (h5 : v'.ownBlock = v.ownBlock ∨ v'.ownBlock = some W.heap.size) : Tray B w' v' (ss ++ ys) := by
  have hyb : ∀ s ∈ ys, ∀ b, s.pv.ownBlock = some b → C ≤ b ∧ b < W.heap.size := fun s hs b hb => (hy.pay s hs).1.lt b hb
  have ne : ∀ b, b < W.heap.size → v.ownBlock ≠ some b → v'.ownBlock ≠ some b := by
    intro b hb hne
    rcases h5 with h5 | h5
    · rw [h5]; exact hne
    · rw [h5]; intro e; have e : W.heap.size = b := by simpa using e
      omega
  have hfar : ∀ s ∈ ss ++ ys, ∀ b, s.pv.ownBlock = some b → v.ownBlock ≠ some b ∧ b < W.heap.size := by
    intro s hs b hb
    rcases List.mem_append.1 hs with hs | hs
    · exact ⟨h.far s hs b hb, ((h.pay s hs).1.lt b hb).2⟩
    · refine ⟨fun e2 => ?_, (hyb s hs b hb).2⟩
      have h6 := hC b (.inl e2)
      have h7 := (hyb s hs b hb).1
      omega
  refine ⟨by simpa using h2, fun s hs => ?_, fun s hs b hb => ne b (hfar s hs b hb).2 (hfar s hs b hb).1, fun i j hi hj hij b hb => ?_⟩
  · have hs2 : OwnP B W s ∧ RngS s := by
      rcases List.mem_append.1 hs with hs | hs
      · exact h.pay s hs
      · exact ⟨(hy.pay s hs).1.base hBC, (hy.pay s hs).2⟩
    exact ⟨own_block hs2.1 (fun b hb => h3.block b (hs2.1.lt b hb).2 (fun e => (hfar s hs b hb).1 e.symm)), hs2.2⟩
  · simp only [List.length_append] at hi hj
    have gl : ∀ i, i < ss.length → (ss ++ ys).getD i Sd.zero = ss.getD i Sd.zero := fun i hi => by
      rw [List.getD_eq_getElem?_getD, List.getD_eq_getElem?_getD, List.getElem?_append_left hi]
    have gr : ∀ i, ¬ i < ss.length → (ss ++ ys).getD i Sd.zero = ys.getD (i - ss.length) Sd.zero := fun i hi => by
      rw [List.getD_eq_getElem?_getD, List.getD_eq_getElem?_getD, List.getElem?_append_right (by omega)]
    have key : ∀ i j, i < ss.length → j < ys.length → ∀ b, (ss.getD i Sd.zero).pv.ownBlock = some b → (ys.getD j Sd.zero).pv.ownBlock ≠ some b := fun i j hi hj b hb e => by
      have h6 := hC b (.inr ⟨_, getD_mem' hi, hb⟩)
      have h7 := (hyb _ (getD_mem' hj) b e).1
      omega
    by_cases ei : i < ss.length
    · rw [gl i ei] at hb
      by_cases ej : j < ss.length
      · rw [gl j ej]; exact h.apart i j ei ej hij b hb
      · rw [gr j ej]; exact key i _ ei (by omega) b hb
    · rw [gr i ei] at hb
      by_cases ej : j < ss.length
      · rw [gl j ej]; exact fun e => key j _ ej (by omega) b e hb
      · rw [gr j ej]; exact hy.apart _ _ (by omega) (by omega) (by omega) b hb
end
end Go.Proofs.Qxb6500697aDoor
