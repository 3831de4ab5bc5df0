/-
  A ROW OF BYTES THAT THE CALL ITSELF MADE (block g), written cell by cell; the script's sizes.
-/
import Derived.Test.Qxb6500698aDoorPieces
import Derived.Test.Qxb6500698aDoorCrc
namespace Go.Proofs.Qxb6500698aDoor
open Go.RowKit

/-- Block g is the call's own; its first cells are the bytes bs. -/
def Own (w : World) (g : Nat) (bs : List Nat) : Prop :=
  (∀ x ∈ bs, x < 256) ∧ ∃ cur : Array Value, w.heap[g]? = some (.cells cur 5 (0, 0)) ∧ bs.length ≤ cur.size ∧ ∀ i, i < bs.length → cur[i]? = some (.int .u8 ((bs.getD i 0 : Nat) : Int))

theorem Own.lt {w : World} {g : Nat} {bs : List Nat} (h : Own w g bs) : g < w.heap.size := by
  obtain ⟨_, cur, hg, _⟩ := h
  exact (Array.getElem?_eq_some_iff.1 hg).1
theorem Own.cell {w : World} {g : Nat} {bs : List Nat} (h : Own w g bs) {i : Nat} (hi : i < bs.length) : w.cell? ⟨g, i, none⟩ = some (.int .u8 ((bs.getD i 0 : Nat) : Int)) := by
  obtain ⟨_, cur, hg, _, hc⟩ := h
  simp [World.cell?, hg, hc i hi]
theorem Own.frozen {w : World} {g : Nat} {bs : List Nat} (h : Own w g bs) (i : Nat) : w.frozen? ⟨g, i, none⟩ = false := by
  obtain ⟨_, cur, hg, _, _⟩ := h
  simp [World.frozen?, hg]
theorem Own.brow {w : World} {g : Nat} {bs : List Nat} (h : Own w g bs) : BRow w (some ⟨g, 0, none⟩) bs :=
  ⟨h.1, fun _ => ⟨g, 0, rfl, fun i hi => by rw [Nat.zero_add]; exact h.cell hi⟩⟩
theorem Own.of_block {w w' : World} {g : Nat} {bs : List Nat} (h : Own w g bs) (e : w'.heap[g]? = w.heap[g]?) : Own w' g bs := by
  obtain ⟨hl, cur, hg, h1, h2⟩ := h
  exact ⟨hl, cur, e.trans hg, h1, h2⟩
theorem Own.below {w w' : World} {g : Nat} {bs : List Nat} (h : Own w g bs) (hb : Below w.heap.size w w') : Own w' g bs := h.of_block (hb.block g h.lt)
theorem Own.drew {w : World} {g : Nat} {bs : List Nat} (h : Own w g bs) : Own w.drew g bs := h
theorem Own.drewN {w : World} {g : Nat} {bs : List Nat} (h : Own w g bs) (n : Nat) : Own (w.drewN n) g bs := h
theorem Own.set {w : World} {g : Nat} {bs : List Nat} (h : Own w g bs) (i x : Nat) (hx : x < 256) : Own (w.setCell ⟨g, i, none⟩ (.int .u8 (x : Int))) g (bs.set i x) := by
  obtain ⟨hl, cur, hg, h1, h2⟩ := h
  refine ⟨fun y hy => ?_, cur.setIfInBounds i (.int .u8 (x : Int)), ?_, by simpa using h1, fun j hj => ?_⟩
  · rcases List.mem_or_eq_of_mem_set hy with h | h
    · exact hl y h
    · omega
  · simp [World.setCell, Array.getElem?_modify, hg]
  · simp only [List.length_set] at hj
    rw [Array.getElem?_setIfInBounds]
    by_cases e : i = j
    · subst e
      simp only [if_true, if_pos (show i < cur.size by omega)]
      simp [List.getD_eq_getElem?_getD, hj]
    · rw [if_neg e, h2 j hj]
      simp [List.getD_eq_getElem?_getD, e]
theorem Own.of_owns {w : World} {base : Nat} {v : Value} {n : Nat} {bs : List Nat} (h : w.ownsRow base 5 1 v n (bs.map fun x => Value.int .u8 ((x : Nat) : Int))) (hlt : ∀ x ∈ bs, x < 256) (hne : bs ≠ []) :
    ∃ g cap, v = .slice (some ⟨g, 0, none⟩) bs.length cap ∧ bs.length ≤ cap ∧ cap ≤ maxLen ∧ Own w g bs ∧ base ≤ g := by
  have hn : bs.length = n := by simpa using h.1
  rcases h.2 with ⟨rfl, h0⟩ | ⟨g, cap, cur, rfl, hb, hg, hle, hm, hs, ht⟩
  · exact absurd (List.length_eq_zero_iff.1 (by omega)) hne
  · refine ⟨g, cap, by rw [hn], by omega, hm, ⟨hlt, cur, hg, by omega, fun i hi => ?_⟩, hb⟩
    have e : (cur.toList.take (n * 1))[i]? = some (.int .u8 ((bs.getD i 0 : Nat) : Int)) := by rw [ht]; simp [List.getD_eq_getElem?_getD, hi]
    rw [List.getElem?_take] at e
    rw [if_pos (by omega)] at e
    simpa using e

/-! ### The sizes -/
theorem total_mem (ops : List OpD) (x : OpD) (h : x ∈ ops) : x.bs.length ≤ total ops := by
  induction ops with
  | nil => simp at h
  | cons y ys ih =>
    simp only [total]
    rcases List.mem_cons.1 h with h | h
    · subst h; omega
    · have := ih h; omega

theorem small_len {ops : List OpD} (h : small ops = true) : ops.length ≤ 65536 ∧ ∀ x ∈ ops, x.bs.length ≤ 65536 := by
  unfold small at h
  have h := of_decide_eq_true h
  exact ⟨by omega, fun x hx => by have := total_mem ops x hx; omega⟩

theorem piece_le {x : OpD} {p : List Nat} (hx : x.bs.length ≤ 65536) (h : pieceOf x = some p) : p.length ≤ 65536 := by
  unfold pieceOf at h
  split at h
  · simp at h; subst h; simpa using fill_le x.n
  · split at h
    · simp at h
    · simp at h; subst h; exact hx

theorem whole_le {ops : List OpD} (h : ∀ x ∈ ops, x.bs.length ≤ 65536) : (wholeOf ops).length ≤ 65536 * ops.length := by
  unfold wholeOf piecesOf
  induction ops with
  | nil => simp
  | cons x xs ih =>
    have h1 := ih (fun y hy => h y (List.mem_cons_of_mem _ hy))
    rw [List.filterMap_cons]
    cases hp : pieceOf x with
    | none => simp only [List.length_cons]; omega
    | some p =>
      have := piece_le (h x List.mem_cons_self) hp
      simp only [List.flatten_cons, List.length_append, List.length_cons]; omega

theorem pieces_lt {ops : List OpD} (h : ∀ x ∈ ops, x.b < 256 ∧ ∀ y ∈ x.bs, y < 256) : ∀ p ∈ piecesOf ops, ∀ y ∈ p, y < 256 := by
  intro p hp
  obtain ⟨x, hx, hpx⟩ := List.mem_filterMap.1 hp
  have hxx := h x hx
  unfold pieceOf at hpx
  split at hpx
  · simp at hpx; subst hpx
    intro y hy
    have := (List.mem_replicate.1 hy).2
    omega
  · split at hpx
    · simp at hpx
    · simp at hpx; subst hpx; exact hxx.2

theorem whole_lt {ops : List OpD} (h : ∀ x ∈ ops, x.b < 256 ∧ ∀ y ∈ x.bs, y < 256) : ∀ y ∈ wholeOf ops, y < 256 := by
  intro y hy
  obtain ⟨p, hp, hyp⟩ := List.mem_flatten.1 hy
  exact pieces_lt h p hp y hyp

theorem Script.bytes {w : World} {ao : Option Addr} {ops : List OpD} (h : Script w ao ops) : ∀ x ∈ ops, x.b < 256 ∧ ∀ y ∈ x.bs, y < 256 := by
  intro x hx
  obtain ⟨i, hi, rfl⟩ := List.mem_iff_getElem.1 hx
  obtain ⟨b, o, _, hop⟩ := h (ne_nil_of_lt hi)
  have := hop i hi
  have e : ops.getD i OpD.zero = ops[i] := by simp [List.getD_eq_getElem?_getD, hi]
  rw [e] at this
  exact ⟨this.hb, this.data.lt⟩

/-! ### Bits flipped one after the other -/
def flip (bs : List Nat) (s v : Nat) : Nat → List Nat
  | 0 => bs
  | i + 1 => if v / 2 ^ i % 2 = 1 then (flip bs s v i).set ((s + i) / 8) ((flip bs s v i).getD ((s + i) / 8) 0 ^^^ 2 ^ ((s + i) % 8)) else flip bs s v i

theorem flip_length (bs : List Nat) (s v i : Nat) : (flip bs s v i).length = bs.length := by
  induction i with
  | zero => rfl
  | succ i ih => unfold flip; split <;> simp [ih]

theorem flip_lt (bs : List Nat) (s v i : Nat) (h : ∀ x ∈ bs, x < 256) (hi : s + i ≤ 8 * bs.length) : ∀ x ∈ flip bs s v i, x < 256 := by
  induction i with
  | zero => exact h
  | succ i ih =>
    have ih := ih (by omega)
    intro x hx
    unfold flip at hx
    split at hx
    · rcases List.mem_or_eq_of_mem_set hx with h2 | h2
      · exact ih x h2
      · rw [h2]
        refine Crc.xor_lt8 (ih _ (getD_mem (by rw [flip_length]; omega))) ?_
        have : 2 ^ ((s + i) % 8) < 2 ^ 8 := Nat.pow_lt_pow_right (by decide) (Nat.mod_lt _ (by decide))
        simpa using this
    · exact ih x hx

theorem flip_le (bs : List Nat) (s v i : Nat) (h : ∀ x ∈ bs, x < 256) (hi : s + i ≤ 8 * bs.length) : Crc.le (flip bs s v i) = Crc.le bs ^^^ 2 ^ s * (v % 2 ^ i) := by
  induction i with
  | zero => simp [flip, Nat.mod_one]
  | succ i ih =>
    have ih := ih (by omega)
    have e : v % 2 ^ (i + 1) = v % 2 ^ i ^^^ 2 ^ i * (v / 2 ^ i % 2) := by
      rw [← Crc.add_xor i _ _ (Nat.mod_lt _ (Nat.two_pow_pos i)), Nat.pow_succ, Nat.mod_mul]
    unfold flip
    by_cases hb : v / 2 ^ i % 2 = 1
    · rw [if_pos hb, Crc.le_flip _ (flip_lt bs s v i h (by omega)) (s + i) (by rw [flip_length]; omega), ih, e, hb, Nat.mul_one, Nat.xor_assoc]
      congr 1
      have hd := Crc.add_xor i (v % 2 ^ i) 1 (Nat.mod_lt _ (Nat.two_pow_pos i))
      rw [Nat.mul_one] at hd
      rw [← hd, Nat.mul_add, ← Nat.pow_add]
      have hm : 2 ^ s * (v % 2 ^ i) < 2 ^ (s + i) := by
        rw [Nat.pow_add]; exact Nat.mul_lt_mul_of_pos_left (Nat.mod_lt _ (Nat.two_pow_pos i)) (Nat.two_pow_pos s)
      have h3 := Crc.add_xor (s + i) _ 1 hm
      rw [Nat.mul_one] at h3
      exact h3.symm
    · have hb0 : v / 2 ^ i % 2 = 0 := by omega
      rw [if_neg hb, ih, e, hb0, Nat.mul_zero, Nat.xor_zero]

end Go.Proofs.Qxb6500698aDoor
