/-
  WHAT LIES IN MEMORY, said of a world: byte strings behind a slice ('BRow'), the script's steps ('OpAt', 'Script'). No program in sight.
-/
import Derived.WalkKit
import Derived.Deep.OwnRows
import Derived.Deep.Draws
namespace Go.Proofs.Qxb6500698aGreatDoor
open Go.RowKit

theorem cell_lt {w : World} {b o : Nat} {v : Value} (h : w.cell? ⟨b, o, none⟩ = some v) : b < w.heap.size := World.block_lt_of_cell? w ⟨b, o, none⟩ h

/-- The bytes bs lie behind a slice that begins at ao. -/
structure BRow (w : World) (ao : Option Addr) (bs : List Nat) : Prop where
  lt : ∀ x ∈ bs, x < 256
  row : bs ≠ [] → ∃ b o, ao = some ⟨b, o, none⟩ ∧ ∀ i, i < bs.length → w.cell? ⟨b, o + i, none⟩ = some (.int .u8 ((bs.getD i 0 : Nat) : Int))

theorem BRow.nil (w : World) (ao : Option Addr) : BRow w ao [] := ⟨by simp, fun h => absurd rfl h⟩

theorem getD_mem {α : Type} {l : List α} {i : Nat} {d : α} (h : i < l.length) : l.getD i d ∈ l := by
  rw [List.getD_eq_getElem?_getD, List.getElem?_eq_getElem h]; exact List.getElem_mem h

theorem BRow.byte {w : World} {ao : Option Addr} {bs : List Nat} (h : BRow w ao bs) {i : Nat} (hi : i < bs.length) : bs.getD i 0 < 256 := h.lt _ (getD_mem hi)

theorem ne_nil_of_lt {α : Type} {l : List α} {i : Nat} (h : i < l.length) : l ≠ [] := by intro e; subst e; simp at h

/-- The same bytes in a world that holds the same in the blocks that were there. -/
theorem BRow.same {w w' : World} {ao : Option Addr} {bs : List Nat} (h : BRow w ao bs) (hs : ∀ b o, b < w.heap.size → w'.cell? ⟨b, o, none⟩ = w.cell? ⟨b, o, none⟩) : BRow w' ao bs := by
  refine ⟨h.lt, fun hne => ?_⟩
  obtain ⟨b, o, ha, hc⟩ := h.row hne
  exact ⟨b, o, ha, fun i hi => by rw [hs b _ (cell_lt (hc i hi))]; exact hc i hi⟩

theorem BRow.below {w w' : World} {ao : Option Addr} {bs : List Nat} (h : BRow w ao bs) (hb : Below w.heap.size w w') : BRow w' ao bs :=
  h.same fun b _ hlt => hb.cell (p := ⟨b, _, none⟩) hlt

theorem drewN_cell (w : World) (n : Nat) (a : Addr) : (w.drewN n).cell? a = w.cell? a := (World.drewN_alike w n).cell a

theorem BRow.drewN {w : World} {ao : Option Addr} {bs : List Nat} (h : BRow w ao bs) (n : Nat) : BRow (w.drewN n) ao bs := h.same fun _ _ _ => drewN_cell w n _

/-- A block that is not written keeps its bytes: 'row' is the one block that may have been. -/
theorem BRow.grown {w w' : World} {ao : Option Addr} {bs : List Nat} {row : Option Nat} (h : BRow w ao bs) (hg : w.grownBy w' row) (hne : bs ≠ [] → ∀ b o, ao = some ⟨b, o, none⟩ → some b ≠ row) : BRow w' ao bs := by
  refine ⟨h.lt, fun hn => ?_⟩
  obtain ⟨b, o, ha, hc⟩ := h.row hn
  exact ⟨b, o, ha, fun i hi => hg.cell (hc i hi) (hne hn b o ha)⟩

theorem BRow.take {w : World} {ao : Option Addr} {bs : List Nat} (h : BRow w ao bs) (k : Nat) : BRow w ao (bs.take k) := by
  refine ⟨fun x hx => h.lt x (List.mem_of_mem_take hx), fun hn => ?_⟩
  have hne : bs ≠ [] := by intro e; subst e; simp at hn
  obtain ⟨b, o, ha, hc⟩ := h.row hne
  refine ⟨b, o, ha, fun i hi => ?_⟩
  simp only [List.length_take] at hi
  rw [hc i (by omega)]
  simp [List.getD_eq_getElem?_getD, show i < k by omega]

theorem BRow.drop {w : World} {b o : Nat} {bs : List Nat} (h : BRow w (some ⟨b, o, none⟩) bs) (k : Nat) : BRow w (some ⟨b, o + k, none⟩) (bs.drop k) := by
  refine ⟨fun x hx => h.lt x (List.mem_of_mem_drop hx), fun hn => ?_⟩
  have hne : bs ≠ [] := by intro e; subst e; simp at hn
  obtain ⟨b', o', ha, hc⟩ := h.row hne
  obtain ⟨rfl, rfl⟩ : b = b' ∧ o = o' := by simpa using ha
  refine ⟨b, o + k, rfl, fun i hi => ?_⟩
  simp only [List.length_drop] at hi
  rw [show o + k + i = o + (k + i) by omega, hc (k + i) (by omega)]
  simp [List.getD_eq_getElem?_getD]

/-- The drop at the end of the room keeps the old address. -/
theorem BRow.drop_if {w : World} {b o : Nat} {bs : List Nat} (h : BRow w (some ⟨b, o, none⟩) bs) (k cap : Nat) (hc : bs.length ≤ cap) : BRow w (if cap = k then some ⟨b, o, none⟩ else some ⟨b, o + k, none⟩) (bs.drop k) := by
  by_cases e : cap = k
  · rw [if_pos e, List.drop_of_length_le (by omega)]; exact BRow.nil _ _
  · rw [if_neg e]; exact h.drop k

theorem BRow.of_rowIs {w : World} {b : Nat} {t : TypeId} {n : Nat} {bs : List Nat} (h : w.rowIs b t n (fun i => .int .u8 ((bs.getD i 0 : Nat) : Int))) (hlt : ∀ x ∈ bs, x < 256) (hn : bs.length ≤ n) : BRow w (some ⟨b, 0, none⟩) bs :=
  ⟨hlt, fun _ => ⟨b, 0, rfl, fun i hi => by rw [Nat.zero_add]; exact h.cell (by omega)⟩⟩

/-- A slice that the call owns, read as bytes. -/
theorem BRow.of_owns {w : World} {base : Nat} {e : TypeId} {v : Value} {n : Nat} {bs : List Nat} (h : w.ownsRow base e 1 v n (bs.map fun x => Value.int .u8 ((x : Nat) : Int))) (hlt : ∀ x ∈ bs, x < 256) :
    ∃ ao cap, v = .slice ao bs.length cap ∧ bs.length ≤ cap ∧ cap ≤ maxLen ∧ BRow w ao bs ∧ (∀ b o, ao = some ⟨b, o, none⟩ → base ≤ b ∧ o = 0) ∧ v.ownBlock = ao.map (·.block) := by
  have hn : bs.length = n := by simpa using h.1
  rcases h.2 with ⟨rfl, h0⟩ | ⟨g, cap, cur, rfl, hb, hg, hle, hm, hs, ht⟩
  · have : bs = [] := List.length_eq_zero_iff.1 (by omega)
    subst this
    exact ⟨none, 0, rfl, Nat.le_refl _, by unfold maxLen; omega, BRow.nil _ _, by simp, rfl⟩
  · refine ⟨some ⟨g, 0, none⟩, cap, by rw [hn], by omega, hm, ⟨hlt, fun _ => ⟨g, 0, rfl, fun i hi => ?_⟩⟩, ?_, rfl⟩
    · have := h.cells (g := g) rfl i (.int .u8 ((bs.getD i 0 : Nat) : Int)) (by simp [List.getD_eq_getElem?_getD, hi])
      have e : (⟨g, 0, none⟩ : Addr).add i = ⟨g, 0 + i, none⟩ := by unfold Addr.add; split <;> simp_all
      rw [← e]; exact this
    · intro b o hbo
      simp at hbo
      obtain ⟨rfl, rfl⟩ := hbo
      exact ⟨hb, rfl⟩

theorem BRow.of_owns' {w : World} {base : Nat} {e : TypeId} {v : Value} {n : Nat} {bs : List Nat} (h : w.ownsRow base e 1 v n (bs.map fun x => Value.int .u8 ((x : Nat) : Int))) (hlt : ∀ x ∈ bs, x < 256) :
    ∃ ao cap, v = .slice ao bs.length cap ∧ bs.length ≤ cap ∧ cap ≤ maxLen ∧ BRow w ao bs ∧ ((ao = none ∧ cap = 0) ∨ ∃ g, ao = some ⟨g, 0, none⟩ ∧ base ≤ g) := by
  obtain ⟨ao, cap, h1, h2, h3, h4, _, _⟩ := BRow.of_owns h hlt
  refine ⟨ao, cap, h1, h2, h3, h4, ?_⟩
  rcases h.2 with ⟨hv, _⟩ | ⟨g, cap', cur, hv, hb, _⟩
  · rw [hv] at h1; simp at h1; exact .inl ⟨h1.1.symm, h1.2.2.symm⟩
  · rw [hv] at h1; simp at h1; exact .inr ⟨g, h1.1.symm, hb⟩

/-- The slice 's[k:]' of a slice that begins at ao. -/
theorem BRow.drop_any {w : World} {ao : Option Addr} {bs : List Nat} (h : BRow w ao bs) (hform : ao = none ∨ ∃ g, ao = some ⟨g, 0, none⟩) (k cap : Nat) (hc : bs.length ≤ cap) : BRow w (if cap = k then ao else ao.map fun x => x.add k) (bs.drop k) := by
  rcases hform with rfl | ⟨g, rfl⟩
  · have : bs = [] := by
      cases bs with
      | nil => rfl
      | cons x xs => obtain ⟨b, o, hb, _⟩ := h.row (by simp); simp at hb
    subst this
    simp only [List.drop_nil]; exact BRow.nil _ _
  · have := h.drop_if k cap hc
    by_cases e : cap = k
    · rw [if_pos e] at this ⊢; exact this
    · rw [if_neg e] at this ⊢
      have e2 : (⟨g, 0, none⟩ : Addr).add k = ⟨g, 0 + k, none⟩ := by unfold Addr.add; split <;> simp_all
      simp only [Option.map_some, e2]; exact this

/-- The cells that 'append(dst, src...)' reads. -/
theorem BRow.news {w : World} {b o : Nat} {bs : List Nat} (h : BRow w (some ⟨b, o, none⟩) bs) : ∀ j u, (bs.map fun x => Value.int .u8 ((x : Nat) : Int))[j]? = some u → w.cell? ((⟨b, o, none⟩ : Addr).add j) = some u := by
  intro j u hj
  have hlen : j < bs.length := by
    have := (List.getElem?_eq_some_iff.1 hj).1; simpa using this
  obtain ⟨b', o', ha, hc⟩ := h.row (ne_nil_of_lt hlen)
  obtain ⟨rfl, rfl⟩ : b = b' ∧ o = o' := by simpa using ha
  have e : (⟨b, o, none⟩ : Addr).add j = ⟨b, o + j, none⟩ := by unfold Addr.add; split <;> simp_all
  rw [e, hc j hlen]
  simp [hlen] at hj
  simp [List.getD_eq_getElem?_getD, hlen, hj]

theorem bytes_oneCell (bs : List Nat) : ∀ u ∈ (bs.map fun x => Value.int .u8 ((x : Nat) : Int)), u.oneCell' = true := by
  intro u hu
  obtain ⟨x, _, rfl⟩ := List.mem_map.1 hu
  rfl

/-! ### The script -/
/-- One step of a script, as data: its bytes 'bs' lie behind the slice (da, bs.length, dc). -/
structure OpD where
  kind : Nat
  da : Option Addr
  dc : Nat
  bs : List Nat
  b : Nat
  n : Int
  v : Nat
  width : Int

def OpD.zero : OpD := ⟨0, none, 0, [], 0, 0, 0, 0⟩

structure OpAt (w : World) (b o : Nat) (x : OpD) : Prop where
  c0 : w.cell? ⟨b, o, none⟩ = some (.int .u8 x.kind)
  c1 : w.cell? ⟨b, o + 1, none⟩ = some (.slice x.da x.bs.length x.dc)
  c2 : w.cell? ⟨b, o + 2, none⟩ = some (.int .u8 x.b)
  c3 : w.cell? ⟨b, o + 3, none⟩ = some (.int .i64 x.n)
  c4 : w.cell? ⟨b, o + 4, none⟩ = some (.int .u64 x.v)
  c5 : w.cell? ⟨b, o + 5, none⟩ = some (.int .i64 x.width)
  data : BRow w x.da x.bs
  cap : x.bs.length ≤ x.dc
  cap2 : x.dc ≤ maxLen
  hk : x.kind < 256
  hb : x.b < 256
  hn1 : -9223372036854775808 ≤ x.n
  hn2 : x.n ≤ 9223372036854775807
  hv : x.v < 18446744073709551616
  hw1 : -9223372036854775808 ≤ x.width
  hw2 : x.width ≤ 9223372036854775807

theorem OpAt.same {w w' : World} {b o : Nat} {x : OpD} (h : OpAt w b o x) (hs : ∀ b o, b < w.heap.size → w'.cell? ⟨b, o, none⟩ = w.cell? ⟨b, o, none⟩) : OpAt w' b o x :=
  { h with
    c0 := (hs _ _ (cell_lt h.c0)).trans h.c0
    c1 := (hs _ _ (cell_lt h.c1)).trans h.c1
    c2 := (hs _ _ (cell_lt h.c2)).trans h.c2
    c3 := (hs _ _ (cell_lt h.c3)).trans h.c3
    c4 := (hs _ _ (cell_lt h.c4)).trans h.c4
    c5 := (hs _ _ (cell_lt h.c5)).trans h.c5
    data := h.data.same hs }

/-- The script: a slice of steps that begins at ao. -/
def Script (w : World) (ao : Option Addr) (ops : List OpD) : Prop :=
  ops ≠ [] → ∃ b o, ao = some ⟨b, o, none⟩ ∧ ∀ i, i < ops.length → OpAt w b (o + i * 6) (ops.getD i OpD.zero)

theorem Script.same {w w' : World} {ao : Option Addr} {ops : List OpD} (h : Script w ao ops) (hs : ∀ b o, b < w.heap.size → w'.cell? ⟨b, o, none⟩ = w.cell? ⟨b, o, none⟩) : Script w' ao ops := by
  intro hn
  obtain ⟨b, o, ha, hc⟩ := h hn
  exact ⟨b, o, ha, fun i hi => (hc i hi).same hs⟩

theorem Script.below {w w' : World} {ao : Option Addr} {ops : List OpD} (h : Script w ao ops) (hb : Below w.heap.size w w') : Script w' ao ops :=
  h.same fun b _ hlt => hb.cell (p := ⟨b, _, none⟩) hlt

/-- All members in all. -/
def total : List OpD → Nat
  | [] => 0
  | x :: xs => x.bs.length + total xs

theorem total_take_succ (ops : List OpD) (k : Nat) (h : k < ops.length) : total (ops.take (k + 1)) = total (ops.take k) + (ops.getD k OpD.zero).bs.length := by
  induction ops generalizing k with
  | nil => simp at h
  | cons x xs ih =>
    cases k with
    | zero => simp [total]
    | succ k => simp only [List.take_succ_cons, total, List.getD_cons_succ]; rw [ih k (by simpa using h)]; omega

theorem total_take_le (ops : List OpD) (k : Nat) : total (ops.take k) ≤ total ops := by
  induction ops generalizing k with
  | nil => simp
  | cons x xs ih =>
    cases k with
    | zero => simp [total]
    | succ k => simp only [List.take_succ_cons, total]; have := ih k; omega

def small (ops : List OpD) : Bool := decide (ops.length + total ops ≤ 65536)

/-- What one step brings: its filled bytes, or its own. -/
def fill (n : Int) : Nat := (n % 65537).toNat
def pieceOf (x : OpD) : Option (List Nat) := if x.kind = 2 then some (List.replicate (fill x.n) x.b) else if x.bs = [] then none else some x.bs
def piecesOf (ops : List OpD) : List (List Nat) := ops.filterMap pieceOf
def wholeOf (ops : List OpD) : List Nat := (piecesOf ops).flatten

theorem fill_le (n : Int) : fill n ≤ 65536 := by unfold fill; omega

theorem drewN_below (w : World) (n : Nat) (B : Nat) : Below B w (w.drewN n) := by
  have h := World.drewN_alike w n
  refine ⟨h.2.1, ?_, h.2.2, by rw [h.1]; exact Nat.le_refl _, fun k _ => by rw [h.1]⟩
  clear h
  induction n with
  | zero => rfl
  | succ n ih => exact ih

end Go.Proofs.Qxb6500698aGreatDoor
