/-
  WHAT A CALL MAY WRITE: a set of blocks; a byte string of one's own that grows.
-/
import Derived.Test.Qxb6500698aGreatDoorZFltD
import Derived.Test.Qxb6500698aGreatDoorApp
import Derived.Laws.Rows
namespace Go.Proofs.Qxb6500698aGreatDoor
open Go.RowKit

theorem heap_lt {w : World} {b : Nat} {o : Obj} (h : w.heap[b]? = some o) : b < w.heap.size := (Array.getElem?_eq_some_iff.1 h).1
/-- Blocks outside P are as they were. -/
structure Chg (P : Nat → Prop) (w w' : World) : Prop where
  os : w'.os = w.os
  tape : w'.tape = w.tape
  output : w'.output = w.output
  size : w.heap.size ≤ w'.heap.size
  block : ∀ b, b < w.heap.size → ¬ P b → w'.heap[b]? = w.heap[b]?
theorem Chg.trans {P : Nat → Prop} {a b c : World} (h : Chg P a b) (k : Chg P b c) : Chg P a c := ⟨k.os.trans h.os, k.tape.trans h.tape, k.output.trans h.output, Nat.le_trans h.size k.size, fun i hi hn => (k.block i (Nat.lt_of_lt_of_le hi h.size) hn).trans (h.block i hi hn)⟩
theorem Chg.mono {P P' : Nat → Prop} {w w' : World} (h : Chg P w w') (hP : ∀ b, P b → P' b) : Chg P' w w' := ⟨h.os, h.tape, h.output, h.size, fun b hb hn => h.block b hb (fun hp => hn (hP b hp))⟩
/-- Behind a change, a change of more that is new. -/
theorem Chg.then {P P' : Nat → Prop} {a b c : World} (h : Chg P a b) (k : Chg P' b c) (hP : ∀ i, P' i → P i ∨ a.heap.size ≤ i) : Chg P a c :=
  ⟨k.os.trans h.os, k.tape.trans h.tape, k.output.trans h.output, Nat.le_trans h.size k.size, fun i hi hn => (k.block i (Nat.lt_of_lt_of_le hi h.size) (fun hp => by
    rcases hP i hp with h1 | h1
    · exact hn h1
    · omega)).trans (h.block i hi hn)⟩
theorem Below.chg {w w' : World} (h : Below w.heap.size w w') (P : Nat → Prop) : Chg P w w' := ⟨h.os, h.tape, h.output, h.size, fun b hb _ => h.block b hb⟩
theorem Chg.refl (P : Nat → Prop) (w : World) : Chg P w w := Below.chg (Below.refl _ _) P
theorem Only.chg {d : Nat} {w w' : World} {P : Nat → Prop} (h : Only d w w') (hd : P d) : Chg P w w' := ⟨h.os, h.tape, h.output, Nat.le_of_eq h.size.symm, fun b _ hn => h.block b (fun e => hn (by rw [e]; exact hd))⟩
theorem grown_chg {w w' : World} {row : Option Nat} {P : Nat → Prop} (h : w.grownBy w' row) (hr : ∀ b, row = some b → P b) : Chg P w w' := ⟨h.os, h.tape, h.output, h.size, fun b hb hn => h.block b hb (fun e => hn (hr b e.symm))⟩
theorem drewN_chg (w : World) (n : Nat) (P : Nat → Prop) : Chg P w (w.drewN n) := Below.chg (drewN_below w n _) P
theorem Chg.below {P : Nat → Prop} {B : Nat} {a w w' : World} (h : Chg P w w') (hb : Below B a w) (hB : B ≤ w.heap.size) (hP : ∀ b, P b → B ≤ b) : Below B a w' :=
  ⟨h.os.trans hb.os, h.tape.trans hb.tape, h.output.trans hb.output, Nat.le_trans hb.size h.size, fun k hk => (h.block k (by omega) (fun hp => by have := hP k hp; omega)).trans (hb.block k hk)⟩
theorem Chg.cell {P : Nat → Prop} {w w' : World} (h : Chg P w w') {b o : Nat} {u : Value} (hu : w.cell? ⟨b, o, none⟩ = some u) (hn : ¬ P b) : w'.cell? ⟨b, o, none⟩ = some u :=
  (World.cell?_of_block (a := ⟨b, o, none⟩) (h.block b (cell_lt hu) hn)).trans hu
theorem BRow.chg {P : Nat → Prop} {w w' : World} {ao : Option Addr} {bs : List Nat} (h : BRow w ao bs) (hC : Chg P w w') (hn : bs ≠ [] → ∀ b o, ao = some ⟨b, o, none⟩ → ¬ P b) : BRow w' ao bs :=
  ⟨h.lt, fun hne => by
    obtain ⟨b, o, ha, hc⟩ := h.row hne
    exact ⟨b, o, ha, fun i hi => hC.cell (hc i hi) (hn hne b o ha)⟩⟩
theorem BRow.at_lt {w : World} {ao : Option Addr} {bs : List Nat} (h : BRow w ao bs) (hne : bs ≠ []) {b o : Nat} (ha : ao = some ⟨b, o, none⟩) : b < w.heap.size := by
  obtain ⟨b', o', ha', hc⟩ := h.row hne
  rw [ha] at ha'
  cases ha'
  exact cell_lt (hc 0 (List.length_pos_iff.2 hne))

/-- A byte string of one's own (OwnB, IntsA) grew from vd to v'. -/
structure Gr (vd v' : Value) (w w' : World) : Prop where
  chg : Chg (fun b => vd.ownBlock = some b) w w'
  new : ∀ b, v'.ownBlock = some b → vd.ownBlock = some b ∨ w.heap.size ≤ b
theorem Gr.refl (v : Value) (w : World) : Gr v v w w := ⟨Chg.refl _ _, fun _ h => .inl h⟩
theorem Gr.mk1 {vd v' : Value} {w w' : World} {o : Obj} (g2 : (w.alloc o).grownBy w' vd.ownBlock) (g3 : v'.ownBlock = vd.ownBlock ∨ v'.ownBlock = some (w.alloc o).heap.size) : Gr vd v' w w' := by
  refine ⟨(Below.chg ((Below.refl _ _).alloc (Nat.le_refl _) o) _).trans (grown_chg g2 (fun b h => h)), fun b hb => ?_⟩
  rcases g3 with g3 | g3
  · exact .inl (by rw [← g3]; exact hb)
  · rw [g3] at hb
    have e : (w.alloc o).heap.size = b := Option.some.inj hb
    refine .inr ?_
    rw [← e]; simp
theorem Gr.mk0 {vd v' : Value} {w w' : World} (g2 : w.grownBy w' vd.ownBlock) (g3 : v'.ownBlock = vd.ownBlock ∨ v'.ownBlock = some w.heap.size) : Gr vd v' w w' := by
  refine ⟨grown_chg g2 (fun b h => h), fun b hb => ?_⟩
  rcases g3 with g3 | g3
  · exact .inl (by rw [← g3]; exact hb)
  · rw [g3] at hb
    have e : w.heap.size = b := Option.some.inj hb
    exact .inr (by omega)
theorem Gr.drewN {vd v' : Value} {w w' : World} {m : Nat} (h : Gr vd v' (w.drewN m) w') : Gr vd v' w w' := by
  have hs : (w.drewN m).heap.size = w.heap.size := by rw [(World.drewN_alike w m).1]
  exact ⟨(drewN_chg w m _).trans h.chg, fun b hb => by have := h.new b hb; rw [hs] at this; exact this⟩
end Go.Proofs.Qxb6500698aGreatDoor
