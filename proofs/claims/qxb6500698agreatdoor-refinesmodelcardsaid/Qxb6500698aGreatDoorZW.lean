/-
  THE WALKS OF THE WRITER.
-/
import Derived.Test.Qxb6500698aGreatDoorZTrail
namespace Go.Proofs.Qxb6500698aGreatDoor
open Go.RowKit

/-- The writer in block b. -/
def WrAt (w : World) (b : Nat) (v : Value) (lim : Nat) (x : Value) : Prop := w.heap[b]? = some (.cells #[v, .int .i64 (lim : Int), x] 90 (0, 0))
section
variable {w : World} {b lim : Nat} {v x : Value}
theorem WrAt.c0 (h : WrAt w b v lim x) : w.cell? ⟨b, 0, none⟩ = some v := by unfold WrAt at h; simp [World.cell?, h]
theorem WrAt.c1 (h : WrAt w b v lim x) : w.cell? ⟨b, 1, none⟩ = some (.int .i64 (lim : Int)) := by unfold WrAt at h; simp [World.cell?, h]
theorem WrAt.c2 (h : WrAt w b v lim x) : w.cell? ⟨b, 2, none⟩ = some x := by unfold WrAt at h; simp [World.cell?, h]
theorem WrAt.fr (h : WrAt w b v lim x) (i : Nat) : w.frozen? ⟨b, i, none⟩ = false := by unfold WrAt at h; simp [World.frozen?, h]
theorem WrAt.lt (h : WrAt w b v lim x) : b < w.heap.size := heap_lt h
theorem WrAt.of_block {w' : World} (h : WrAt w b v lim x) (e : w'.heap[b]? = w.heap[b]?) : WrAt w' b v lim x := e.trans h
theorem WrAt.set0 (h : WrAt w b v lim x) (u : Value) : WrAt (w.setCell ⟨b, 0, none⟩ u) b u lim x := by unfold WrAt at *; simp [World.setCell, Array.getElem?_modify, h]
theorem WrAt.set2 (h : WrAt w b v lim x) (u : Value) : WrAt (w.setCell ⟨b, 2, none⟩ u) b v lim u := by unfold WrAt at *; simp [World.setCell, Array.getElem?_modify, h]
theorem WrAt.drewN (h : WrAt w b v lim x) (m : Nat) : WrAt (w.drewN m) b v lim x := h
end

/-- The writer and its bytes. -/
structure WrS (B : Nat) (w : World) (e : Nat → Addr) (wb : Nat) (v : Value) (O : List Nat) (lim : Nat) (oe : Option Nat) : Prop where
  at_ : WrAt w wb v lim (errV e oe)
  own : OwnB w B v O
  byt : ∀ x ∈ O, x < 256
  len : O.length ≤ lim
  hlim : lim ≤ 1024
  ne : v.ownBlock ≠ some wb
  oe6 : ∀ i, oe = some i → i < 6
  hB : B ≤ wb
/-- What the writer's methods may write. -/
def WB (wb : Nat) (v : Value) (b : Nat) : Prop := b = wb ∨ v.ownBlock = some b
/-- What a method of the writer leaves. -/
def WrPost (B : Nat) (w : World) (e : Nat → Addr) (wb : Nat) (v : Value) (O' : List Nat) (lim : Nat) (oe' : Option Nat) (w' : World) : Prop :=
  ∃ v', WrS B w' e wb v' O' lim oe' ∧ Chg (WB wb v) w w' ∧ ∀ b, v'.ownBlock = some b → v.ownBlock = some b ∨ w.heap.size ≤ b
/-- Bytes written, or the refusal. -/
def wwrite (O : List Nat) (lim : Nat) (oe : Option Nat) (p : List Nat) : List Nat × Option Nat := if oe = none then (if O.length + p.length ≤ lim then (O ++ p, none) else (O, some 3)) else (O, oe)

theorem own_same {w w' : World} {B : Nat} {v : Value} {O : List Nat} (h : OwnB w B v O) (e : ∀ b, v.ownBlock = some b → w'.heap[b]? = w.heap[b]?) (_hs : w.heap.size ≤ w'.heap.size) : OwnB w' B v O := by
  have hg : w.ownsRow B 5 1 v O.length (O.map fun y => Value.int .u8 ((y : Nat) : Int)) := h
  rcases hg.2 with ⟨hv, h0⟩ | ⟨g, cap, cur, hv, hb, hgg, hle, hm, hss, ht⟩
  · exact ⟨hg.1, .inl ⟨hv, h0⟩⟩
  · exact ⟨hg.1, .inr ⟨g, cap, cur, hv, hb, (e g (by rw [hv]; rfl)).trans hgg, hle, hm, hss, ht⟩⟩

section
variable {B : Nat} {w w' : World} {e : Nat → Addr} {wb : Nat} {v : Value} {O : List Nat} {lim : Nat} {oe : Option Nat}
theorem WrS.wlt (h : WrS B w e wb v O lim oe) : ∀ b, WB wb v b → b < w.heap.size ∧ B ≤ b := fun b hb => by
  rcases hb with rfl | hb
  · exact ⟨h.at_.lt, h.hB⟩
  · exact ⟨(h.own.lt b hb).2, (h.own.lt b hb).1⟩
theorem WrS.keep (h : WrS B w e wb v O lim oe) (hk : ∀ b, WB wb v b → w'.heap[b]? = w.heap[b]?) (hs : w.heap.size ≤ w'.heap.size) : WrS B w' e wb v O lim oe :=
  { h with at_ := h.at_.of_block (hk wb (.inl rfl)), own := own_same h.own (fun b hb => hk b (.inr hb)) hs }
theorem WrS.drewN (h : WrS B w e wb v O lim oe) (m : Nat) : WrS B (w.drewN m) e wb v O lim oe :=
  h.keep (fun b _ => by rw [(World.drewN_alike w m).1]) (by rw [(World.drewN_alike w m).1]; exact Nat.le_refl _)
/-- The refusal recorded. -/
theorem WrS.err (h : WrS B w e wb v O lim oe) (i : Option Nat) (hi : ∀ j, i = some j → j < 6) : WrS B (w.setCell ⟨wb, 2, none⟩ (errV e i)) e wb v O lim i ∧ Only wb w (w.setCell ⟨wb, 2, none⟩ (errV e i)) := by
  have hO : Only wb w (w.setCell ⟨wb, 2, none⟩ (errV e i)) := (Only.refl _ _).setCell _ _
  exact ⟨{ h with at_ := h.at_.set2 _, own := own_same h.own (fun b hb => hO.block b (fun e' => h.ne (by rw [← e']; exact hb))) (Nat.le_of_eq hO.size.symm), oe6 := hi }, hO⟩
/-- New bytes behind the old, the slice stored. -/
theorem WrS.buf {w1 : World} {v' : Value} {O' : List Nat} (h : WrS B w e wb v O lim oe) (hg : Gr v v' w w1) (ho : OwnB w1 B v' O') (hb : ∀ x ∈ O', x < 256) (hl : O'.length ≤ lim) : WrPost B w e wb v O' lim oe (w1.setCell ⟨wb, 0, none⟩ v') := by
  have hO : Only wb w1 (w1.setCell ⟨wb, 0, none⟩ v') := (Only.refl _ _).setCell _ _
  have hlt := h.at_.lt
  have hne : v'.ownBlock ≠ some wb := fun e' => by
    rcases hg.new wb e' with h1 | h1
    · exact h.ne h1
    · omega
  have h1 : WrAt w1 wb v lim (errV e oe) := h.at_.of_block (hg.chg.block wb hlt h.ne)
  refine ⟨v', ⟨h1.set0 v', own_same ho (fun b hb => hO.block b (fun e' => hne (by rw [← e']; exact hb))) (Nat.le_of_eq hO.size.symm), hb, hl, h.hlim, hne, h.oe6, h.hB⟩, ?_, hg.new⟩
  exact (hg.chg.mono (fun b hb => .inr hb)).trans (Only.chg hO (.inl rfl))
end

section
variable {B : Nat} {w : World} {e : Nat → Addr} {wb : Nat} {v : Value} {O : List Nat} {lim : Nat} {oe : Option Nat}
set_option maxRecDepth 100000 in
set_option maxHeartbeats 1000000 in
theorem room_err {i : Nat} (n : Int) (h : WrS B w e wb v O lim (some i)) :
    Calls Tryz.prog 61 #[.pointer (some ⟨wb, 0, none⟩), .int .i64 n] w fun r w' => r = .returned (.bool false) ∧ w' = w := by
  have hI : Tryz.prog.isIface 71 = true := by kernel_rfl
  have c2 := h.at_.c2
  unfold errV at c2
  clear h
  go_enter Tryz.func61, Tryz.ntmps61
  go_wp2
  go_ret
  exact ⟨rfl, rfl⟩
set_option maxRecDepth 100000 in
set_option maxHeartbeats 1000000 in
theorem room_yes (n : Nat) (h : WrS B w e wb v O lim none) (hn : O.length + n ≤ lim) :
    Calls Tryz.prog 61 #[.pointer (some ⟨wb, 0, none⟩), .int .i64 (n : Int)] w fun r w' => r = .returned (.bool true) ∧ ∃ m, w' = w.drewN m := by
  have hI : Tryz.prog.isIface 71 = true := by kernel_rfl
  have hl := h.hlim
  obtain ⟨ao, cap, hv, hc, hc', _⟩ := BRow.of_owns h.own h.byt
  have c0 := h.at_.c0
  rw [hv] at c0
  have c1 := h.at_.c1
  have c2 := h.at_.c2
  unfold errV at c2
  obtain ⟨L, hL⟩ : ∃ L, O.length = L := ⟨_, rfl⟩
  rw [hL] at c0 hn hc
  have hle : ¬ ((lim : Int) - (L : Int)) < (n : Int) := by omega
  clear h hv hL
  go_enter Tryz.func61, Tryz.ntmps61
  go_wp2
  go_quiet (fail)
  go_wp2
  go_ret
  exact ⟨rfl, _, rfl⟩
set_option maxRecDepth 100000 in
set_option maxHeartbeats 1000000 in
theorem room_no (n : Nat) (E : Errs w e) (h : WrS B w e wb v O lim none) (hn : ¬ O.length + n ≤ lim) (hn2 : n ≤ 140737488355328) :
    Calls Tryz.prog 61 #[.pointer (some ⟨wb, 0, none⟩), .int .i64 (n : Int)] w fun r w' => r = .returned (.bool false) ∧ ∃ m, w' = (w.drewN m).setCell ⟨wb, 2, none⟩ (errV e (some 3)) := by
  have hI : Tryz.prog.isIface 71 = true := by kernel_rfl
  have hl := h.hlim
  have hlen := h.len
  obtain ⟨ao, cap, hv, hc, hc', _⟩ := BRow.of_owns h.own h.byt
  have c0 := h.at_.c0
  rw [hv] at c0
  have c1 := h.at_.c1
  have c2 := h.at_.c2
  have f2 := h.at_.fr 2
  have g3 := E.cell 3 (by omega)
  unfold errV at c2 ⊢
  obtain ⟨L, hL⟩ : ∃ L, O.length = L := ⟨_, rfl⟩
  rw [hL] at c0 hn hc hlen
  have hle : ((lim : Int) - (L : Int)) < (n : Int) := by omega
  clear h hv hL E
  go_enter Tryz.func61, Tryz.ntmps61
  go_wp2
  go_quiet (fail)
  go_wp2
  go_ret
  exact ⟨rfl, _, rfl⟩
end
end Go.Proofs.Qxb6500698aGreatDoor
