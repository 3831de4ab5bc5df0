/-
  THE REAL MACHINES IN MEMORY.
-/
import Derived.Test.Qxb6500698aGreatDoorZOp2
namespace Go.Proofs.Qxb6500698aGreatDoor
open Go.RowKit

/-- Where the real machines lie. -/
structure Rl where
  d : Nat
  tb : Nat
  cd : Nat
  wb : Nat
  rb : Nat
  v : Value
  ao : Option Addr
  bs : List Nat
  cap : Nat
  off : Nat
/-- What a script's machines hold. -/
structure ZSt where
  F : List Nat
  O : List Nat
  I : List Nat
  lim : Nat
  oe : Option Nat
  ie : Option Nat
abbrev mq (l : Rl) : MQ := ⟨.pointer (some ⟨l.tb, 0, none⟩), .pointer (some ⟨l.cd, 0, none⟩), .pointer (some ⟨l.wb, 0, none⟩), .pointer (some ⟨l.rb, 0, none⟩)⟩
/-- What a step of the real machines may write. -/
def RW (l : Rl) (b : Nat) : Prop := b = l.d ∨ b = l.cd ∨ b = l.wb ∨ b = l.rb ∨ l.v.ownBlock = some b
/-- The block that the reader reads. -/
def RB (l : Rl) (b : Nat) : Prop := l.bs ≠ [] ∧ ∃ o, l.ao = some ⟨b, o, none⟩
structure ZR (B : Nat) (w : World) (e : Nat → Addr) (l : Rl) (s : ZSt) : Prop where
  fl : FlAcc (mq l) w l.d s.F
  dig : DigAt w l.cd l.tb (Crc.crc s.F) s.F.length
  tab : Tabs w l.tb
  wr : WrS B w e l.wb l.v s.O s.lim s.oe
  rd : RdS B w e l.rb l.ao l.bs l.cap l.off s.ie
  hI : s.I = l.bs.drop l.off
  hB : B ≤ l.d ∧ B ≤ l.cd ∧ B ≤ l.tb
  n1 : l.d ≠ l.tb ∧ l.d ≠ l.cd ∧ l.d ≠ l.wb ∧ l.d ≠ l.rb
  n2 : l.tb ≠ l.cd ∧ l.tb ≠ l.wb ∧ l.tb ≠ l.rb
  n3 : l.cd ≠ l.wb ∧ l.cd ≠ l.rb ∧ l.wb ≠ l.rb
  nv : ∀ b, l.v.ownBlock = some b → b ≠ l.d ∧ b ≠ l.tb ∧ b ≠ l.cd ∧ b ≠ l.rb
  nr : ∀ b, RB l b → b ≠ l.d ∧ b ≠ l.cd ∧ b ≠ l.wb ∧ l.v.ownBlock ≠ some b
  fb : ∀ x ∈ s.F, x < 256

section
variable {B : Nat} {w w' w1 w2 : World} {e : Nat → Addr} {l l1 l2 : Rl} {s s1 s2 : ZSt}
theorem ZR.rlt (h : ZR B w e l s) : ∀ b, RW l b → b < w.heap.size ∧ B ≤ b := fun b hb => by
  rcases hb with rfl | rfl | rfl | rfl | hb
  · exact ⟨h.fl.lt, h.hB.1⟩
  · exact ⟨h.dig.lt, h.hB.2.1⟩
  · exact ⟨h.wr.at_.lt, h.wr.hB⟩
  · exact ⟨h.rd.at_.lt, h.rd.hB⟩
  · exact ⟨(h.wr.own.lt b hb).2, (h.wr.own.lt b hb).1⟩
theorem ZR.blt (h : ZR B w e l s) : ∀ b, RB l b → b < w.heap.size := fun b hb => by
  obtain ⟨hne, o, ha⟩ := hb
  exact h.rd.row.at_lt hne ha
theorem tabs_keep {tb : Nat} (h : Tabs w tb) (e : w'.heap[tb]? = w.heap[tb]?) : Tabs w' tb := fun k i hk hi => (World.cell?_of_block (a := ⟨tb, k * 256 + i, none⟩) e).trans (h k i hk hi)
theorem brow_keep {ao : Option Addr} {bs : List Nat} (h : BRow w ao bs) (e : bs ≠ [] → ∀ b o, ao = some ⟨b, o, none⟩ → w'.heap[b]? = w.heap[b]?) : BRow w' ao bs :=
  ⟨h.lt, fun hne => by
    obtain ⟨b, o, ha, hc⟩ := h.row hne
    exact ⟨b, o, ha, fun i hi => (World.cell?_of_block (a := ⟨b, o + i, none⟩) (e hne b o ha)).trans (hc i hi)⟩⟩
theorem ZR.keep (h : ZR B w e l s) (hk : ∀ b, RW l b ∨ b = l.tb ∨ RB l b → w'.heap[b]? = w.heap[b]?) (hs : w.heap.size ≤ w'.heap.size) : ZR B w' e l s :=
  { h with
    fl := h.fl.of_block (hk _ (.inl (.inl rfl)))
    dig := h.dig.of_block (hk _ (.inl (.inr (.inl rfl))))
    tab := tabs_keep h.tab (hk _ (.inr (.inl rfl)))
    wr := h.wr.keep (fun b hb => hk b (.inl (by rcases hb with rfl | hb; exact .inr (.inr (.inl rfl)); exact .inr (.inr (.inr (.inr hb)))))) hs
    rd := h.rd.keep (hk _ (.inl (.inr (.inr (.inr (.inl rfl)))))) (brow_keep h.rd.row (fun hne b o ha => hk b (.inr (.inr ⟨hne, o, ha⟩)))) }
theorem ZR.below (h : ZR B w e l s) (hb : Below w.heap.size w w') : ZR B w' e l s := h.keep (fun b hx => hb.block b (by
  rcases hx with hx | hx | hx
  · exact (h.rlt b hx).1
  · rw [hx]; exact h.tab.lt
  · exact h.blt b hx)) hb.size

/-- From w to w' the real machines went from l to l', and hold s'. -/
structure RSt (B : Nat) (w w' : World) (e : Nat → Addr) (l l' : Rl) (s' : ZSt) : Prop where
  zr : ZR B w' e l' s'
  chg : Chg (RW l) w w'
  new : ∀ b, RW l' b → RW l b ∨ w.heap.size ≤ b
  tb : l'.tb = l.tb
  d : l'.d = l.d
  rdn : ∀ b, RB l' b → b < B ∨ RB l b ∨ w.heap.size ≤ b
theorem RSt.refl (h : ZR B w e l s) : RSt B w w e l l s := ⟨h, Chg.refl _ _, fun _ hb => .inl hb, rfl, rfl, fun _ hb => .inr (.inl hb)⟩
theorem RSt.trans (h : RSt B w w1 e l l1 s1) (k : RSt B w1 w2 e l1 l2 s2) : RSt B w w2 e l l2 s2 := by
  have hs := h.chg.size
  refine ⟨k.zr, h.chg.then k.chg h.new, fun b hb => ?_, k.tb.trans h.tb, k.d.trans h.d, fun b hb => ?_⟩
  · rcases k.new b hb with h1 | h1
    · exact h.new b h1
    · exact .inr (by omega)
  · rcases k.rdn b hb with h1 | h1 | h1
    · exact .inl h1
    · exact h.rdn b h1
    · exact .inr (.inr (by omega))
theorem RSt.below (h : RSt B w w1 e l l1 s1) (hb : Below w1.heap.size w1 w2) : RSt B w w2 e l l1 s1 := h.trans ⟨h.zr.below hb, Below.chg hb _, fun _ hx => .inl hx, rfl, rfl, fun _ hx => .inr (.inl hx)⟩
theorem RSt.start (h : ZR B w e l s) (hb : Below w.heap.size w w1) : RSt B w w1 e l l s := (RSt.refl h).below hb

/-- The writer went on. -/
theorem ZR.writer {O' : List Nat} {oe' : Option Nat} (h : ZR B w e l s) (hp : WrPost B w e l.wb l.v O' s.lim oe' w') : ∃ v', RSt B w w' e l { l with v := v' } { s with O := O', oe := oe' } := by
  obtain ⟨v', hW, hC, hn⟩ := hp
  have hk : ∀ b, b < w.heap.size → ¬ WB l.wb l.v b → w'.heap[b]? = w.heap[b]? := fun b hb hx => hC.block b hb hx
  have hnw : ∀ b, b ≠ l.wb → l.v.ownBlock ≠ some b → ¬ WB l.wb l.v b := fun b h1 h2 hx => by
    rcases hx with hx | hx
    · exact h1 hx
    · exact h2 hx
  have nvb : ∀ b, b < w.heap.size → l.v.ownBlock ≠ some b → v'.ownBlock ≠ some b := fun b hb h1 h2 => by
    rcases hn b h2 with h3 | h3
    · exact h1 h3
    · omega
  have n1 := h.n1
  have n2 := h.n2
  have n3 := h.n3
  have ld := h.fl.lt
  have lt := h.tab.lt
  have lc := h.dig.lt
  have lr := h.rd.at_.lt
  have vd : l.v.ownBlock ≠ some l.d := fun hx => (h.nv _ hx).1 rfl
  have vt : l.v.ownBlock ≠ some l.tb := fun hx => (h.nv _ hx).2.1 rfl
  have vc : l.v.ownBlock ≠ some l.cd := fun hx => (h.nv _ hx).2.2.1 rfl
  have vr : l.v.ownBlock ≠ some l.rb := fun hx => (h.nv _ hx).2.2.2 rfl
  refine ⟨v', ⟨h.fl.of_block (hk _ ld (hnw _ n1.2.2.1 vd)), h.dig.of_block (hk _ lc (hnw _ n3.1 vc)), tabs_keep h.tab (hk _ lt (hnw _ n2.2.1 vt)), hW, h.rd.keep (hk _ lr (hnw _ (Ne.symm n3.2.2) vr)) (brow_keep h.rd.row (fun hne b o ha => ?_)), h.hI, h.hB, h.n1, h.n2, h.n3, fun b hb => ?_, fun b hb => ?_, h.fb⟩, hC.mono (fun b hb => ?_), fun b hb => ?_, rfl, rfl, fun b hb => .inr (.inl hb)⟩
  · have := h.nr b ⟨hne, o, ha⟩
    exact hk b (h.rd.row.at_lt hne ha) (hnw b this.2.2.1 this.2.2.2)
  · exact ⟨fun e1 => nvb _ ld vd (by rw [← e1]; exact hb), fun e1 => nvb _ lt vt (by rw [← e1]; exact hb), fun e1 => nvb _ lc vc (by rw [← e1]; exact hb), fun e1 => nvb _ lr vr (by rw [← e1]; exact hb)⟩
  · have := h.nr b hb
    exact ⟨this.1, this.2.1, this.2.2.1, nvb b (h.blt b hb) this.2.2.2⟩
  · rcases hb with hb | hb
    · exact .inr (.inr (.inl hb))
    · exact .inr (.inr (.inr (.inr hb)))
  · rcases hb with hb | hb | hb | hb | hb
    · exact .inl (.inl hb)
    · exact .inl (.inr (.inl hb))
    · exact .inl (.inr (.inr (.inl hb)))
    · exact .inl (.inr (.inr (.inr (.inl hb))))
    · rcases hn b hb with h3 | h3
      · exact .inl (.inr (.inr (.inr (.inr h3))))
      · exact .inr h3
/-- The reader went on. -/
theorem ZR.reader {off' : Nat} {ie' : Option Nat} (h : ZR B w e l s) (hr : RdS B w' e l.rb l.ao l.bs l.cap off' ie') (hO : Only l.rb w w') : RSt B w w' e l { l with off := off' } { s with I := l.bs.drop off', ie := ie' } := by
  have n1 := h.n1
  have n2 := h.n2
  have n3 := h.n3
  refine ⟨⟨h.fl.of_block (hO.block _ n1.2.2.2), h.dig.of_block (hO.block _ n3.2.1), tabs_keep h.tab (hO.block _ n2.2.2), h.wr.keep (fun b hb => hO.block b (fun e1 => ?_)) (Nat.le_of_eq hO.size.symm), hr, rfl, h.hB, h.n1, h.n2, h.n3, h.nv, h.nr, h.fb⟩, Only.chg hO (.inr (.inr (.inr (.inl rfl)))), fun b hb => .inl hb, rfl, rfl, fun b hb => .inr (.inl hb)⟩
  rcases hb with hb | hb
  · exact n3.2.2 (by rw [← hb, e1])
  · exact (h.nv b hb).2.2.2 e1
end
end Go.Proofs.Qxb6500698aGreatDoor
