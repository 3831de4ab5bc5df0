/-
  WHAT A STEP SHOWS AND LEAVES (plain), AND WHAT EVERY STEP OF THE REAL MACHINES SHARES.
-/
import Derived.Test.Qxb6500698aGreatDoorZPG
import Derived.Test.Qxb6500698aGreatDoorRep
namespace Go.Proofs.Qxb6500698aGreatDoor
open Go.RowKit

structure ZAns where
  cr : Nat
  fl : Nat
  ln : Nat
  v : Nat
  dat : List Nat
  er : Nat
def zlim (n : Int) : Nat := (n % 1025).toNat
def wroteA (s : ZSt) : ZAns := ⟨0, 0, s.O.length, 0, [], errCode s.oe⟩
def readA (s : ZSt) (v : Nat) (dat : List Nat) : ZAns := ⟨0, 0, s.I.length, v, dat, errCode s.ie⟩
def zrd (I : List Nat) (ie : Option Nat) (n : Int) : List Nat × List Nat × Option Nat :=
  if ie = none then (if n < 0 then ([], I, some 2) else if (I.length : Int) < n then ([], I, some 0) else (I.take n.toNat, I.drop n.toNat, none)) else ([], I, ie)
def zui (I : List Nat) (ie : Option Nat) (n : Int) : Nat × List Nat × Option Nat := if ie = none then (if okW n = true then (undig (zrd I none n).1, (zrd I none n).2) else (0, I, some 1)) else (0, I, ie)
def zck (f : List Nat → Nat) (I : List Nat) (ie : Option Nat) : List Nat × List Nat × Option Nat := if ie = none then ((zopen f I).1, [], (zopen f I).2) else ([], I, ie)
def zfeed (s : ZSt) (p : List Nat) : ZSt := { s with F := s.F ++ p }
def zwr (s : ZSt) (z : List Nat × Option Nat) : ZSt := { s with O := z.1, oe := z.2 }
def zrs (s : ZSt) (I : List Nat) (ie : Option Nat) : ZSt := { s with I := I, ie := ie }
/-- A STEP. -/
def zstep (s : ZSt) (o : OpD) : ZSt × ZAns :=
  if o.kind = 0 then ({ s with F := [] }, ⟨0, 0, 0, 0, [], 0⟩)
  else if o.kind = 1 then (zfeed s o.bs, ⟨0, 0, (s.F ++ o.bs).length, 0, [], 0⟩)
  else if o.kind = 2 then (zfeed s (List.replicate (fill o.n) o.b), ⟨0, 0, (s.F ++ List.replicate (fill o.n) o.b).length, 0, [], 0⟩)
  else if o.kind = 3 then (s, ⟨Crc.crc s.F, Flt.fl s.F, s.F.length, 0, [], 0⟩)
  else if o.kind = 4 then ({ s with O := [], lim := zlim o.n, oe := none }, wroteA { s with O := [], lim := zlim o.n, oe := none })
  else if o.kind = 5 then (zwr s (zput s.O s.lim s.oe o.v o.width), wroteA (zwr s (zput s.O s.lim s.oe o.v o.width)))
  else if o.kind = 6 then (zwr s (wwrite s.O s.lim s.oe o.bs), wroteA (zwr s (wwrite s.O s.lim s.oe o.bs)))
  else if o.kind = 7 then (zwr s (zpatch s.O s.oe o.n o.v o.width), wroteA (zwr s (zpatch s.O s.oe o.n o.v o.width)))
  else if o.kind = 8 then (zwr s (wwrite s.O s.lim s.oe (dig (Crc.crc s.O) 4)), wroteA (zwr s (wwrite s.O s.lim s.oe (dig (Crc.crc s.O) 4))))
  else if o.kind = 9 then (zwr s (wwrite s.O s.lim s.oe (dig (Flt.fl s.O) 4)), wroteA (zwr s (wwrite s.O s.lim s.oe (dig (Flt.fl s.O) 4))))
  else if o.kind = 10 then (s, { wroteA s with dat := s.O })
  else if o.kind = 11 then (zrs s s.O none, readA (zrs s s.O none) 0 [])
  else if o.kind = 12 then (zrs s o.bs none, readA (zrs s o.bs none) 0 [])
  else if o.kind = 13 then (zrs s (zui s.I s.ie o.width).2.1 (zui s.I s.ie o.width).2.2, readA (zrs s (zui s.I s.ie o.width).2.1 (zui s.I s.ie o.width).2.2) (zui s.I s.ie o.width).1 [])
  else if o.kind = 14 then (zrs s (zrd s.I s.ie o.n).2.1 (zrd s.I s.ie o.n).2.2, readA (zrs s (zrd s.I s.ie o.n).2.1 (zrd s.I s.ie o.n).2.2) 0 (zrd s.I s.ie o.n).1)
  else if o.kind = 15 then (zrs s (zrd s.I s.ie o.n).2.1 (zrd s.I s.ie o.n).2.2, readA (zrs s (zrd s.I s.ie o.n).2.1 (zrd s.I s.ie o.n).2.2) 0 [])
  else if o.kind = 16 then (zrs s (zck Crc.crc s.I s.ie).2.1 (zck Crc.crc s.I s.ie).2.2, readA (zrs s (zck Crc.crc s.I s.ie).2.1 (zck Crc.crc s.I s.ie).2.2) 0 (zck Crc.crc s.I s.ie).1)
  else if o.kind = 17 then (zrs s (zck Flt.fl s.I s.ie).2.1 (zck Flt.fl s.I s.ie).2.2, readA (zrs s (zck Flt.fl s.I s.ie).2.1 (zck Flt.fl s.I s.ie).2.2) 0 (zck Flt.fl s.I s.ie).1)
  else if o.kind = 18 then (s, { readA s 0 [] with er := errCode (if s.ie = none ∧ s.I ≠ [] then some 4 else s.ie) })
  else (s, ⟨0, 0, 0, 0, [], 0⟩)

theorem znext_zrd {bs : List Nat} {off : Nat} {ie : Option Nat} {n : Int} : (znext bs off ie n).1 = (zrd (bs.drop off) ie n).1 ∧ bs.drop (znext bs off ie n).2.1 = (zrd (bs.drop off) ie n).2.1 ∧ (znext bs off ie n).2.2 = (zrd (bs.drop off) ie n).2.2 := by
  unfold znext zrd
  rw [List.length_drop]
  by_cases h1 : ie = none
  · rw [if_pos h1, if_pos h1]
    by_cases h2 : n < 0
    · rw [if_pos h2, if_pos h2]; exact ⟨rfl, rfl, rfl⟩
    · rw [if_neg h2, if_neg h2]
      by_cases h3 : ((bs.length - off : Nat) : Int) < n
      · rw [if_pos h3, if_pos h3]; exact ⟨rfl, rfl, rfl⟩
      · rw [if_neg h3, if_neg h3]
        exact ⟨rfl, by show bs.drop (off + n.toNat) = (bs.drop off).drop n.toNat; rw [List.drop_drop], rfl⟩
  · rw [if_neg h1, if_neg h1]; exact ⟨rfl, rfl, rfl⟩
theorem zuint_zui {bs : List Nat} {off : Nat} {ie : Option Nat} {n : Int} : (zuint bs off ie n).1 = (zui (bs.drop off) ie n).1 ∧ bs.drop (zuint bs off ie n).2.1 = (zui (bs.drop off) ie n).2.1 ∧ (zuint bs off ie n).2.2 = (zui (bs.drop off) ie n).2.2 := by
  unfold zuint zui
  by_cases h1 : ie = none
  · rw [if_pos h1, if_pos h1]
    by_cases h2 : okW n = true
    · rw [if_pos h2, if_pos h2]
      have := znext_zrd (bs := bs) (off := off) (ie := none) (n := n)
      exact ⟨by show undig _ = undig _; rw [this.1], this.2.1, this.2.2⟩
    · rw [if_neg h2, if_neg h2]; exact ⟨rfl, rfl, rfl⟩
  · rw [if_neg h1, if_neg h1]; exact ⟨rfl, rfl, rfl⟩
theorem zcheck_zck {f : List Nat → Nat} {bs : List Nat} {off : Nat} {ie : Option Nat} : (zcheck f bs off ie).1 = (zck f (bs.drop off) ie).1 ∧ bs.drop (zcheck f bs off ie).2.1 = (zck f (bs.drop off) ie).2.1 ∧ (zcheck f bs off ie).2.2 = (zck f (bs.drop off) ie).2.2 := by
  unfold zcheck zck
  by_cases h1 : ie = none
  · rw [if_pos h1, if_pos h1]; exact ⟨rfl, List.drop_length .., rfl⟩
  · rw [if_neg h1, if_neg h1]; exact ⟨rfl, rfl, rfl⟩

/-- A step of a script, fit to be played. -/
structure OpZ (B : Nat) (w : World) (o : OpD) : Prop where
  data : BRow w o.da o.bs
  cap : o.bs.length ≤ o.dc
  cap2 : o.dc ≤ 9223372036854775807
  bl : o.bs.length ≤ 65536
  lo : o.bs ≠ [] → ∀ b o', o.da = some ⟨b, o', none⟩ → b < B
  hk : o.kind < 256
  hb : o.b < 256
  hn : -9223372036854775808 ≤ o.n ∧ o.n ≤ 9223372036854775807
  hv : o.v < 18446744073709551616
  hw : -9223372036854775808 ≤ o.width ∧ o.width ≤ 9223372036854775807
structure InZ (B : Nat) (w : World) (e : Nat → Addr) (l : Rl) (s : ZSt) (o : OpD) : Prop where
  E : EB B w e
  zr : ZR B w e l s
  op : OpZ B w o
  fm : s.F.length ≤ 2305843009213693952
abbrev opV (o : OpD) : Value := .agg #[.int .u8 (o.kind : Int), .slice o.da o.bs.length o.dc, .int .u8 (o.b : Int), .int .i64 o.n, .int .u64 (o.v : Int), .int .i64 o.width]
abbrev opB (o : OpD) : Obj := .cells #[.int .u8 (o.kind : Int), .slice o.da o.bs.length o.dc, .int .u8 (o.b : Int), .int .i64 o.n, .int .u64 (o.v : Int), .int .i64 o.width] 32
/-- Behind the beginning of a step. -/
structure Pro (B : Nat) (w W : World) (e : Nat → Addr) (l : Rl) (s : ZSt) (o : OpD) : Prop where
  bel : Below w.heap.size w W
  sz : W.heap.size = w.heap.size + 2
  box : W.heap[w.heap.size]? = some (.cells #[.int .u8 (o.kind : Int), .slice o.da o.bs.length o.dc, .int .u8 (o.b : Int), .int .i64 o.n, .int .u64 (o.v : Int), .int .i64 o.width] 32 (0, 0))
  res : Res W (w.heap.size + 1)
  zr : ZR B W e l s
  E : EB B W e
  Bw : B ≤ w.heap.size
theorem pro {B : Nat} {w W : World} {e : Nat → Addr} {l : Rl} {s : ZSt} {o : OpD} (h : InZ B w e l s o) (hW : (w.alloc (opB o)).alloc ans0 = W) : Pro B w W e l s o := by
  have hb : Below w.heap.size w W := by rw [← hW]; exact ((Below.refl _ _).alloc (Nat.le_refl _) _).alloc (by simp) _
  have hB : B ≤ w.heap.size := Nat.le_trans h.zr.hB.1 (Nat.le_of_lt h.zr.fl.lt)
  refine ⟨hb, by rw [← hW]; simp, ?_, ?_, h.zr.below hb, h.E.below (hb.mono hB), hB⟩
  · rw [← hW, Below.heap_alloc _ _ _ (by simp)]; exact heap_alloc_new w _
  · have hx := heap_alloc_new (w.alloc (opB o)) ans0
    rw [hW] at hx
    have e1 : (w.alloc (opB o)).heap.size = w.heap.size + 1 := by simp
    rw [e1] at hx
    exact hx
theorem Pro.cell {B : Nat} {w W : World} {e : Nat → Addr} {l : Rl} {s : ZSt} {o : OpD} (h : Pro B w W e l s o) (i : Nat) : W.cell? ⟨w.heap.size, i, none⟩ = (#[Value.int .u8 (o.kind : Int), .slice o.da o.bs.length o.dc, .int .u8 (o.b : Int), .int .i64 o.n, .int .u64 (o.v : Int), .int .i64 o.width])[i]? := by simp [World.cell?, h.box]

/-- What a step of the real machines gives. -/
def StR (B : Nat) (w : World) (e : Nat → Addr) (l : Rl) (s : ZSt) (o : OpD) (r : Ending) (w' : World) : Prop :=
  ∃ l' a c, r = .returned (ansV (zstep s o).2.cr (zstep s o).2.fl (zstep s o).2.ln (zstep s o).2.v a (zstep s o).2.dat.length c (zstep s o).2.er) ∧ RSt B w w' e l l' (zstep s o).1 ∧ BRow w' a (zstep s o).2.dat ∧ ((zstep s o).2.dat ≠ [] → ∀ b o', a = some ⟨b, o', none⟩ → l'.v.ownBlock = some b ∨ RB l' b)

section
variable {B : Nat} {w W V : World} {e : Nat → Addr} {l l' : Rl} {s s' : ZSt} {o : OpD}
theorem RSt.eb (h : RSt B W V e l l' s') (hZ : ZR B W e l s) (E : EB B W e) : EB B V e :=
  E.below (h.chg.below (Below.refl B W) (Nat.le_trans hZ.hB.1 (Nat.le_of_lt hZ.fl.lt)) (fun b hb => (hZ.rlt b hb).2))
/-- The answer's box, still there. -/
theorem RSt.res (h : RSt B W V e l l' s') (hP : Pro B w W e l s o) (h0 : ZR B w e l s) : Res V (w.heap.size + 1) :=
  hP.res.keep (h.chg.block _ (by have := hP.sz; omega) (fun hx => by have := (h0.rlt _ hx).1; omega))
/-- The end of a step. -/
theorem RSt.fin (h : RSt B W V e l l' s') (hP : Pro B w W e l s o) (h0 : ZR B w e l s) (p q r t u x : Value) : RSt B w (ansW V (w.heap.size + 1) p q r t u x) e l l' s' ∧ (∀ b, RW l' b ∨ RB l' b → b ≠ w.heap.size + 1) := by
  have hsz := hP.sz
  have hlt := h0.rlt
  have hA := ansW_only V (w.heap.size + 1) p q r t u x
  have hBw := hP.Bw
  have n1 : ∀ b, RW l' b ∨ RB l' b → b ≠ w.heap.size + 1 := fun b hb => by
    rcases hb with hb | hb
    · rcases h.new b hb with h1 | h1
      · have := (hlt b h1).1; omega
      · omega
    · rcases h.rdn b hb with h1 | h1 | h1
      · omega
      · have := h0.blt b h1; omega
      · omega
  have h1 : RSt B w V e l l' s' := (RSt.start h0 hP.bel).trans h
  refine ⟨⟨h.zr.keep (fun b hb => hA.block b ?_) (Nat.le_of_eq hA.size.symm), h1.chg.then (Only.chg (P := fun b => b = w.heap.size + 1) hA rfl) (fun i hi => .inr (by omega)), h1.new, h1.tb, h1.d, h1.rdn⟩, n1⟩
  rcases hb with hb | hb | hb
  · exact n1 b (.inl hb)
  · rw [hb, h.tb]; have := h0.tab.lt; omega
  · exact n1 b (.inr hb)
/-- The end of a step that shows no bytes. -/
theorem StR.mk0 {cr fl ln v er : Nat} (h : RSt B W V e l l' s') (hP : Pro B w W e l s o) (h0 : ZR B w e l s) (hz : zstep s o = (s', ⟨cr, fl, ln, v, [], er⟩)) : StR B w e l s o (.returned (ansV cr fl ln v none 0 0 er)) (ansW V (w.heap.size + 1) (.int .u32 (cr : Int)) (.int .u32 (fl : Int)) (.int .u64 (ln : Int)) (.int .u64 (v : Int)) (.slice none 0 0) (.int .u8 (er : Int))) := by
  unfold StR
  rw [hz]
  exact ⟨l', none, 0, rfl, (h.fin hP h0 _ _ _ _ _ _).1, BRow.nil _ _, fun hx => absurd rfl hx⟩
/-- The end of a step that shows bytes. -/
theorem StR.mk1 {cr fl ln v er c : Nat} {dat : List Nat} {a : Option Addr} (h : RSt B W V e l l' s') (hP : Pro B w W e l s o) (h0 : ZR B w e l s) (hz : zstep s o = (s', ⟨cr, fl, ln, v, dat, er⟩)) (hr : BRow V a dat) (ha : dat ≠ [] → ∀ b o', a = some ⟨b, o', none⟩ → l'.v.ownBlock = some b ∨ RB l' b) : StR B w e l s o (.returned (ansV cr fl ln v a dat.length c er)) (ansW V (w.heap.size + 1) (.int .u32 (cr : Int)) (.int .u32 (fl : Int)) (.int .u64 (ln : Int)) (.int .u64 (v : Int)) (.slice a dat.length c) (.int .u8 (er : Int))) := by
  unfold StR
  rw [hz]
  have hf := h.fin hP h0 (.int .u32 (cr : Int)) (.int .u32 (fl : Int)) (.int .u64 (ln : Int)) (.int .u64 (v : Int)) (.slice a dat.length c) (.int .u8 (er : Int))
  refine ⟨l', a, c, rfl, hf.1, brow_keep hr (fun hne b o' he => (ansW_only _ _ _ _ _ _ _ _).block b ?_), ha⟩
  rcases ha hne b o' he with h1 | h1
  · exact hf.2 b (.inl (.inr (.inr (.inr (.inr h1)))))
  · exact hf.2 b (.inr h1)
end
end Go.Proofs.Qxb6500698aGreatDoor
