/-
  THE BENCH's STEP: KEncode, KEncodeMore with an answer: the tray exchanged, the tray grown.
-/
import Derived.Test.Qxb6500697aDoorMRP
import Derived.Test.Qxb6500697aDoorMR1
namespace Go.Proofs.Qxb6500697aDoor
open Go.RowKit

set_option maxRecDepth 100000 in
/-- append of a tray's shards to a tray. -/
theorem step_append_tray {W : World} {d : Option Tmp} {ty : TypeId} {ps : String} {af : Array Edge} {s y : Operand} {ops : Array Oper} {a : Act} {K : Act → World → Prop} {Q : Exit → Act → World → Prop} {E : Prop}
    {B C : Nat} {v u : Value} {ss ys : List Sd} (hT : Tray B W v ss) (hY : Tray C W u ys) (hBC : B ≤ C) (hCW : C ≤ W.heap.size) (hC : ∀ b, tblk v ss b → b < C) (hlen : ss.length + ys.length ≤ 65536) (hy0 : 0 < ys.length)
    (hs : a.eval s = v) (hx : a.eval y = u)
    (h : ∀ v' w', Tray B w' v' (ss ++ ys) → W.grownBy w' v.ownBlock → (v'.ownBlock = v.ownBlock ∨ v'.ownBlock = some W.heap.size) → K (a.put d v') w') :
    if Region.wanted { dst := d, op := .call { callee := .builtin .append, args := #[s, y], argTypes := #[36, 36] }, type := ty, pos := ps, after := af, guard := none } (yielded ops a.tmps) = true then Oper.wp Tryd.prog { dst := d, op := .call { callee := .builtin .append, args := #[s, y], argTypes := #[36, 36] }, type := ty, pos := ps, after := af, guard := none } a W K Q else E := by
  have hw : Region.wanted { dst := d, op := .call { callee := .builtin .append, args := #[s, y], argTypes := #[36, 36] }, type := ty, pos := ps, after := af, guard := none } (yielded ops a.tmps) = true := by simp [Region.wanted]
  rw [if_pos hw]
  obtain ⟨ao, c, hu, hSr⟩ := hY.row
  obtain ⟨g, hg, _⟩ := hSr.row hy0
  subst hg
  rw [hu] at hx
  obtain ⟨i0, hi, hzz⟩ := Option.map_eq_some_iff.1 Tryd.info60
  simp only [Prod.mk.injEq] at hzz
  obtain ⟨hz0, hz1, hz2⟩ := hzz
  obtain ⟨v', w', hrun, h2, h3, _, h5⟩ := run_append_own_at (P := Tryd.prog) W B 36 ty 60 i0 _ 4 48 Tryd.underlying36 hi hz0 hz1 hz2 rfl (by decide) v ss.length _ hT.hdr ⟨g, 0, none⟩ ys.length c (ys.flatMap Sd.cells) (flat4_len ys)
    (by
      intro j y' hj
      have e : (⟨g, 0, none⟩ : Addr).add j = ⟨g, 0 + j, none⟩ := by unfold Addr.add; split <;> simp_all
      rw [e, Nat.zero_add]
      exact hSr.flat j y' hj) sdcells_one (by unfold maxLen; omega) (by omega) (Nat.le_trans hBC hCW)
  unfold Oper.wp
  simp [execOp, resolve, invoke, builtin, hs, hx, hrun, Result.andThen]
  exact h v' w' (hT.join hY hBC hC h2 h3 h5) h3 h5

theorem one_cell {w : World} {bb : Nat} {p q v : Value} {t : TypeId} (h : w.heap[bb]? = some (.cells #[p, q] t (0, 0))) : (w.setCell ⟨bb, 1, none⟩ v).heap[bb]? = some (.cells #[p, v] t (0, 0)) := by
  simp [World.setCell, Array.getElem?_modify, h]
section
variable {B : Nat} {w1 w2 w3 : World} {bb sb cb mb k m k2 m2 : Nat} {v1 v2 u v' : Value} {ss ts ys : List Sd} {pm : Nat} {Z : Nat → Prop}
/-- The tray exchanged for a new one. -/
theorem RS.swap (h : RS B w1 bb sb cb mb k m k2 m2 v1 ss v2 ts pm Z) (hb : Below w1.heap.size w1 w2) (hY : Tray w1.heap.size w2 u ys) (hl : ys.length ≤ 64) (hp : ∀ s ∈ ys, s.pl ≤ pm) : RS B (w2.setCell ⟨bb, 1, none⟩ u) bb sb cb mb k m k2 m2 u ys v2 ts pm Z := by
  have hbl := heap_lt h.hb
  have hB1 : B ≤ w1.heap.size := Nat.le_trans h.ge.1 (Nat.le_of_lt hbl)
  have hO : Only bb w2 (w2.setCell ⟨bb, 1, none⟩ u) := (Only.refl _ _).setCell _ _
  refine h.tray1 (by rw [hO.size]; exact hb.size) (one_cell ((hb.block bb hbl).trans h.hb)) (fun b hb' hne _ => (hO.block b hne).trans (hb.block b hb')) ((hY.base hB1).keep (fun b hx => hO.block b (fun e => ?_))) (fun b hx => .inr (hY.lt hx).1) hl hp (Nat.le_refl _)
  have := (hY.lt hx).1
  omega
/-- The tray grown by a new one's shards. -/
theorem RS.grow (h : RS B w1 bb sb cb mb k m k2 m2 v1 ss v2 ts pm Z) (hb : Below w1.heap.size w1 w2) (hY : Tray w1.heap.size w2 u ys) (hT : Tray B w3 v' (ss ++ ys)) (hG : w2.grownBy w3 v1.ownBlock) (h5 : v'.ownBlock = v1.ownBlock ∨ v'.ownBlock = some w2.heap.size) (hl : ss.length + ys.length ≤ 64) (hp : ∀ s ∈ ys, s.pl ≤ pm) : RS B (w3.setCell ⟨bb, 1, none⟩ v') bb sb cb mb k m k2 m2 v' (ss ++ ys) v2 ts pm Z := by
  have hbl := heap_lt h.hb
  have hO : Only bb w3 (w3.setCell ⟨bb, 1, none⟩ v') := (Only.refl _ _).setCell _ _
  have hn : ∀ b, tblk v' (ss ++ ys) b → tblk v1 ss b ∨ w1.heap.size ≤ b := fun b hx => by
    rcases hx with hx | ⟨s, hs, hx⟩
    · rcases h5 with h5 | h5
      · exact .inl (.inl (by rw [← h5]; exact hx))
      · rw [h5] at hx
        have e : w2.heap.size = b := by simpa using hx
        exact .inr (by have := hb.size; omega)
    · rcases List.mem_append.1 hs with hs | hs
      · exact .inl (.inr ⟨s, hs, hx⟩)
      · exact .inr (hY.lt (.inr ⟨s, hs, hx⟩)).1
  have hnb : ¬ tblk v' (ss ++ ys) bb := fun hx => by
    rcases hn bb hx with h6 | h6
    · exact h.nb1.1 h6
    · omega
  have hg : ∀ b, b < w1.heap.size → ¬ tblk v1 ss b → w3.heap[b]? = w1.heap[b]? := fun b hlt hnt => (hG.block b (Nat.lt_of_lt_of_le hlt hb.size) (fun e => hnt (.inl e.symm))).trans (hb.block b hlt)
  refine h.tray1 (by rw [hO.size]; exact Nat.le_trans hb.size hG.size) (one_cell ((hg bb hbl h.nb1.1).trans h.hb)) (fun b hb' hne hnt => (hO.block b hne).trans (hg b hb' hnt)) (hT.keep (fun b hx => hO.block b (fun e => hnb (by rw [← e]; exact hx)))) hn (by rw [List.length_append]; exact hl) (fun s hs => ?_) (Nat.le_refl _)
  rcases List.mem_append.1 hs with hs | hs
  · exact h.p1 s hs
  · exact hp s hs
end
end Go.Proofs.Qxb6500697aDoor
