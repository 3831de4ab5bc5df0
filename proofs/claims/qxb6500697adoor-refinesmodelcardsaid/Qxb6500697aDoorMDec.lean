/-
  THE MODEL's Decode.
-/
import Derived.Test.Qxb6500697aDoorMEnc
import Derived.Test.Qxb6500697aDoorMFault
import Derived.Test.Qxb6500697aDoorMDecP
import Derived.Test.Qxb6500697aDoorKSame
namespace Go.Proofs.Qxb6500697aDoor
open Go.RowKit

/-- The weights and two rows of headers, made in whatever order. -/
structure Reg5 (w5 wx : World) (HW H1 H2 N k g : Nat) : Prop where
  mat : MatAt wx HW N k (fun r => HW + 1 + r) (genr g k)
  r1 : wx.rowIs H1 30 k (fun _ => .slice none 0 0)
  r2 : wx.rowIs H2 30 k (fun _ => .slice none 0 0)
  ne : H1 ≠ H2
  off1 : H1 ≠ HW ∧ ∀ r, r < N → HW + 1 + r ≠ H1
  off2 : H2 ≠ HW ∧ ∀ r, r < N → HW + 1 + r ≠ H2
  ge : w5.heap.size ≤ HW ∧ w5.heap.size ≤ H1 ∧ w5.heap.size ≤ H2
  bel : Below w5.heap.size w5 wx
theorem Reg5.symm {w5 wx : World} {HW H1 H2 N k g : Nat} (h : Reg5 w5 wx HW H1 H2 N k g) : Reg5 w5 wx HW H2 H1 N k g := ⟨h.mat, h.r2, h.r1, h.ne.symm, h.off2, h.off1, ⟨h.ge.1, h.ge.2.2, h.ge.2.1⟩, h.bel⟩

abbrev hdrs (k : Nat) : Obj := .cells (madeCells #[.slice none 0 0] k) 30
theorem made_hdrs (w : World) (k : Nat) : (w.alloc (hdrs k)).rowIs w.heap.size 30 k (fun _ => .slice none 0 0) := World.rowIs_made w (.slice none 0 0) k 30
theorem alloc_below (w : World) (o : Obj) : Below w.heap.size w (w.alloc o) := (Below.refl _ _).alloc (Nat.le_refl _) _
theorem alloc_size (w : World) (o : Obj) : (w.alloc o).heap.size = w.heap.size + 1 := by simp

section
variable {w5 V0 V w6 : World} {HW H1 H2 N k g : Nat}
theorem reg5_a (h0 : Below w5.heap.size w5 V0) (hM : MatAt w6 HW N k (fun r => HW + 1 + r) (genr g k)) (hb : Below V0.heap.size V0 w6) (hW : HW = V0.heap.size) (e1 : H1 = w6.heap.size) (e2 : H2 = w6.heap.size + 1) : Reg5 w5 ((w6.alloc (hdrs k)).alloc (hdrs k)) HW H1 H2 N k g := by
  have b1 := alloc_below w6 (hdrs k)
  have b2 := alloc_below (w6.alloc (hdrs k)) (hdrs k)
  have s1 := alloc_size w6 (hdrs k)
  have l1 := h0.size
  have l2 := hb.size
  have r1 := made_hdrs w6 k
  have r2 := made_hdrs (w6.alloc (hdrs k)) k
  rw [s1] at r2
  subst e1 e2
  have hl := hM.lt
  refine ⟨(hM.below b1).below b2, r1.of_block (b2.block _ r1.lt), r2, by omega, ⟨by omega, fun r hr => ?_⟩, ⟨by omega, fun r hr => ?_⟩, by omega, ((h0.trans (hb.mono l1)).trans (b1.mono (by omega))).trans (b2.mono (by omega))⟩
  · have := (hM.row r hr).lt; omega
  · have := (hM.row r hr).lt; omega
theorem reg5_b (h0 : Below w5.heap.size w5 V0) (hV : Below (V0.alloc (hdrs k)).heap.size (V0.alloc (hdrs k)) V) (hVs : V.heap.size = V0.heap.size + 1) (hM : MatAt w6 HW N k (fun r => HW + 1 + r) (genr g k)) (hb : Below V.heap.size V w6) (hW : HW = V.heap.size) (e1 : H1 = V0.heap.size) (e2 : H2 = w6.heap.size) : Reg5 w5 (w6.alloc (hdrs k)) HW H1 H2 N k g := by
  have b1 := alloc_below V0 (hdrs k)
  have b2 := alloc_below w6 (hdrs k)
  have s1 := alloc_size V0 (hdrs k)
  have l1 := h0.size
  have l2 := hb.size
  have l3 := hV.size
  have r1 := made_hdrs V0 k
  have r2 := made_hdrs w6 k
  subst e1 e2
  have r1' := (r1.of_block (hV.block _ r1.lt))
  have r1'' := r1'.of_block (hb.block _ r1'.lt)
  refine ⟨hM.below b2, r1''.of_block (b2.block _ r1''.lt), r2, by omega, ⟨by omega, fun r hr => by omega⟩, ⟨?_, fun r hr => ?_⟩, by omega, (((h0.trans (b1.mono l1)).trans (hV.mono (by omega))).trans (hb.mono (by omega))).trans (b2.mono (by omega))⟩
  · have := hM.lt; omega
  · have := (hM.row r hr).lt; omega
theorem reg5_c (h0 : Below w5.heap.size w5 V0) (hV : Below ((V0.alloc (hdrs k)).alloc (hdrs k)).heap.size ((V0.alloc (hdrs k)).alloc (hdrs k)) V) (hVs : V.heap.size = V0.heap.size + 2) (hM : MatAt w6 HW N k (fun r => HW + 1 + r) (genr g k)) (hb : Below V.heap.size V w6) (hW : HW = V.heap.size) (e1 : H1 = V0.heap.size) (e2 : H2 = V0.heap.size + 1) : Reg5 w5 w6 HW H1 H2 N k g := by
  have b1 := alloc_below V0 (hdrs k)
  have b2 := alloc_below (V0.alloc (hdrs k)) (hdrs k)
  have s1 := alloc_size V0 (hdrs k)
  have s2 := alloc_size (V0.alloc (hdrs k)) (hdrs k)
  have l1 := h0.size
  have l2 := hb.size
  have l3 := hV.size
  have r1 := made_hdrs V0 k
  have r2 := made_hdrs (V0.alloc (hdrs k)) k
  rw [s1] at r2
  subst e1 e2
  have r1a := r1.of_block (b2.block _ r1.lt)
  have r1' := (r1a.of_block (hV.block _ r1a.lt))
  have r2' := (r2.of_block (hV.block _ r2.lt))
  refine ⟨hM, r1'.of_block (hb.block _ r1'.lt), r2'.of_block (hb.block _ r2'.lt), by omega, ⟨by omega, fun r hr => by omega⟩, ⟨by omega, fun r hr => by omega⟩, by omega, (((h0.trans (b1.mono l1)).trans (b2.mono (by omega))).trans (hV.mono (by omega))).trans (hb.mono (by omega))⟩
end

/-- The loop that picks the rows: r of them picked. -/
structure PickR (w5 wr : World) (HW H1 H2 N k g r : Nat) (ss : List Sd) : Prop where
  mat : MatAt wr HW N k (fun r => HW + 1 + r) (genr g k)
  r1 : wr.rowIs H1 30 k (fun t => if t < r then .slice (some ⟨HW + 1 + (ss.getD t Sd.zero).ix.toNat, 0, none⟩) k k else .slice none 0 0)
  r2 : wr.rowIs H2 30 k (fun t => if t < r then (ss.getD t Sd.zero).pv else .slice none 0 0)
  ne : H1 ≠ H2
  off1 : H1 ≠ HW ∧ ∀ r, r < N → HW + 1 + r ≠ H1
  off2 : H2 ≠ HW ∧ ∀ r, r < N → HW + 1 + r ≠ H2
  ge : w5.heap.size ≤ HW ∧ w5.heap.size ≤ H1 ∧ w5.heap.size ≤ H2
  bel : Below w5.heap.size w5 wr
theorem Reg5.pick {w5 wx : World} {HW H1 H2 N k g : Nat} (h : Reg5 w5 wx HW H1 H2 N k g) (ss : List Sd) : PickR w5 wx HW H1 H2 N k g 0 ss :=
  ⟨h.mat, h.r1.congr (fun t _ => by simp), h.r2.congr (fun t _ => by simp), h.ne, h.off1, h.off2, h.ge, h.bel⟩
theorem PickR.step {w5 wr : World} {HW H1 H2 N k g r : Nat} {ss : List Sd} (h : PickR w5 wr HW H1 H2 N k g r ss) :
    PickR w5 ((wr.setCell ⟨H1, r, none⟩ (.slice (some ⟨HW + 1 + (ss.getD r Sd.zero).ix.toNat, 0, none⟩) k k)).setCell ⟨H2, r, none⟩ (ss.getD r Sd.zero).pv) HW H1 H2 N k g (r + 1) ss := by
  have hO1 : Only H1 wr (wr.setCell ⟨H1, r, none⟩ (.slice (some ⟨HW + 1 + (ss.getD r Sd.zero).ix.toNat, 0, none⟩) k k)) := (Only.refl _ _).setCell _ _
  have hO2 : Only H2 (wr.setCell ⟨H1, r, none⟩ (.slice (some ⟨HW + 1 + (ss.getD r Sd.zero).ix.toNat, 0, none⟩) k k)) ((wr.setCell ⟨H1, r, none⟩ (.slice (some ⟨HW + 1 + (ss.getD r Sd.zero).ix.toNat, 0, none⟩) k k)).setCell ⟨H2, r, none⟩ (ss.getD r Sd.zero).pv) := (Only.refl _ _).setCell _ _
  refine ⟨(h.mat.only hO1 h.off1.1.symm h.off1.2).only hO2 h.off2.1.symm h.off2.2, ?_, ?_, h.ne, h.off1, h.off2, h.ge, (h.bel.trans (hO1.below h.ge.2.1)).trans (hO2.below h.ge.2.2)⟩
  · refine ((h.r1.set r _).of_block (hO2.block _ h.ne)).congr (fun t _ => ?_)
    by_cases e : t = r
    · subst e; simp
    · rw [if_neg e]
      by_cases e2 : t < r
      · rw [if_pos e2, if_pos (by omega)]
      · rw [if_neg e2, if_neg (by omega)]
  · refine ((h.r2.of_block (hO1.block _ h.ne.symm)).set r _).congr (fun t _ => ?_)
    by_cases e : t = r
    · subst e; simp
    · rw [if_neg e]
      by_cases e2 : t < r
      · rw [if_pos e2, if_pos (by omega)]
      · rw [if_neg e2, if_neg (by omega)]

theorem ix_lt {k N : Nat} {ss : List Sd} (hG : Good k N ss) {t : Nat} (ht : t < k) : (ss.getD t Sd.zero).ix.toNat < N := by
  have hlen := hG.len
  have hm : ss.getD t Sd.zero ∈ ss := getD_mem (by omega)
  have := (hG.fit _ hm).ix
  omega
theorem ix_inj {k N : Nat} {ss : List Sd} (hG : Good k N ss) {s t : Nat} (hs : s < k) (ht : t < k) (e : (ss.getD s Sd.zero).ix.toNat = (ss.getD t Sd.zero).ix.toNat) : s = t := by
  have hlen := hG.len
  have e1 : (ss.map fun x => x.ix.toNat)[s]'(by simp; omega) = (ss.map fun x => x.ix.toNat)[t]'(by simp; omega) := by
    rw [List.getElem_map, List.getElem_map, ← getD_lt (d := Sd.zero), ← getD_lt (d := Sd.zero)]
    exact e
  exact (List.getElem_inj hG.nodup).1 e1

/-- The rows picked, as two matrices that are read. -/
theorem PickR.mats {w5 wr : World} {HW H1 H2 N k g : Nat} {ss : List Sd} {ao : Option Addr} (h : PickR w5 wr HW H1 H2 N k g k ss) (hk : k ≤ 16) (hG : Good k N ss) (hS : SdRow wr ao ss) :
    RMat wr (some ⟨H1, 0, none⟩) k k (fun t => genr g k (ss.getD t Sd.zero).ix.toNat) ∧ RMat wr (some ⟨H2, 0, none⟩) k (psize (g0of ss) k (ol0of ss).toNat) (fun t => (ss.getD t Sd.zero).P) := by
  have hlen := hG.len
  refine ⟨fun _ => ⟨H1, 0, rfl, fun t ht => ?_⟩, fun _ => ⟨H2, 0, rfl, fun t ht => ?_⟩⟩
  · have c := h.r1.cell ht
    rw [if_pos ht] at c
    exact ⟨_, k, by rw [Nat.zero_add]; exact c, Nat.le_refl _, by omega, (h.mat.row _ (ix_lt hG ht)).frow⟩
  · have c := h.r2.cell ht
    rw [if_pos ht] at c
    have hm : ss.getD t Sd.zero ∈ ss := getD_mem (by omega)
    have hok := hS.ok _ hm
    have hsh := (hG.shape _ hm).2
    unfold Sd.pv at c
    refine ⟨_, _, by rw [Nat.zero_add, ← hsh]; exact c, by rw [← hsh]; exact hok.cap, hok.cap2, by rw [← hsh]; exact hok.pay⟩
end Go.Proofs.Qxb6500697aDoor
