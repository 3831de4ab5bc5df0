/-
  THE WALK OF Invert (Gauss and Jordan, on a copy beside the unit matrix).
-/
import Derived.Test.Qxb6500697aDoorKCopy
import Derived.Deep.RegionHeld3
import Derived.Deep.RegionWith
namespace Go.Proofs.Qxb6500697aDoor
open Go.RowKit

theorem gacc_zero (b i : Nat) : gacc 0 b i = 0 := by
  induction i with
  | zero => rfl
  | succ i ih => unfold gacc; split <;> simp [ih]
theorem gmul_zero (b : Nat) : gmul 0 b = 0 := by
  unfold gmul
  rw [gacc_zero]
  decide

def swapAt {α : Type} (A : Nat → α) (p q : Nat) : Nat → α := fun r => if r = q then A p else if r = p then A q else A r

/-- The first place from p on, f long, at which v is not 0. -/
def pivN (v : Nat → Nat) (n : Nat) : Nat → Nat → Nat
  | p, 0 => p
  | p, f + 1 => if p < n ∧ v p = 0 then pivN v n (p + 1) f else p

/-- Row col scaled, its first k places. -/
def scal (M : Nat → Nat → Nat) (col sc k : Nat) : Nat → Nat → Nat := fun r c => if r = col ∧ c < k then gmul (M r c) sc else M r c
/-- Rows below k cleared in column col: L gives the factors. -/
def elim (L M : Nat → Nat → Nat) (col k : Nat) : Nat → Nat → Nat := fun r c => if r < k ∧ r ≠ col then M r c ^^^ gmul (L r col) (M col c) else M r c

/-- One column. -/
def gjStep (n col : Nat) (s : (Nat → Nat → Nat) × (Nat → Nat → Nat)) : Option ((Nat → Nat → Nat) × (Nat → Nat → Nat)) :=
  let p := pivN (fun r => s.1 r col) n col (n - col)
  if p = n then none
  else
    let L1 := swapAt s.1 col p
    let sc := ginv (L1 col col)
    let L2 := scal L1 col sc n
    some (elim L2 L2 col n, elim L2 (scal (swapAt s.2 col p) col sc n) col n)

def gjS (n : Nat) (A : Nat → Nat → Nat) : Nat → Option ((Nat → Nat → Nat) × (Nat → Nat → Nat))
  | 0 => some (A, gone)
  | col + 1 => (gjS n A col).bind (gjStep n col)

/-- The two matrices at work, behind all that was there. -/
structure Two (w0 w : World) (n : Nat) (gL gR : Nat → Nat) (L R : Nat → Nat → Nat) : Prop where
  mL : MatAt w w0.heap.size n n gL L
  mR : MatAt w (w0.heap.size + 1 + n) n n gR R
  rL : ∀ r, r < n → w0.heap.size < gL r ∧ gL r < w0.heap.size + 1 + n
  rR : ∀ r, r < n → w0.heap.size + 1 + n < gR r
  bel : Below w0.heap.size w0 w

section
variable {w0 w w' : World} {n : Nat} {gL gR : Nat → Nat} {L R : Nat → Nat → Nat}
theorem Two.setL {r : Nat} {f : Nat → Nat} (h : Two w0 w n gL gR L R) (hr : r < n) (ho : Only (gL r) w w') (hrow : Row w' (gL r) n f) : Two w0 w' n gL gR (fun i => if i = r then f else L i) R := by
  have h1 := h.rL r hr
  refine ⟨h.mL.rowSet hr ho hrow, h.mR.only ho (by omega) (fun i hi => by have := h.rR i hi; omega), h.rL, h.rR, h.bel.trans (ho.below (by omega))⟩
theorem Two.setR {r : Nat} {f : Nat → Nat} (h : Two w0 w n gL gR L R) (hr : r < n) (ho : Only (gR r) w w') (hrow : Row w' (gR r) n f) : Two w0 w' n gL gR L (fun i => if i = r then f else R i) := by
  have h1 := h.rR r hr
  refine ⟨h.mL.only ho (by omega) (fun i hi => by have := h.rL i hi; omega), h.mR.rowSet hr ho hrow, h.rL, h.rR, h.bel.trans (ho.below (by omega))⟩
theorem Two.congr {L' R' : Nat → Nat → Nat} (h : Two w0 w n gL gR L R) (e1 : ∀ r, r < n → ∀ c, c < n → L r c = L' r c) (e2 : ∀ r, r < n → ∀ c, c < n → R r c = R' r c) : Two w0 w n gL gR L' R' :=
  ⟨h.mL.congr e1, h.mR.congr e2, h.rL, h.rR, h.bel⟩
theorem Two.drewN (h : Two w0 w n gL gR L R) (m : Nat) : Two w0 (w.drewN m) n gL gR L R :=
  ⟨h.mL.below (drewN_below _ _ _), h.mR.below (drewN_below _ _ _), h.rL, h.rR, h.bel.trans (drewN_below _ _ _)⟩
theorem Two.drew (h : Two w0 w n gL gR L R) : Two w0 w.drew n gL gR L R := h.drewN 1

theorem mat_swap {H m : Nat} {gs : Nat → Nat} {A : Nat → Nat → Nat} (h : MatAt w H n m gs A) {p q : Nat} (hp : p < n) (hq : q < n) :
    MatAt ((w.setCell ⟨H, p, none⟩ (.slice (some ⟨gs q, 0, none⟩) m m)).setCell ⟨H, q, none⟩ (.slice (some ⟨gs p, 0, none⟩) m m)) H n m (swapAt gs p q) (swapAt A p q) := by
  have hO : Only H w ((w.setCell ⟨H, p, none⟩ (.slice (some ⟨gs q, 0, none⟩) m m)).setCell ⟨H, q, none⟩ (.slice (some ⟨gs p, 0, none⟩) m m)) := ((Only.refl H w).setCell _ _).setCell _ _
  refine ⟨((h.hdr.set p (.slice (some ⟨gs q, 0, none⟩) m m)).set q (.slice (some ⟨gs p, 0, none⟩) m m)).congr fun r _ => ?_, fun r hr => ?_, fun r r' hr hr' he => ?_, fun r hr => ?_⟩
  · unfold swapAt
    by_cases e1 : r = q
    · simp [e1]
    · by_cases e2 : r = p
      · subst e2; simp [e1]
      · simp [e1, e2]
  · unfold swapAt
    by_cases e1 : r = q
    · subst e1; simp only [if_true]; exact (h.row p hp).only hO (h.off p hp)
    · by_cases e2 : r = p
      · subst e2; simp only [if_neg e1, if_true]; exact (h.row q hq).only hO (h.off q hq)
      · simp only [if_neg e1, if_neg e2]; exact (h.row r hr).only hO (h.off r hr)
  · unfold swapAt at he
    by_cases e1 : r = q <;> by_cases e2 : r' = q <;> by_cases e3 : r = p <;> by_cases e4 : r' = p <;> simp only [e1, e2, e3, e4, if_true, if_false] at he <;>
      first
        | omega
        | (have := h.inj _ _ (by omega) (by omega) he; omega)
        | (split at he <;> have := h.inj _ _ (by omega) (by omega) he <;> omega)
        | (split at he <;> split at he <;> have := h.inj _ _ (by omega) (by omega) he <;> omega)
  · unfold swapAt
    by_cases e1 : r = q
    · simp only [if_pos e1]; exact h.off p hp
    · by_cases e2 : r = p
      · simp only [if_neg e1, if_pos e2]; exact h.off q hq
      · simp only [if_neg e1, if_neg e2]; exact h.off r hr

theorem swap_range {gs : Nat → Nat} {P : Nat → Prop} (h : ∀ r, r < n → P (gs r)) {p q : Nat} (hp : p < n) (hq : q < n) : ∀ r, r < n → P (swapAt gs p q r) := by
  intro r hr
  unfold swapAt
  by_cases e1 : r = q
  · rw [if_pos e1]; exact h p hp
  · rw [if_neg e1]
    by_cases e2 : r = p
    · rw [if_pos e2]; exact h q hq
    · rw [if_neg e2]; exact h r hr

theorem Two.swapL {p q : Nat} (h : Two w0 w n gL gR L R) (hp : p < n) (hq : q < n) :
    Two w0 ((w.setCell ⟨w0.heap.size, p, none⟩ (.slice (some ⟨gL q, 0, none⟩) n n)).setCell ⟨w0.heap.size, q, none⟩ (.slice (some ⟨gL p, 0, none⟩) n n)) n (swapAt gL p q) gR (swapAt L p q) R := by
  have hO : Only w0.heap.size w ((w.setCell ⟨w0.heap.size, p, none⟩ (.slice (some ⟨gL q, 0, none⟩) n n)).setCell ⟨w0.heap.size, q, none⟩ (.slice (some ⟨gL p, 0, none⟩) n n)) := ((Only.refl _ w).setCell _ _).setCell _ _
  exact ⟨mat_swap h.mL hp hq, h.mR.only hO (by omega) (fun i hi => by have := h.rR i hi; omega), swap_range (P := fun x => w0.heap.size < x ∧ x < w0.heap.size + 1 + n) h.rL hp hq, h.rR, h.bel.trans (hO.below (Nat.le_refl _))⟩
theorem Two.swapR {p q : Nat} (h : Two w0 w n gL gR L R) (hp : p < n) (hq : q < n) :
    Two w0 ((w.setCell ⟨w0.heap.size + 1 + n, p, none⟩ (.slice (some ⟨gR q, 0, none⟩) n n)).setCell ⟨w0.heap.size + 1 + n, q, none⟩ (.slice (some ⟨gR p, 0, none⟩) n n)) n gL (swapAt gR p q) L (swapAt R p q) := by
  have hO : Only (w0.heap.size + 1 + n) w ((w.setCell ⟨w0.heap.size + 1 + n, p, none⟩ (.slice (some ⟨gR q, 0, none⟩) n n)).setCell ⟨w0.heap.size + 1 + n, q, none⟩ (.slice (some ⟨gR p, 0, none⟩) n n)) := ((Only.refl _ w).setCell _ _).setCell _ _
  exact ⟨h.mL.only hO (by omega) (fun i hi => by have := h.rL i hi; omega), mat_swap h.mR hp hq, h.rL, swap_range (P := fun x => w0.heap.size + 1 + n < x) h.rR hp hq, h.bel.trans (hO.below (by omega))⟩
end
end Go.Proofs.Qxb6500697aDoor
