/-
  'copy' ONTO A ROW IN A BLOCK OF ITS OWN.
-/
import Derived.Test.Qxb6500697aDoorKTimes
import Derived.Laws.IdiomCopy
import Derived.RegionTactic
namespace Go.Proofs.Qxb6500697aDoor
open Go.RowKit

theorem Only.setCells {d : Nat} : ∀ (vs : List Value) (o : Nat) {a w : World}, Only d a w → Only d a (w.setCells d o vs)
  | [], _, _, _, h => h
  | v :: vs, o, _, _, h => Only.setCells vs (o + 1) (h.setCell o v)

theorem Row.setCells {g n : Nat} : ∀ (ss : List Nat) (o : Nat) {w : World} {f : Nat → Nat}, Row w g n f → (∀ x ∈ ss, x < 256) → Row (w.setCells g o (ss.map fun y => Value.int .u8 ((y : Nat) : Int))) g n (fun i => if o ≤ i ∧ i < o + ss.length then ss.getD (i - o) 0 else f i)
  | [], o, w, f, h, _ => h.congr fun i _ => by rw [if_neg (by simp)]
  | x :: ss, o, w, f, h, hl => by
    have h1 := Row.setCells ss (o + 1) (h.set o x (hl x List.mem_cons_self)) (fun y hy => hl y (List.mem_cons_of_mem _ hy))
    refine Row.congr h1 fun i _ => ?_
    by_cases e : i = o
    · subst e
      rw [if_neg (by omega), if_pos rfl, if_pos (by simp)]
      simp
    · by_cases h2 : o + 1 ≤ i ∧ i < o + 1 + ss.length
      · rw [if_pos h2, if_pos (by simp; omega)]
        rw [show i - o = (i - (o + 1)) + 1 by omega, List.getD_cons_succ]
      · rw [if_neg h2, if_neg e, if_neg (by simp; omega)]

/-- What copy runs to. -/
theorem run_copy_frow (ty : TypeId) (w : World) (g N o dn dc : Nat) (f : Nat → Nat) (hrow : Row w g N f) (ho : o + dn ≤ N) (so : Option Addr) (sn sc : Nat) (s : Nat → Nat) (hs : FRow w so sn s) :
    ∃ w', (Builtin.copy_ #[30, 30] ty #[.slice (some ⟨g, o, none⟩) dn dc, .slice so sn sc]).run Tryd.prog w = .ok (.int .i64 ((Nat.min sn dn : Nat) : Int)) w' ∧
      Row w' g N (fun i => if o ≤ i ∧ i < o + Nat.min sn dn then s (i - o) else f i) ∧ Only g w w' := by
  have hsz : (Tryd.prog.info? 5).map (·.size) = some 1 := by
    have h := congrArg (Option.map fun x : Option Value × Nat × Nat => x.2.1) Tryd.info5
    simpa [Option.map_map, Function.comp_def] using h
  rcases Nat.eq_zero_or_pos (Nat.min sn dn) with h0 | h0
  · refine ⟨w, ?_, hrow.congr fun i _ => ?_, Only.refl _ _⟩
    · rw [h0]; exact run_copy_none w 30 30 ty 5 (some ⟨g, o, none⟩) so dn dc sn sc Tryd.underlying30 hsz h0
    · rw [if_neg (by omega)]
  · have hm1 : Nat.min sn dn ≤ sn := Nat.min_le_left _ _
    have hm2 : Nat.min sn dn ≤ dn := Nat.min_le_right _ _
    obtain ⟨sb, sbo, rfl, hc⟩ := hs.2 (by omega)
    obtain ⟨ss, hss⟩ : ∃ ss : List Nat, ss = (List.range (Nat.min sn dn)).map s := ⟨_, rfl⟩
    have hsl : ss.length = Nat.min sn dn := by rw [hss]; simp
    have hsd : ∀ i, i < Nat.min sn dn → ss.getD i 0 = s i := by
      intro i hi
      rw [hss]; simp [List.getD_eq_getElem?_getD, hi]
    have hs8 : ∀ x ∈ ss, x < 256 := by
      intro x hx
      rw [hss] at hx
      obtain ⟨i, hi, rfl⟩ := List.mem_map.1 hx
      exact hs.1 i (by have := List.mem_range.1 hi; omega)
    refine ⟨_, ?_, (Row.setCells ss o hrow hs8).congr fun i _ => ?_, (Only.refl g w).setCells _ _⟩
    · have h := run_copy_cells (P := Tryd.prog) w 30 30 ty 5 g o dn dc ⟨sb, sbo, none⟩ sn sc (ss.map fun y => Value.int .u8 ((y : Nat) : Int)) Tryd.underlying30 hsz (by simpa using hsl)
        (by
          intro j v hj
          have hj' : j < ss.length := by have := (List.getElem?_eq_some_iff.1 hj).1; simpa using this
          have e : (⟨sb, sbo, none⟩ : Addr).add j = ⟨sb, sbo + j, none⟩ := by unfold Addr.add; split <;> simp_all
          rw [e, hc j (by omega), ← hsd j (by omega)]
          simp [hj'] at hj
          simp [List.getD_eq_getElem?_getD, hj', hj])
        (by intro j hj; simp at hj; rw [hrow.cell (by omega)]; rfl)
        (by intro j hj; exact hrow.2.frozen _)
        (bytes_oneCell ss)
      rw [List.length_map, hsl] at h
      exact h
    · rw [hsl]
      by_cases h2 : o ≤ i ∧ i < o + Nat.min sn dn
      · rw [if_pos h2, if_pos h2, hsd _ (by omega)]
      · rw [if_neg h2, if_neg h2]

theorem step_copy_frow {ops : Array Oper} {op : Oper} {a : Act} {K : Act → World → Prop} {Q : Exit → Act → World → Prop} {E : Prop} (w : World) (hgd : op.guard = none) (d x : Operand)
    (hop : op.op = Op.call { callee := Callee.builtin Builtin.copy, args := #[d, x], argTypes := #[30, 30] })
    (g N o dn dc : Nat) (f : Nat → Nat) (hd : a.eval d = .slice (some ⟨g, o, none⟩) dn dc) (hrow : Row w g N f) (ho : o + dn ≤ N) (so : Option Addr) (sn sc : Nat) (s : Nat → Nat) (hx : a.eval x = .slice so sn sc) (hs : FRow w so sn s)
    (hK : ∀ w', Row w' g N (fun i => if o ≤ i ∧ i < o + Nat.min sn dn then s (i - o) else f i) → Only g w w' → K (a.put op.dst (.int .i64 ((Nat.min sn dn : Nat) : Int))) w') :
    if Region.wanted op (yielded ops a.tmps) = true then Oper.wp Tryd.prog op a w K Q else E := by
  rw [if_pos (by simp [Region.wanted, hgd])]
  obtain ⟨w', hr, h1, h2⟩ := run_copy_frow op.type w g N o dn dc f hrow ho so sn sc s hs
  unfold Oper.wp execOp
  simp only [hop, resolve, invoke, builtin, Sem.run_bind, Sem.run_pure, Result.andThen_ok, List.map_toArray, List.map_cons, List.map_nil, hd, hx, hr]
  exact hK w' h1 h2
end Go.Proofs.Qxb6500697aDoor
