/-
  BYTES COPIED OVER BYTES OF ONE's OWN.
-/
import Derived.Test.Qxb6500698aGreatDoorZM2
import Derived.Laws.IdiomCopy
namespace Go.Proofs.Qxb6500698aGreatDoor
open Go.RowKit
/-- ds laid over O, from off on, byte by byte. -/
def lays : List Nat → Nat → List Nat → List Nat
  | O, _, [] => O
  | O, off, d :: ds => lays (O.set off d) (off + 1) ds
theorem lays_eq : ∀ (ds O : List Nat) (off : Nat), off + ds.length ≤ O.length → lays O off ds = O.take off ++ ds ++ O.drop (off + ds.length)
  | [], O, off, _ => by simp [lays]
  | d :: ds, O, off, h => by
    simp only [List.length_cons] at h
    rw [lays, lays_eq ds _ _ (by rw [List.length_set]; omega)]
    have h1 : (O.set off d).take (off + 1) = O.take off ++ [d] := by
      rw [List.take_add_one, List.getElem?_set_self (by omega), List.take_set_of_le (Nat.le_refl _)]
      rfl
    have h2 : (O.set off d).drop (off + 1 + ds.length) = O.drop (off + (d :: ds).length) := by
      rw [List.drop_set_of_lt (by omega), List.length_cons]
      congr 1
      omega
    rw [h1, h2]
    simp
theorem lays_len : ∀ (ds O : List Nat) (off : Nat), (lays O off ds).length = O.length
  | [], _, _ => rfl
  | d :: ds, O, off => by rw [lays, lays_len ds, List.length_set]
theorem lays_pt {O : List Nat} {off v k : Nat} (h : off + k ≤ O.length) : lays O off (dig v k) = pt O off v k := by
  rw [lays_eq _ _ _ (by rw [dig_length]; exact h), dig_length]
  rfl
theorem own_lays {B g cap : Nat} : ∀ (ds O : List Nat) (off n : Nat) (w : World), OwnB w B (.slice (some ⟨g, 0, none⟩) n cap) O → OwnB (w.setCells g off (ds.map fun y => Value.int .u8 ((y : Nat) : Int))) B (.slice (some ⟨g, 0, none⟩) n cap) (lays O off ds)
  | [], _, _, _, _, h => h
  | d :: ds, O, off, n, _, h => own_lays ds (O.set off d) (off + 1) n _ (own_put h)
theorem only_setCells {g : Nat} : ∀ (ds : List Value) (off : Nat) (w w' : World), Only g w w' → Only g w (w'.setCells g off ds)
  | [], _, _, _, h => h
  | _ :: ds, off, w, _, h => only_setCells ds (off + 1) w _ (h.setCell _ _)
/-- What copy needs. -/
structure CpB (B : Nat) (W : World) (g n cap : Nat) (O : List Nat) (off : Nat) (sa : Option Addr) (ds : List Nat) : Prop where
  own : OwnB W B (.slice (some ⟨g, 0, none⟩) n cap) O
  row : BRow W sa ds
  len : off + ds.length ≤ O.length
  ne : ds ≠ []
theorem step_copy_bl {W : World} {d : Option Tmp} {ty : TypeId} {ps : String} {af : Array Edge} {s y : Operand} {ops : Array Oper} {a : Act} {K : Act → World → Prop} {Q : Exit → Act → World → Prop} {E : Prop}
    {B g n cap off L C : Nat} {O ds : List Nat} {sa : Option Addr} {k c : Nat} (hA : CpB B W g n cap O off sa ds) (hL : k ≤ L) (hk : ds.length = k) (hs : a.eval s = .slice (some ⟨g, off, none⟩) L C) (hx : a.eval y = .slice sa k c)
    (h : ∀ v' w', OwnB w' B (.slice (some ⟨g, 0, none⟩) n cap) (lays O off ds) → Only g W w' → K (a.put d v') w') :
    if Region.wanted { dst := d, op := .call { callee := .builtin .copy, args := #[s, y], argTypes := #[29, 29] }, type := ty, pos := ps, after := af, guard := none } (yielded ops a.tmps) = true then Oper.wp Tryz.prog { dst := d, op := .call { callee := .builtin .copy, args := #[s, y], argTypes := #[29, 29] }, type := ty, pos := ps, after := af, guard := none } a W K Q else E := by
  rw [if_pos (by simp [Region.wanted])]
  subst hk
  obtain ⟨sb, so, rfl, hc⟩ := hA.row.row hA.ne
  have hr := run_copy_cells (P := Tryz.prog) W 29 29 ty 5 g off L C ⟨sb, so, none⟩ ds.length c (ds.map fun y => Value.int .u8 ((y : Nat) : Int)) Tryz.underlying29 (by kernel_rfl) (by rw [List.length_map]; exact (Nat.min_eq_left hL).symm)
    (fun j u hj => by
      rw [List.getElem?_map] at hj
      cases hq : ds[j]? with
      | none => rw [hq] at hj; cases hj
      | some z =>
        rw [hq] at hj
        have hjl := (List.getElem?_eq_some_iff.1 hq).1
        have h1 := hc j hjl
        rw [List.getD_eq_getElem?_getD, hq] at h1
        have e : (⟨sb, so, none⟩ : Addr).add j = ⟨sb, so + j, none⟩ := by unfold Addr.add; split <;> simp_all
        rw [e, h1]
        exact hj)
    (fun j hj => by
      rw [List.length_map] at hj
      rw [(own_cell hA.own (i := off + j) (by have := hA.len; omega)).1]; rfl)
    (fun j hj => by
      rw [List.length_map] at hj
      exact (own_cell hA.own (i := off + j) (by have := hA.len; omega)).2)
    (fun u hu => by
      obtain ⟨z, _, rfl⟩ := List.mem_map.1 hu
      rfl)
  have hw := h (goInt (ds.map fun y => Value.int .u8 ((y : Nat) : Int)).length) _ (own_lays ds O off n W hA.own) (only_setCells _ off W W (Only.refl _ _))
  unfold Oper.wp execOp
  simp only [resolve, invoke, builtin, Sem.run_bind, Sem.run_pure, Result.andThen_ok, List.map_toArray, List.map_cons, List.map_nil, hs, hx, hr]
  exact hw

section
variable {B : Nat} {w w1 : World} {l : Ml} {s : ZSt}
/-- Bytes written over, in place. -/
theorem ZM.patched {O' : List Nat} {g : Nat} (h : ZM B w l s) (hg : blk l.oa = some g) (ho : OwnB w1 B (.slice l.oa s.O.length l.oc) O') (hO : Only g w w1) (hl : O'.length = s.O.length) (hb : ∀ x ∈ O', x < 256) : MSt B w w1 l l s { s with O := O' } := by
  have n0 : l.sb ≠ g := fun e => h.nO (by rw [hg, e])
  refine ⟨{ h with at_ := ?_, ownF := ?_, ownO := ?_, rowI := ?_, ol := (by rw [hl]; exact h.ol), ob := hb }, Only.chg hO (.inr (.inr hg)), rfl, fun b hx => (by rcases hx with hx | hx; exact .inl hx; exact .inr (.inl hx)), fun b hx => .inl hx⟩
  · rw [hl]; exact (hO.block _ n0).trans h.at_
  · exact own_same h.ownF (fun b hx => hO.block b (fun e => by rw [own_blk] at hx; exact h.nFO b hx (by rw [hg, e]))) (Nat.le_of_eq hO.size.symm)
  · show OwnB w1 B (.slice l.oa O'.length l.oc) O'
    rw [hl]; exact ho
  · exact brow_keep h.rowI (fun h0 b o ha => hO.block b (fun e => (h.nI b ⟨h0, o, ha⟩).2.2 (by rw [hg, e])))
end
end Go.Proofs.Qxb6500698aGreatDoor
