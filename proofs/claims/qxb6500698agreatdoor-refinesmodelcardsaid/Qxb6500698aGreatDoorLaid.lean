/-
  WHAT THE ROW'S LIST OF SENTINELS GIVES A WALK: each variable's cell, that the errors behind them are different pointers, and that their rows are not frozen.
-/
import Derived.Test.Qxb6500698aGreatDoorProg
import Derived.WalkKit
import Derived.Stop.LaidErr
import Derived.MakeChecks
namespace Go.Proofs.Qxb6500698aGreatDoor
open Go.RowKit

/-- A sentinel of the list: its name, its number, its text. -/
structure Sent where
  name : String
  num : Nat
  text : List UInt8

def Sent.datum (x : Sent) : String × DataW Unit := (x.name, .iface "*errors.errorString" (.ptr (.agg [.lit (.string x.text)])))

def placeOf (a : Addr) : MemPlace := .cell a.block a.off

theorem laid_list {P : Program} {W : World} {ti tp te ts : TypeId} {ms : Array (String × TypeId)} {f : Field}
    (hi : P.underlying ti = some (.interface ms)) (hrow : ∀ u, P.typeName? 3 u = some "*errors.errorString" → u = tp)
    (hp : P.underlying tp = some (.pointer te)) (he : P.underlying te = some (.struct #[f])) (hft : f.type = ts) (hfo : f.offset = 0) (hs : P.underlying ts = some .string) (hc : P.cellsOf te = 1) (hcs : P.cellsOf ts = 1)
    (rest : List (String × DataW Unit)) :
    ∀ (L : List Sent) (ps : List MemPlace), (∀ x ∈ L, P.globalNamed x.name = some x.num ∧ (P.globals[x.num]?).map (·.type) = some ti) →
      DataW.LaidVars P W (L.map Sent.datum ++ rest) ps →
      (∀ b off, MemPlace.cell b off ∈ ps → (∃ c t, W.heap[b]? = some (.cells c t (0, 0))) ∧ ∀ u v, W.cell? ⟨b, off, none⟩ = some (.iface u v) → Value.okWide P W .any 0 u v) →
      ∃ (e : Nat → Addr) (q : List MemPlace), DataW.LaidVars P W rest q ∧ (∀ y ∈ q, y ∈ ps) ∧ ((List.range L.length).map (fun i => placeOf (e i))).Sublist ps ∧ (∀ (i : Nat) x, L[i]? = some x → W.cell? ⟨x.num, 0, none⟩ = some (.iface tp (.pointer (some (e i)))))
  | [], ps, _, h, _ => ⟨fun _ => ⟨0, 0, none⟩, ps, h, fun _ h => h, by simp, fun i x h => by simp at h⟩
  | x :: L, ps, hn, h, hr => by
    obtain ⟨g, t, cs, fu, p, q, hg, ht, hv, hd, hrest, e⟩ := h
    obtain ⟨hgx, htx⟩ := hn x (by simp)
    obtain rfl := Option.some.inj (hgx.symm.trans hg)
    obtain rfl := Option.some.inj (htx.symm.trans ht)
    subst e
    obtain ⟨l⟩ := cs
    have ok : ∀ u v, l = [.iface u v] → Value.okWide P W .any 0 u v := fun u v e => by
      subst e
      exact (hr x.num 0 (by simp [MemPlace.row])).2 u v (by simpa using World.var?_cell hg hv 0)
    obtain ⟨a, s, rfl, hca, _, _, rfl⟩ := errorString_of_trod hi hrow hp he hft hfo hs hc hcs hd ok
    obtain ⟨e', q', h1, h2, h3, h4⟩ := laid_list hi hrow hp he hft hfo hs hc hcs rest L q (fun y hy => hn y (by simp [hy])) hrest (fun b off hm => hr b off (by simp [hm]))
    refine ⟨fun i => if i = 0 then a else e' (i - 1), q', h1, fun y hy => by simp [h2 y hy], ?_, ?_⟩
    · rw [List.length_cons, List.range_succ_eq_map, List.map_cons, List.map_map]
      have e2 : (MemPlace.row ⟨x.num, 0, none⟩ (Array.size ⟨[Value.iface tp (.pointer (some a))]⟩) ++ MemPlace.row a 1 ++ q) = MemPlace.cell x.num 0 :: placeOf a :: q := by simp [MemPlace.row, placeOf]
      rw [e2]
      refine List.Sublist.cons _ (List.Sublist.cons_cons _ ?_)
      exact h3
    · intro i y hy
      cases i with
      | zero =>
        simp at hy
        subst hy
        simpa using World.var?_cell hg hv 0
      | succ i =>
        simp at hy
        simpa using h4 i y hy

end Go.Proofs.Qxb6500698aGreatDoor
