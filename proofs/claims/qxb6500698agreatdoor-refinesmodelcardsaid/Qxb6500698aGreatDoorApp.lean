/-
  'append(dst, src...)' OVER BYTES, dst the call's own (or nil), src any byte string that lies in memory, empty and nil ones too.
-/
import Derived.Test.Qxb6500698aGreatDoorSmall
import Derived.Maps.AppendAt
namespace Go.Proofs.Qxb6500698aGreatDoor
open Go.RowKit

theorem run_append_zero {P : Program} (w : World) (t ty e : TypeId) (i : TypeInfo) (ht : P.underlying t = some (.slice e)) (hi : P.info? e = some i) (base : Nat) (size : Nat)
    (v : Value) (n : Nat) (xs : List Value) (hown : w.ownsRow base e size v n xs) (ao : Option Addr) (c : Nat) :
    (Builtin.append_ #[t, t] ty #[v, .slice ao 0 c]).run P w = .ok v w := by
  rcases hown.2 with ⟨rfl, h0⟩ | ⟨g, cap, cur, rfl, hb, hg, hle, hm, hs, htk⟩
  · cases ao <;> simp [Builtin.append_, run_underlying ht, sizeOf, typeInfo, hi, Builtin.lenOf, Builtin.firstCells, loadCells, loadCellsFrom]
  · cases ao <;> simp [Builtin.append_, run_underlying ht, sizeOf, typeInfo, hi, Builtin.lenOf, hle, Builtin.firstCells, loadCells, loadCellsFrom, storeCells]

section
variable (w : World)
theorem wpList_append_bytes {ops : Array Oper} {rest : List Oper} {o : Oper} {a : Act} {Q : Exit → Act → World → Prop} (hgd : o.guard = none) (s x : Operand)
    (ho : o.op = .call { callee := .builtin .append, args := #[s, x], argTypes := #[29, 29] })
    (base : Nat) (v : Value) (bs ns : List Nat) (hs : a.eval s = v) (hown : w.ownsRow base 5 1 v bs.length (bs.map fun y => Value.int .u8 ((y : Nat) : Int)))
    (ao : Option Addr) (c : Nat) (hx : a.eval x = .slice ao ns.length c) (hrow : BRow w ao ns) (hlen : bs.length + ns.length ≤ 140737488355328) (hbase : base ≤ w.heap.size)
    (h : ∀ v' w', w'.ownsRow base 5 1 v' (bs ++ ns).length ((bs ++ ns).map fun y => Value.int .u8 ((y : Nat) : Int)) → w.grownBy w' v.ownBlock → (v'.ownBlock = v.ownBlock ∨ v'.ownBlock = some w.heap.size) → wpList Tryz.prog ops Q rest (a.put o.dst v') w') :
    wpList Tryz.prog ops Q (o :: rest) a w := by
  obtain ⟨i0, hi, hz0, hz1, hz2⟩ := info_parts Tryz.info5
  by_cases hn : ns = []
  · subst hn
    refine wpList_plain hgd fun K hK => ?_
    have hr := run_append_zero (P := Tryz.prog) w 29 o.type 5 i0 Tryz.underlying29 hi base 1 v bs.length _ hown ao c
    have hw := h v w (by simpa using hown) ⟨rfl, rfl, rfl, Nat.le_refl _, fun _ _ _ => rfl⟩ (.inl rfl)
    have hx' : a.eval x = .slice ao 0 c := hx
    unfold Oper.wp execOp
    simp only [ho, resolve, invoke, builtin, Sem.run_bind, Sem.run_pure, Result.andThen_ok, List.map_toArray, List.map_cons, List.map_nil, hs, hx', hr]
    exact hK _ _ hw
  · obtain ⟨b, o', rfl, hc⟩ := hrow.row hn
    refine wpList_append_own_at w hgd s x 29 ho base 5 i0 (.int .u8 0) 1 1 Tryz.underlying29 hi hz0 hz1 hz2 rfl (by decide) v bs.length _ hs hown ⟨b, o', none⟩ ns.length c (ns.map fun y => Value.int .u8 ((y : Nat) : Int)) hx (by simp) hrow.news (bytes_oneCell ns)
      (by unfold maxLen; omega) (by omega) hbase ?_
    intro v' w' h2 h3 _ h5
    refine h v' w' ?_ h3 h5
    rw [List.map_append, List.length_append]; exact h2
end

end Go.Proofs.Qxb6500698aGreatDoor
