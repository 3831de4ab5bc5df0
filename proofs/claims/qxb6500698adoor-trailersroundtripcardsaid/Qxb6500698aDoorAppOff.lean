/-
  'append' OVER BYTES AT A STEP OF A REGION THAT DRAWS; one byte appended to a slice that begins inside a block of the call's own.
-/
import Derived.Test.Qxb6500698aDoorApp
import Derived.Test.Qxb6500698aDoorOwn
import Derived.ArgAppend
import Derived.RegionTactic
namespace Go.Proofs.Qxb6500698aDoor
open Go.RowKit

section
variable (w : World)

theorem step_append_bytes {ops : Array Oper} {o : Oper} {a : Act} {K : Act → World → Prop} {Q : Exit → Act → World → Prop} {E : Prop} (hgd : o.guard = none) (s x : Operand)
    (ho : o.op = .call { callee := .builtin .append, args := #[s, x], argTypes := #[25, 25] })
    (base : Nat) (v : Value) (bs ns : List Nat) (hs : a.eval s = v) (hown : w.ownsRow base 5 1 v bs.length (bs.map fun y => Value.int .u8 ((y : Nat) : Int)))
    (ao : Option Addr) (c : Nat) (hx : a.eval x = .slice ao ns.length c) (hrow : BRow w ao ns) (hlen : bs.length + ns.length ≤ 140737488355328) (hbase : base ≤ w.heap.size)
    (h : ∀ v' w', w'.ownsRow base 5 1 v' (bs ++ ns).length ((bs ++ ns).map fun y => Value.int .u8 ((y : Nat) : Int)) → w.grownBy w' v.ownBlock → K (a.put o.dst v') w') :
    if Region.wanted o (yielded ops a.tmps) = true then Oper.wp Tryd.prog o a w K Q else E := by
  rw [if_pos (by simp [Region.wanted, hgd])]
  obtain ⟨i0, hi, hz0, hz1, hz2⟩ := info_parts Tryd.info5
  by_cases hn : ns = []
  · subst hn
    have hr := run_append_zero (P := Tryd.prog) w 25 o.type 5 i0 Tryd.underlying25 hi base 1 v bs.length _ hown ao c
    have hw := h v w (by simpa using hown) ⟨rfl, rfl, rfl, Nat.le_refl _, fun _ _ _ => rfl⟩
    have hx' : a.eval x = .slice ao 0 c := hx
    unfold Oper.wp execOp
    simp only [ho, resolve, invoke, builtin, Sem.run_bind, Sem.run_pure, Result.andThen_ok, List.map_toArray, List.map_cons, List.map_nil, hs, hx', hr]
    exact hw
  · obtain ⟨b, o', rfl, hc⟩ := hrow.row hn
    obtain ⟨v', w', hr, h2, h3, _, h5⟩ := run_append_own_at (P := Tryd.prog) w base 25 o.type 5 i0 (.int .u8 0) 1 1 Tryd.underlying25 hi hz0 hz1 hz2 rfl (by decide) v bs.length _ hown ⟨b, o', none⟩ ns.length c (ns.map fun y => Value.int .u8 ((y : Nat) : Int)) (by simp) hrow.news (bytes_oneCell ns)
      (by unfold maxLen; omega) (by omega) hbase
    have hw := h v' w' (by rw [List.map_append, List.length_append]; exact h2) h3
    unfold Oper.wp execOp
    simp only [ho, resolve, invoke, builtin, Sem.run_bind, Sem.run_pure, Result.andThen_ok, List.map_toArray, List.map_cons, List.map_nil, hs, hx, hr]
    exact hw

/-- One byte, onto the slice that begins at place off of block b; the block has cells up to the slice's room and is not frozen. -/
theorem step_append_off {ops : Array Oper} {o : Oper} {a : Act} {K : Act → World → Prop} {Q : Exit → Act → World → Prop} {E : Prop} (hgd : o.guard = none) (s x : Operand)
    (ho : o.op = .call { callee := .builtin .append, args := #[s, x], argTypes := #[25, 25] })
    (base b off cap n : Nat) (bs : List Nat) (hn : bs.length = n) (d : Nat) (hd : d < 256) (hs : a.eval s = .slice (some ⟨b, off, none⟩) n cap) (hb : base ≤ b) (hrow : BRow w (some ⟨b, off, none⟩) bs)
    (hspare : ∀ j, j < cap → (w.cell? ⟨b, off + j, none⟩).isSome = true ∧ w.frozen? ⟨b, off + j, none⟩ = false)
    (g c : Nat) (hx : a.eval x = .slice (some ⟨g, 0, none⟩) 1 c) (hcell : w.cell? ⟨g, 0, none⟩ = some (.int .u8 (d : Int))) (hlen : bs.length + 1 ≤ 140737488355328) (hbase : base ≤ w.heap.size)
    (h : ∀ ao c' w', BRow w' ao (bs ++ [d]) → Below base w w' → K (a.put o.dst (.slice ao (n + 1) c')) w') :
    if Region.wanted o (yielded ops a.tmps) = true then Oper.wp Tryd.prog o a w K Q else E := by
  subst hn
  rw [if_pos (by simp [Region.wanted, hgd])]
  obtain ⟨i0, hi, hz0, hz1, hz2⟩ := info_parts Tryd.info5
  have hlt : ∀ y ∈ bs ++ [d], y < 256 := by
    intro y hy
    rcases List.mem_append.1 hy with hy | hy
    · exact hrow.lt y hy
    · simp at hy; omega
  have hnews : ∀ j u, ([Value.int .u8 (d : Int)] : List Value)[j]? = some u → w.cell? ((⟨g, 0, none⟩ : Addr).add j) = some u := by
    intro j y hj
    match j, hj with
    | 0, hj => simp at hj; subst hj; simpa [Addr.add] using hcell
  by_cases hr : bs.length + 1 ≤ cap
  · have hsp := hspare bs.length (by omega)
    have hrun := run_append_room_cells (P := Tryd.prog) w 25 o.type 5 i0 Tryd.underlying25 hi b off bs.length cap ⟨g, 0, none⟩ 1 c [.int .u8 (d : Int)] (by rw [hz1]; rfl) hnews (by intro y hy; simp at hy; subst hy; rfl) hr
      (fun j hj => by simp at hj; subst hj; rw [hz1]; simpa using hsp.1) (fun j hj => by simp at hj; subst hj; rw [hz1]; simpa using hsp.2)
    have hset : w.setCells b (off + bs.length * i0.size) [.int .u8 (d : Int)] = w.setCell ⟨b, off + bs.length, none⟩ (.int .u8 (d : Int)) := by
      rw [hz1, Nat.mul_one]; rfl
    rw [hset] at hrun
    have hk := h (some ⟨b, off, none⟩) cap (w.setCell ⟨b, off + bs.length, none⟩ (.int .u8 (d : Int))) ⟨hlt, fun _ => ⟨b, off, rfl, fun i hi' => by
        have hin := World.cell?_setCells_in b [.int .u8 (d : Int)] (off + bs.length) w (fun j hj => by simp at hj; subst hj; simpa using hsp.1) 0 (by simp)
        rcases Nat.lt_or_ge i bs.length with hl | hl
        · have hout := World.cell?_setCells_out b [.int .u8 (d : Int)] (off + bs.length) w ⟨b, off + i, none⟩ (fun _ _ => Or.inl (by simp; omega))
          have e1 : (bs ++ [d]).getD i 0 = bs.getD i 0 := by simp [List.getD_eq_getElem?_getD, List.getElem?_append_left hl]
          obtain ⟨b', o', ha, hc⟩ := hrow.row (ne_nil_of_lt hl)
          obtain ⟨rfl, rfl⟩ : b = b' ∧ off = o' := by simpa using ha
          rw [e1]
          exact hout.trans (hc i hl)
        · have e0 : i = bs.length := by simp at hi'; omega
          subst e0
          have e1 : (bs ++ [d]).getD bs.length 0 = d := by simp [List.getD_eq_getElem?_getD]
          rw [e1]
          exact hin⟩⟩ ((Below.refl base w).setCell (p := ⟨b, off + bs.length, none⟩) hb _)
    unfold Oper.wp execOp
    simp only [ho, resolve, invoke, builtin, Sem.run_bind, Sem.run_pure, Result.andThen_ok, List.map_toArray, List.map_cons, List.map_nil, hs, hx, hrun]
    exact hk
  · obtain ⟨v', w', hrun, r1, r2⟩ := run_append_arg_grows (P := Tryd.prog) w 25 o.type 5 i0 (.int .u8 0) 1 1 Tryd.underlying25 hi hz0 hz1 hz2 rfl (by decide) ⟨b, off, none⟩ bs.length cap (bs.map fun y => Value.int .u8 ((y : Nat) : Int)) (by simp) hrow.news
      ⟨g, 0, none⟩ 1 c [.int .u8 (d : Int)] (by simp) hnews (by omega) (by unfold maxLen; omega) (by omega)
    have r1' : w'.ownsRow w.heap.size 5 1 v' (bs.length + 1) ((bs ++ [d]).map fun y => Value.int .u8 ((y : Nat) : Int)) := by rw [List.map_append]; exact r1
    obtain ⟨ao, cap', rfl, _, _, hbr, _⟩ := BRow.of_owns r1' hlt
    have hk := h ao cap' w' hbr ((Below.refl base w).grown r2 hbase (by intro k hk; cases hk))
    unfold Oper.wp execOp
    simp only [ho, resolve, invoke, builtin, Sem.run_bind, Sem.run_pure, Result.andThen_ok, List.map_toArray, List.map_cons, List.map_nil, hs, hx, hrun]
    rw [List.length_append]
    exact hk
end

/-- What an own row that is not empty looks like: its cells up to its room are there and are not frozen. -/
theorem own_form {w : World} {base : Nat} {v : Value} {n : Nat} {bs : List Nat} (h : w.ownsRow base 5 1 v n (bs.map fun x => Value.int .u8 ((x : Nat) : Int))) (hlt : ∀ x ∈ bs, x < 256) (hne : bs ≠ []) :
    ∃ g cap, v = .slice (some ⟨g, 0, none⟩) bs.length cap ∧ bs.length ≤ cap ∧ cap ≤ maxLen ∧ BRow w (some ⟨g, 0, none⟩) bs ∧ base ≤ g ∧ g < w.heap.size ∧ ∀ j, j < cap → (w.cell? ⟨g, j, none⟩).isSome = true ∧ w.frozen? ⟨g, j, none⟩ = false := by
  obtain ⟨g, cap, h1, h2, h3, h4, h5⟩ := Own.of_owns h hlt hne
  refine ⟨g, cap, h1, h2, h3, h4.brow, h5, h4.lt, fun j hj => ⟨?_, h4.frozen j⟩⟩
  rcases h.2 with ⟨hv, _⟩ | ⟨g', cap', cur, hv, hb, hg, hle, hm, hs, ht⟩
  · rw [hv] at h1; cases h1
  · rw [hv] at h1
    simp at h1
    obtain ⟨rfl, _, rfl⟩ := h1
    have : j < cur.size := by omega
    simp [World.cell?, hg, this]
end Go.Proofs.Qxb6500698aDoor
