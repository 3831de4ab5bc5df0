/-
  LISTS OF ROWS IN THE MAKING: headers of rows that lie elsewhere, in a slice that the call owns.
-/
import Derived.Test.Qxb6500697aDoorKCache
namespace Go.Proofs.Qxb6500697aDoor
open Go.RowKit

structure HOut (w0 w : World) (v : Value) (xs : List Value) : Prop where
  own : w.ownsRow w0.heap.size 30 1 v xs.length xs
  bel : Below w0.heap.size w0 w

theorem HOut.below {w0 w w' : World} {v : Value} {xs : List Value} (h : HOut w0 w v xs) (hb : Below w.heap.size w w') : HOut w0 w' v xs := by
  have hlt := h.own.lt
  refine ⟨⟨h.own.1, ?_⟩, h.bel.trans (hb.mono h.bel.size)⟩
  rcases h.own.2 with h1 | ⟨g, cap, cur, hv, hbg, hg, h2⟩
  · exact .inl h1
  · exact .inr ⟨g, cap, cur, hv, hbg, (hb.block g (hlt g (by rw [hv]; rfl)).2).trans hg, h2⟩

theorem HOut.made (w : World) (k : Nat) (hk : k ≤ 4096) : HOut w (w.alloc (.cells (madeCells #[.slice none 0 0] k) 30)) (.slice (some ⟨w.heap.size, 0, none⟩) 0 k) [] := by
  refine ⟨⟨rfl, .inr ⟨w.heap.size, k, madeCells #[.slice none 0 0] k, rfl, Nat.le_refl _, heap_alloc_new w _, Nat.zero_le _, by unfold maxLen; omega, by rw [size_madeCells, Nat.mul_one], by simp⟩⟩, (Below.refl _ _).alloc (Nat.le_refl _) _⟩

theorem make_hdr0 (T : TypeId) (hT : Tryd.prog.underlying T = some (.slice 30)) (k : Nat) (hk : k ≤ 4096) (w : World) : (Instr.makeSlice T (.int .i64 0) (.int .i64 (k : Int))).run Tryd.prog w = .ok (.slice (some ⟨w.heap.size, 0, none⟩) 0 k) (w.alloc (.cells (madeCells #[.slice none 0 0] k) 30)) := by
  obtain ⟨i0, hi, hzz⟩ := Option.map_eq_some_iff.1 Tryd.info30
  simp only [Prod.mk.injEq] at hzz
  obtain ⟨hz0, hz1, hz2⟩ := hzz
  have h := run_make (P := Tryd.prog) w T 30 i0 _ hT hi hz0 .i64 .i64 (0 : Int) (k : Int) (by omega) (by omega) (by rw [hz2]; omega) (by omega)
  rw [hz1, Int.toNat_natCast, Nat.mul_one] at h
  exact h

theorem HOut.rmat {w0 w : World} {v : Value} {xs : List Value} {k : Nat} {A : Nat → Nat → Nat} (h : HOut w0 w v xs) (h0 : 0 < xs.length) (hx : ∀ t, t < xs.length → ∃ so c, xs[t]? = some (.slice so k c) ∧ k ≤ c ∧ c ≤ 9223372036854775807 ∧ FRow w0 so k (A t)) :
    ∃ H c, v = .slice (some ⟨H, 0, none⟩) xs.length c ∧ xs.length ≤ c ∧ c ≤ 9223372036854775807 ∧ RMat w (some ⟨H, 0, none⟩) xs.length k A := by
  rcases h.own.2 with ⟨_, h1⟩ | ⟨g, cap, cur, hv, hbg, hg, hle, hm, hs, ht⟩
  · omega
  · refine ⟨g, cap, hv, hle, by unfold maxLen at hm; omega, fun _ => ⟨g, 0, rfl, fun r hr => ?_⟩⟩
    obtain ⟨so, c, e1, e2, e3, e4⟩ := hx r hr
    refine ⟨so, c, ?_, e2, e3, e4.below h.bel⟩
    have := h.own.cells (g := g) (by rw [hv]; rfl) r _ e1
    have e : (⟨g, 0, none⟩ : Addr).add r = ⟨g, 0 + r, none⟩ := by unfold Addr.add; split <;> simp_all
    rwa [e] at this

theorem HOut.form {w0 w : World} {v : Value} {xs : List Value} (h : HOut w0 w v xs) : ∃ ao c, v = .slice ao xs.length c := by
  rcases h.own.2 with ⟨hv, h1⟩ | ⟨g, cap, cur, hv, _⟩
  · exact ⟨none, 0, by rw [hv, h1]⟩
  · exact ⟨_, cap, hv⟩

theorem wpList_append_hd (W : World) {ops : Array Oper} {rest : List Oper} {o : Oper} {a : Act} {Q : Exit → Act → World → Prop} (hgd : o.guard = none) (s x : Operand) (T : TypeId) (hT : Tryd.prog.underlying T = some (.slice 30))
    (ho : o.op = .call { callee := .builtin .append, args := #[s, x], argTypes := #[T, T] })
    (w0 : World) (v : Value) (xs : List Value) (hs : a.eval s = v) (hrel : HOut w0 W v xs) (hxs : xs.length ≤ 65536)
    (h c : Nat) (hx : a.eval x = .slice (some ⟨h, 0, none⟩) 1 c) (so : Option Addr) (sl sc : Nat) (hcell : W.cell? ⟨h, 0, none⟩ = some (.slice so sl sc))
    (hK : ∀ v' w', HOut w0 w' v' (xs ++ [.slice so sl sc]) → wpList Tryd.prog ops Q rest (a.put o.dst v') w') : wpList Tryd.prog ops Q (o :: rest) a W := by
  obtain ⟨i0, hi, hzz⟩ := Option.map_eq_some_iff.1 Tryd.info30
  simp only [Prod.mk.injEq] at hzz
  obtain ⟨hz0, hz1, hz2⟩ := hzz
  refine wpList_append_own_at W hgd s x T ho w0.heap.size 30 i0 (.slice none 0 0) 1 24 hT hi hz0 hz1 hz2 rfl (by decide) v xs.length xs hs hrel.own ⟨h, 0, none⟩ 1 c [.slice so sl sc] hx (by simp)
    (by intro j y hj; match j, hj with | 0, hj => simp at hj; subst hj; simpa [Addr.add] using hcell) (by intro y hy; simp at hy; subst hy; rfl) (by unfold maxLen; omega) (by omega) hrel.bel.size ?_
  intro v' w' h2 h3 _ h5
  exact hK v' w' ⟨by simpa using h2, hrel.bel.grown h3 hrel.bel.size (fun k hk => (hrel.own.lt k hk).1)⟩
end Go.Proofs.Qxb6500697aDoor
