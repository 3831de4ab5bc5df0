/-
  THE WALK OF Suspects: what it keeps from round to round.
-/
import Derived.Test.Qxb6500697aDoorKVer
import Derived.Test.Qxb6500697aDoorKApp
import Derived.Test.Qxb6500697aDoorIs
import Derived.Deep.RegionLaw
namespace Go.Proofs.Qxb6500697aDoor
open Go.RowKit

theorem gcls_lt8 {k N i : Nat} {ss : List Sd} (h : gcls k N ss = some i) : i < 8 := by
  unfold gcls gcls2 at h
  repeat' split at h
  all_goals first | (cases h; done) | (have h1 := Option.some.inj h; omega)

theorem make_shards0 (n : Nat) (hn : n ≤ 4096) (w : World) : (Instr.makeSlice 36 (.int .i64 0) (.int .i64 (n : Int))).run Tryd.prog w = .ok (.slice (some ⟨w.heap.size, 0, none⟩) 0 n) (w.alloc (.cells (madeCells #[.int .u8 0, .int .i64 0, .int .i64 0, .slice none 0 0] (n * 4)) 60)) := by
  obtain ⟨i0, hi, hzz⟩ := Option.map_eq_some_iff.1 Tryd.info60
  simp only [Prod.mk.injEq] at hzz
  obtain ⟨hz0, hz1, hz2⟩ := hzz
  have h := run_make (P := Tryd.prog) w 36 60 i0 _ Tryd.underlying36 hi hz0 .i64 .i64 (0 : Int) (n : Int) (by omega) (by omega) (by rw [hz2]; omega) (by omega)
  rw [hz1, Int.toNat_natCast] at h
  exact h

theorem Mut.grown {mb : Nat} {w w' : World} (h : Mut mb w w') : w.grownBy w' (some mb) := ⟨h.os, h.tape, h.output, h.size, fun k hk hne => h.block k hk (fun e => hne (by rw [e]))⟩
theorem own_mut {mb : Nat} {w w' : World} {base : Nat} {e : TypeId} {s : Nat} {v : Value} {n : Nat} {xs : List Value} (h : w.ownsRow base e s v n xs) (hm : Mut mb w w') (hb : mb < base) : w'.ownsRow base e s v n xs :=
  h.kept hm.grown (by
    cases hv : v.ownBlock with
    | none => exact .inl rfl
    | some b =>
      refine .inr (fun hh => ?_)
      have h1 := (h.lt b hv).1
      have h2 : b = mb := Option.some.inj hh
      omega)

theorem Cache.grown {X X' : Nat → Prop} {w w' : World} {mb k N : Nat} {row : Option Nat} (h : Cache X w mb k N) (hg : w.grownBy w' row) (hr : ∀ b, row = some b → X b) (hm : ¬ X mb) (hX : ∀ b, X' b → X b ∨ w.heap.size ≤ b) : Cache X' w' mb k N := by
  obtain ⟨es, clock, h1, h2, h3⟩ := h.ents
  refine ⟨es, clock, (hg.block mb h.lt (fun e => hm (hr mb e.symm))).trans h1, h2, h3.1, fun x hx => ?_⟩
  obtain ⟨fam, r, H, c, q1, q2, q3, q4, q5, q6, q7⟩ := h3.2 x hx
  have q8 := q7.mono (F' := fun b => ¬ X b ∧ ¬ X' b) (fun b hlt hn => ⟨hn, fun hx' => by
    rcases hX b hx' with h5 | h5
    · exact hn h5
    · omega⟩)
  have q9 := q8.keep (w' := w') (fun b hn hlt => hg.block b hlt (fun e => hn.1 (hr b e.symm)))
  exact ⟨fam, r, H, c, q1, q2, q3, q4, q5, q6, q9.mono (fun b _ hn => hn.2)⟩

/-- From round to round: the list so far (v7), the buffer (v8), the codec's map. -/
structure SuR (w wr : World) (mb k N : Nat) (v7 v8 : Value) (zs : List Int) : Prop where
  hmb : mb < w.heap.size
  mt : Mut mb w wr
  out : wr.ownsRow w.heap.size 3 1 v7 zs.length (zs.map (Value.int .i64))
  rest : ∃ n xs, wr.ownsRow w.heap.size 60 4 v8 n xs
  apart : ∀ b, v7.ownBlock = some b → v8.ownBlock ≠ some b
  cache : Cache (fun b => v7.ownBlock = some b ∨ v8.ownBlock = some b) wr mb k N
theorem SuR.lt {w wr : World} {mb k N : Nat} {v7 v8 : Value} {zs : List Int} (h : SuR w wr mb k N v7 v8 zs) : ∀ b, (v7.ownBlock = some b ∨ v8.ownBlock = some b) → w.heap.size ≤ b ∧ b < wr.heap.size := by
  intro b hb
  obtain ⟨n, xs, hr⟩ := h.rest
  rcases hb with hb | hb
  · exact h.out.lt b hb
  · exact hr.lt b hb
theorem SuR.keeps {w wr : World} {mb k N : Nat} {X : Nat → Prop} {v7 v8 : Value} {zs : List Int} (h : SuR w wr mb k N v7 v8 zs) (hc : Cache X w mb k N) : Keeps w wr := h.mt.keepsC hc
theorem SuR.mutStep {w wr w' : World} {mb k N : Nat} {v7 v8 : Value} {zs : List Int} (h : SuR w wr mb k N v7 v8 zs) (hm : Mut mb wr w') (hc : Cache (fun b => v7.ownBlock = some b ∨ v8.ownBlock = some b) w' mb k N) : SuR w w' mb k N v7 v8 zs := by
  obtain ⟨n, xs, hr⟩ := h.rest
  exact ⟨h.hmb, h.mt.trans hm, own_mut h.out hm h.hmb, ⟨n, xs, own_mut hr hm h.hmb⟩, h.apart, hc⟩
theorem SuR.belowStep {w wr w' : World} {mb k N : Nat} {v7 v8 : Value} {zs : List Int} (h : SuR w wr mb k N v7 v8 zs) (hb : Below wr.heap.size wr w') : SuR w w' mb k N v7 v8 zs := h.mutStep (Below.mut hb mb) (h.cache.below hb)
/-- A row grown: nothing before the call has changed. -/
theorem Mut.ofGrown {mb : Nat} {w wr w' : World} {row : Option Nat} (h : Mut mb w wr) (hg : wr.grownBy w' row) (hr : ∀ b, row = some b → w.heap.size ≤ b) : Mut mb w w' :=
  ⟨hg.os.trans h.os, hg.tape.trans h.tape, hg.output.trans h.output, Nat.le_trans h.size hg.size, fun b hb hne => (hg.block b (Nat.lt_of_lt_of_le hb h.size) (fun e => by have := hr b e.symm; omega)).trans (h.block b hb hne)⟩
theorem ne_or (x : Option Nat) (y : Option Nat) (h : ∀ b, x = some b → y ≠ some b) : x = none ∨ x ≠ y := by
  cases x with
  | none => exact .inl rfl
  | some b => exact .inr (fun e => h b rfl e.symm)
theorem SuR.grow8 {w wr w' : World} {mb k N : Nat} {v7 v8 v8' : Value} {zs : List Int} {n : Nat} {xs : List Value} (h : SuR w wr mb k N v7 v8 zs) (hg : wr.grownBy w' v8.ownBlock) (ho : w'.ownsRow w.heap.size 60 4 v8' n xs) (h5 : v8'.ownBlock = v8.ownBlock ∨ v8'.ownBlock = some wr.heap.size) : SuR w w' mb k N v7 v8' zs := by
  have hlt := h.lt
  have hmb := h.hmb
  refine ⟨h.hmb, h.mt.ofGrown hg (fun b hb => (hlt b (.inr hb)).1), h.out.kept hg (ne_or _ _ (fun b hb => h.apart b hb)), ⟨n, xs, ho⟩, fun b hb => ?_, h.cache.grown hg (fun b hb => .inr hb) (fun hh => by have := (hlt mb hh).1; omega) (fun b hb => ?_)⟩
  · rcases h5 with h5 | h5
    · rw [h5]; exact h.apart b hb
    · rw [h5]; intro e
      have := (hlt b (.inl hb)).2
      have e : wr.heap.size = b := Option.some.inj e
      omega
  · rcases hb with hb | hb
    · exact .inl (.inl hb)
    · rcases h5 with h5 | h5
      · rw [h5] at hb; exact .inl (.inr hb)
      · rw [h5] at hb
        have e : wr.heap.size = b := Option.some.inj hb
        exact .inr (by omega)
theorem SuR.grow7 {w wr w' : World} {mb k N : Nat} {v7 v7' v8 : Value} {zs zs' : List Int} (h : SuR w wr mb k N v7 v8 zs) (hg : wr.grownBy w' v7.ownBlock) (ho : w'.ownsRow w.heap.size 3 1 v7' zs'.length (zs'.map (Value.int .i64))) (h5 : v7'.ownBlock = v7.ownBlock ∨ v7'.ownBlock = some wr.heap.size) : SuR w w' mb k N v7' v8 zs' := by
  have hlt := h.lt
  have hmb := h.hmb
  obtain ⟨n, xs, hr⟩ := h.rest
  refine ⟨h.hmb, h.mt.ofGrown hg (fun b hb => (hlt b (.inl hb)).1), ho, ⟨n, xs, hr.kept hg (ne_or _ _ (fun b hb e => h.apart b e hb))⟩, fun b hb => ?_, h.cache.grown hg (fun b hb => .inl hb) (fun hh => by have := (hlt mb hh).1; omega) (fun b hb => ?_)⟩
  · rcases h5 with h5 | h5
    · rw [h5] at hb; exact h.apart b hb
    · rw [h5] at hb; intro e
      have := (hlt b (.inr e)).2
      have e : wr.heap.size = b := Option.some.inj hb
      omega
  · rcases hb with hb | hb
    · rcases h5 with h5 | h5
      · rw [h5] at hb; exact .inl (.inl hb)
      · rw [h5] at hb
        have e : wr.heap.size = b := Option.some.inj hb
        exact .inr (by omega)
    · exact .inl (.inr hb)

/-! ### Several shards appended -/
theorem SOut.pushes {B : Nat} {W w' : World} {v v' : Value} {ss ys : List Sd} (h : SOut B W v ss) (hok : ∀ y ∈ ys, SdOk W y) (hfar : ∀ y ∈ ys, 0 < y.pl → ∀ b o, y.pa = some ⟨b, o, none⟩ → b < B)
    (h2 : w'.ownsRow B 60 4 v' (ss.length + ys.length) (ss.flatMap Sd.cells ++ ys.flatMap Sd.cells)) (h3 : W.grownBy w' v.ownBlock) (h5 : v'.ownBlock = v.ownBlock ∨ v'.ownBlock = some W.heap.size) : SOut B w' v' (ss ++ ys) := by
  have ne : ∀ b, b < W.heap.size → v.ownBlock ≠ some b → v'.ownBlock ≠ some b := by
    intro b hb hne
    rcases h5 with h5 | h5
    · rw [h5]; exact hne
    · rw [h5]; intro e; have e : W.heap.size = b := by simpa using e
      omega
  refine ⟨by simpa using h2, fun x hx => ?_⟩
  have hx' : SdOk W x ∧ (0 < x.pl → ∀ b o, x.pa = some ⟨b, o, none⟩ → v.ownBlock ≠ some b) := by
    rcases List.mem_append.1 hx with hx | hx
    · exact h.ok x hx
    · refine ⟨hok x hx, fun h0 b o he e => ?_⟩
      have h1 := hfar x hx h0 b o he
      have h2 := (h.own.lt b e).1
      omega
  exact ⟨hx'.1.blocks (fun h0 b o he hl => h3.block b hl (fun e => hx'.2 h0 b o he e.symm)), fun h0 b o he => ne b (hx'.1.pay.at_lt h0 he) (hx'.2 h0 b o he)⟩

theorem sdcells_one {ys : List Sd} : ∀ u ∈ ys.flatMap Sd.cells, u.oneCell' = true := by
  intro u hu
  obtain ⟨y, _, hy⟩ := List.mem_flatMap.1 hu
  simp [Sd.cells] at hy
  rcases hy with rfl | rfl | rfl | rfl <;> rfl

theorem step_append_sds (W : World) {ops : Array Oper} {o : Oper} {a : Act} {K : Act → World → Prop} {Q : Exit → Act → World → Prop} {E : Prop} (hgd : o.guard = none) (s x : Operand)
    (ho : o.op = .call { callee := .builtin .append, args := #[s, x], argTypes := #[36, 36] })
    (B : Nat) (v : Value) (ss ys : List Sd) (hs : a.eval s = v) (hT : SOut B W v ss) (hB : B ≤ W.heap.size) (hlen : ss.length + ys.length ≤ 65536)
    (g off c m : Nat) (hm : ys.length = m) (hx : a.eval x = .slice (some ⟨g, off, none⟩) m c) (hcs : ∀ j u, (ys.flatMap Sd.cells)[j]? = some u → W.cell? ⟨g, off + j, none⟩ = some u)
    (hok : ∀ y ∈ ys, SdOk W y) (hfar : ∀ y ∈ ys, 0 < y.pl → ∀ b o, y.pa = some ⟨b, o, none⟩ → b < B)
    (h : ∀ v' w', SOut B w' v' (ss ++ ys) → W.grownBy w' v.ownBlock → (v'.ownBlock = v.ownBlock ∨ v'.ownBlock = some W.heap.size) → K (a.put o.dst v') w') :
    if Region.wanted o (yielded ops a.tmps) = true then Oper.wp Tryd.prog o a W K Q else E := by
  subst hm
  have hw : Region.wanted o (yielded ops a.tmps) = true := by simp [Region.wanted, hgd]
  rw [if_pos hw]
  obtain ⟨i0, hi, hzz⟩ := Option.map_eq_some_iff.1 Tryd.info60
  simp only [Prod.mk.injEq] at hzz
  obtain ⟨hz0, hz1, hz2⟩ := hzz
  obtain ⟨v', w', hrun, h2, h3, _, h5⟩ := run_append_own_at (P := Tryd.prog) W B 36 o.type 60 i0 _ 4 48 Tryd.underlying36 hi hz0 hz1 hz2 rfl (by decide) v ss.length _ hT.own ⟨g, off, none⟩ ys.length c (ys.flatMap Sd.cells) (flat4_len ys)
    (by
      intro j y' hj
      have e : (⟨g, off, none⟩ : Addr).add j = ⟨g, off + j, none⟩ := by unfold Addr.add; split <;> simp_all
      rw [e]
      exact hcs j y' hj) sdcells_one (by unfold maxLen; omega) (by omega) hB
  unfold Oper.wp
  simp [execOp, ho, resolve, invoke, builtin, hs, hx, hrun, Result.andThen]
  exact h v' w' (hT.pushes hok hfar h2 h3 h5) h3 h5

/-! ### The cells of a part of a list -/
theorem SdRow.flat {w : World} {b : Nat} {ss : List Sd} (h : SdRow w (some ⟨b, 0, none⟩) ss) (p : Nat) (u : Value) (hu : (ss.flatMap Sd.cells)[p]? = some u) : w.cell? ⟨b, p, none⟩ = some u := by
  have hp : p < ss.length * 4 := by
    have := (List.getElem?_eq_some_iff.1 hu).1
    rwa [flat4_len] at this
  obtain ⟨b', he, hr⟩ := h.row (by omega)
  obtain rfl : b = b' := congrArg (fun x : Option Addr => (x.getD ⟨0, 0, none⟩).block) he
  have hj : p / 4 < ss.length := by omega
  obtain ⟨h1, h2, h3, h4⟩ := hr (p / 4) hj
  have e : p = p / 4 * 4 + p % 4 := by omega
  rw [e, flat4 ss (p / 4) (p % 4) hj (by omega)] at hu
  rw [e]
  have hm : p % 4 = 0 ∨ p % 4 = 1 ∨ p % 4 = 2 ∨ p % 4 = 3 := by omega
  rcases hm with hm | hm | hm | hm <;> rw [hm] at hu ⊢ <;> simp [Sd.cells] at hu <;> rw [← hu]
  · exact h1
  · exact h2
  · exact h3
  · exact h4
theorem flat_take (ss : List Sd) (q p : Nat) (u : Value) (hu : ((ss.take q).flatMap Sd.cells)[p]? = some u) : (ss.flatMap Sd.cells)[p]? = some u := by
  have e : ss.flatMap Sd.cells = (ss.take q).flatMap Sd.cells ++ (ss.drop q).flatMap Sd.cells := by
    rw [← List.flatMap_append, List.take_append_drop]
  rw [e, List.getElem?_append_left (List.getElem?_eq_some_iff.1 hu).1]
  exact hu
theorem flat_drop (ss : List Sd) (q p : Nat) (u : Value) (hq : q ≤ ss.length) (hu : ((ss.drop q).flatMap Sd.cells)[p]? = some u) : (ss.flatMap Sd.cells)[q * 4 + p]? = some u := by
  have e : ss.flatMap Sd.cells = (ss.take q).flatMap Sd.cells ++ (ss.drop q).flatMap Sd.cells := by
    rw [← List.flatMap_append, List.take_append_drop]
  have hl : ((ss.take q).flatMap Sd.cells).length = q * 4 := by rw [flat4_len, List.length_take, Nat.min_eq_left hq]
  rw [e, List.getElem?_append_right (by omega), hl, Nat.add_sub_cancel_left]
  exact hu

/-- The buffer cut to nothing. -/
theorem own_zero {w : World} {B R n cap : Nat} {xs : List Value} (h : w.ownsRow B 60 4 (.slice (some ⟨R, 0, none⟩) n cap) n xs) : SOut B w (.slice (some ⟨R, 0, none⟩) 0 cap) [] := by
  refine ⟨⟨rfl, ?_⟩, by simp⟩
  rcases h.2 with ⟨h1, _⟩ | ⟨g, c, cur, hv, hb, hg, hle, hm, hs, _⟩
  · cases h1
  · cases hv
    exact .inr ⟨R, cap, cur, rfl, hb, hg, Nat.zero_le _, hm, hs, by simp⟩

/-- An int appended, straight. -/
theorem wpList_append_int (W : World) {ops : Array Oper} {rest : List Oper} {o : Oper} {a : Act} {Q : Exit → Act → World → Prop} (hgd : o.guard = none) (s x : Operand)
    (ho : o.op = .call { callee := .builtin .append, args := #[s, x], argTypes := #[31, 31] })
    (B : Nat) (v : Value) (zs : List Int) (hs : a.eval s = v) (hT : W.ownsRow B 3 1 v zs.length (zs.map (Value.int .i64))) (hB : B ≤ W.heap.size) (hlen : zs.length ≤ 65536)
    (g c : Nat) (hx : a.eval x = .slice (some ⟨g, 0, none⟩) 1 c) (y : Int) (hc : W.cell? ⟨g, 0, none⟩ = some (.int .i64 y))
    (h : ∀ v' w', w'.ownsRow B 3 1 v' (zs ++ [y]).length ((zs ++ [y]).map (Value.int .i64)) → W.grownBy w' v.ownBlock → (v'.ownBlock = v.ownBlock ∨ v'.ownBlock = some W.heap.size) → wpList Tryd.prog ops Q rest (a.put o.dst v') w') :
    wpList Tryd.prog ops Q (o :: rest) a W := by
  obtain ⟨i0, hi, hzz⟩ := Option.map_eq_some_iff.1 Tryd.info3
  simp only [Prod.mk.injEq] at hzz
  obtain ⟨hz0, hz1, hz2⟩ := hzz
  refine wpList_append_own_at W hgd s x 31 ho B 3 i0 _ 1 8 Tryd.underlying31 hi hz0 hz1 hz2 rfl (by decide) v zs.length _ hs hT ⟨g, 0, none⟩ 1 c [.int .i64 y] hx (by rfl)
    (by
      intro j y' hj
      cases j with
      | zero =>
        have e : (⟨g, 0, none⟩ : Addr).add 0 = ⟨g, 0, none⟩ := by unfold Addr.add; split <;> simp_all
        rw [e, hc]
        simpa using hj
      | succ j => simp at hj) (by
      intro u hu
      simp at hu
      rw [hu]; rfl) (by unfold maxLen; omega) (by omega) hB ?_
  intro v' w' h2 h3 _ h5
  exact h v' w' (by simpa using h2) h3 h5
end Go.Proofs.Qxb6500697aDoor
