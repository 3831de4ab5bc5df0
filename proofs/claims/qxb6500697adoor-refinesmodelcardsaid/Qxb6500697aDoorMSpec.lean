/-
  PLAIN: WHAT A STEP SHOWS AND LEAVES, for the bench and for the model alike; two machines whose trays read alike show the same.
-/
import Derived.Test.Qxb6500697aDoorMTam
import Derived.Test.Qxb6500697aDoorMPick
import Derived.Test.Qxb6500697aDoorMReal
import Derived.Test.Qxb6500697aDoorMSus
namespace Go.Proofs.Qxb6500697aDoor

/-- An answer, as data. -/
structure Ans where
  er : Nat
  D : Nat
  df : Nat → Nat
  sh : List Sd
  M : Nat
  lf : Nat → Int
  n : Int
def ansE (er : Nat) : Ans := ⟨er, 0, fun _ => 0, [], 0, fun _ => 0, 0⟩
/-- Two answers show the same. -/
structure AnsEq (A A' : Ans) : Prop where
  er : A.er = A'.er
  D : A.D = A'.D
  df : ∀ i, i < A.D → A.df i = A'.df i
  sh : SL A.sh A'.sh
  M : A.M = A'.M
  lf : ∀ i, i < A.M → A.lf i = A'.lf i
  n : A.n = A'.n
theorem AnsEq.refl (A : Ans) : AnsEq A A := ⟨rfl, rfl, fun _ _ => rfl, SL.refl _, rfl, fun _ _ => rfl, rfl⟩
theorem AnsEq.symm {A A' : Ans} (h : AnsEq A A') : AnsEq A' A := ⟨h.er.symm, h.D.symm, fun i hi => (h.df i (by rw [h.D]; exact hi)).symm, h.sh.symm, h.M.symm, fun i hi => (h.lf i (by rw [h.M]; exact hi)).symm, h.n.symm⟩
theorem AnsEq.trans {A B C : Ans} (h : AnsEq A B) (k : AnsEq B C) : AnsEq A C := ⟨h.er.trans k.er, h.D.trans k.D, fun i hi => (h.df i hi).trans (k.df i (by rw [← h.D]; exact hi)), h.sh.trans k.sh, h.M.trans k.M, fun i hi => (h.lf i hi).trans (k.lf i (by rw [← h.M]; exact hi)), h.n.trans k.n⟩

/-- A shard as data alone. -/
abbrev sdOf (g n size : Nat) (P : Nat → Nat → Nat) (i : Nat) : Sd := mkSd g n size (fun _ => 0) (fun _ => 0) P i
/-- The shards of an object. -/
def encL (k m g n : Nat) (f : Nat → Nat) : List Sd := (List.range (k + m)).map (sdOf g n (psize g k n) (pay g k n f))
/-- The list decodes, to these rows. -/
structure RowsOk (k N : Nat) (l : List Sd) (D : Nat → Nat → Nat) : Prop where
  good : Good k N l
  byt : BytD k (psize (g0of l) k (ol0of l).toNat) D
  fits : Fits (g0of l) k (psize (g0of l) k (ol0of l).toNat) l D
  pad : PadZ k (punit (g0of l) k (ol0of l).toNat) (psize (g0of l) k (ol0of l).toNat) (ol0of l).toNat D
/-- The object that rows hold. -/
abbrev objOf (k : Nat) (l : List Sd) (D : Nat → Nat → Nat) : Nat → Nat := col k (punit (g0of l) k (ol0of l).toNat) D
/-- Shard i of the list's encoding. -/
abbrev remOf (k : Nat) (l : List Sd) (D : Nat → Nat → Nat) : Nat → Sd := sdOf (g0of l) (ol0of l).toNat (psize (g0of l) k (ol0of l).toNat) (fun i c => gdot (genr (g0of l) k i) (fun j => D j c) k)

/-- Nothing changed. -/
structure Stay (k m : Nat) (ss : List Sd) (k' m' : Nat) (ss' : List Sd) : Prop where
  k : k' = k
  m : m' = m
  sl : SL ss ss'

section
variable (k m : Nat) (ss : List Sd) (o : KOp) (A : Ans) (k' m' : Nat) (ss' : List Sd)
def Spec0 : Prop := (geo o.k o.m = false ∧ AnsEq A (ansE 1) ∧ Stay k m ss k' m' ss') ∨ (geo o.k o.m = true ∧ AnsEq A { ansE 0 with n := o.k + o.m } ∧ (k' : Int) = o.k ∧ (m' : Int) = o.m ∧ ss' = [])
def Spec1 : Prop := (¬ goodG o.gen ∧ AnsEq A (ansE 2) ∧ Stay k m ss k' m' ss') ∨ (goodG o.gen ∧ 256 < o.bs.length ∧ AnsEq A (ansE 3) ∧ Stay k m ss k' m' ss') ∨
  (goodG o.gen ∧ o.bs.length ≤ 256 ∧ AnsEq A { ansE 0 with sh := encL k m o.gen o.bs.length (fun i => o.bs.getD i 0) } ∧ k' = k ∧ m' = m ∧
    SL (if o.kind = 1 then encL k m o.gen o.bs.length (fun i => o.bs.getD i 0) else if ss.length + (k + m) ≤ 64 then ss ++ encL k m o.gen o.bs.length (fun i => o.bs.getD i 0) else ss) ss')
def Spec3 : Prop := Stay k m ss k' m' ss' ∧ ((∃ i, Refu k (k + m) (pk o.pick ss) i ∧ AnsEq A (ansE (i + 1))) ∨ ∃ D, RowsOk k (k + m) (pk o.pick ss) D ∧ AnsEq A { ansE 0 with D := (ol0of (pk o.pick ss)).toNat, df := objOf k (pk o.pick ss) D })
def Spec4 : Prop := Stay k m ss k' m' ss' ∧ (((o.index < 0 ∨ ((k + m : Nat) : Int) ≤ o.index) ∧ AnsEq A (ansE 4)) ∨ ((0 ≤ o.index ∧ o.index < ((k + m : Nat) : Int)) ∧ ((∃ i, Refu k (k + m) (pk o.pick ss) i ∧ AnsEq A (ansE (i + 1))) ∨ ∃ D, RowsOk k (k + m) (pk o.pick ss) D ∧ AnsEq A { ansE 0 with sh := [remOf k (pk o.pick ss) D o.index.toNat] })))
def Spec5 : Prop := Stay k m ss k' m' ss' ∧ ((∃ i, Refu k (k + m) (pk o.pick ss) i ∧ AnsEq A (ansE (i + 1))) ∨ ∃ D, RowsOk k (k + m) (pk o.pick ss) D ∧ AnsEq A { ansE 0 with sh := (absL ((pk o.pick ss).map fun x => x.ix.toNat) (k + m)).map (remOf k (pk o.pick ss) D) })
def Spec6 : Prop := Stay k m ss k' m' ss' ∧ ((¬ goodG o.gen ∧ AnsEq A (ansE 2)) ∨ (goodG o.gen ∧ ((∃ i, Refu k (k + m) (pk o.pick ss) i ∧ AnsEq A (ansE (i + 1))) ∨ ∃ D, RowsOk k (k + m) (pk o.pick ss) D ∧ AnsEq A { ansE 0 with sh := encL k m o.gen (ol0of (pk o.pick ss)).toNat (objOf k (pk o.pick ss) D) })))
open Classical in
/-- The suspects, in rising order. -/
noncomputable def susC (k N : Nat) (l : List Sd) : List Int := ((List.range N).filter fun x => decide (∃ q, q < l.length ∧ (l.getD q Sd.zero).ix.toNat = x ∧ vcls k N (l.eraseIdx q) = none)).map fun x : Nat => (x : Int)
def Spec7 : Prop := Stay k m ss k' m' ss' ∧ ((vcls k (k + m) (pk o.pick ss) = none ∧ AnsEq A (ansE 0)) ∨ (∃ i, i < 8 ∧ vcls k (k + m) (pk o.pick ss) = some i ∧ AnsEq A (ansE (i + 1))) ∨
  (vcls k (k + m) (pk o.pick ss) = some 8 ∧ AnsEq A { ansE 0 with M := (susC k (k + m) (pk o.pick ss)).length, lf := fun i => (susC k (k + m) (pk o.pick ss)).getD i 0 }))
def Spec8 : Prop := AnsEq A { ansE 0 with n := (ss.length : Int) } ∧ k' = k ∧ m' = m ∧ SL (if ss = [] then [] else ss.set (place o.index ss.length) (tampS (ss.getD (place o.index ss.length) Sd.zero) o)) ss'
def Spec9 : Prop := Stay k m ss k' m' ss' ∧ ((¬ goodG o.gen ∧ AnsEq A (ansE 2)) ∨ (goodG o.gen ∧ (o.value < 0 ∨ 256 < o.value) ∧ AnsEq A (ansE 3)) ∨ (goodG o.gen ∧ 0 ≤ o.value ∧ o.value ≤ 256 ∧ AnsEq A { ansE 0 with n := ((psize o.gen k o.value.toNat : Nat) : Int) }))
def Spec : Prop :=
  if o.kind = 0 then Spec0 k m ss o A k' m' ss' else if o.kind = 1 ∨ o.kind = 2 then Spec1 k m ss o A k' m' ss' else if o.kind = 3 then Spec3 k m ss o A k' m' ss'
  else if o.kind = 4 then Spec4 k m ss o A k' m' ss' else if o.kind = 5 then Spec5 k m ss o A k' m' ss' else if o.kind = 6 then Spec6 k m ss o A k' m' ss'
  else if o.kind = 7 then Spec7 k m ss o A k' m' ss' else if o.kind = 8 then Spec8 k m ss o A k' m' ss' else if o.kind = 9 then Spec9 k m ss o A k' m' ss'
  else AnsEq A (ansE 0) ∧ Stay k m ss k' m' ss'
end

theorem SL.refu {k N i : Nat} {l l' : List Sd} (h : SL l l') (hr : Refu k N l i) : Refu k N l' i := by
  rcases hr with hr | ⟨h1, h2, h3⟩
  · exact .inl (by rw [← h.gcls]; exact hr)
  · exact .inr ⟨h.good h1, h.noRows h1 h2, h3⟩
theorem SL.rowsOk {k N : Nat} {l l' : List Sd} {D : Nat → Nat → Nat} (h : SL l l') (hr : RowsOk k N l D) : RowsOk k N l' D :=
  ⟨h.good hr.good, by rw [← h.g0, ← h.ol0]; exact hr.byt, h.fits hr.good hr.fits, by rw [← h.g0, ← h.ol0]; exact hr.pad⟩
theorem Refu.uniq {k N i j : Nat} {l : List Sd} (h : Refu k N l i) (h' : Refu k N l j) : i = j := by
  rcases h with h | ⟨h1, h2, h3⟩ <;> rcases h' with h' | ⟨h1', h2', h3'⟩
  · rw [h] at h'; exact Option.some.inj h'
  · rw [gcls_good h1'] at h; cases h
  · rw [gcls_good h1] at h'; cases h'
  · rw [h3, h3']
theorem Refu.noRows {k N i : Nat} {l : List Sd} {D : Nat → Nat → Nat} (h : Refu k N l i) (h' : RowsOk k N l D) : False := by
  rcases h with h | ⟨_, h2, _⟩
  · rw [gcls_good h'.good] at h; cases h
  · exact h2 ⟨D, h'.byt, h'.fits, h'.pad⟩
theorem vcls_refu {k N i : Nat} {l : List Sd} : vcls k N l = some i ↔ Refu k N l i := by
  constructor
  · intro h
    cases hg : gcls k N l with
    | some j => rw [vcls_some hg] at h; exact .inl (by rw [hg]; exact h)
    | none =>
      have hG := good_of_gcls hg
      by_cases hn : NoRows k l
      · rw [vcls_no hG hn] at h
        exact .inr ⟨hG, hn, (Option.some.inj h).symm⟩
      · rw [vcls_ok hG hn] at h; cases h
  · rintro (h | ⟨h1, h2, rfl⟩)
    · exact vcls_some h
    · exact vcls_no h1 h2
theorem SL.vcls {k N : Nat} {l l' : List Sd} (h : SL l l') : vcls k N l = vcls k N l' := by
  cases hv : Go.Proofs.Qxb6500697aDoor.vcls k N l with
  | some i => exact (vcls_refu.2 (h.refu (vcls_refu.1 hv))).symm
  | none =>
    cases hv' : Go.Proofs.Qxb6500697aDoor.vcls k N l' with
    | none => rfl
    | some i =>
      have := vcls_refu.2 (h.symm.refu (vcls_refu.1 hv'))
      rw [hv] at this; cases this
theorem SL.erase {l l' : List Sd} (h : SL l l') (q : Nat) : SL (l.eraseIdx q) (l'.eraseIdx q) := by
  have hl := h.len
  refine ⟨by rw [List.length_eraseIdx, List.length_eraseIdx, hl], fun j hj => ?_⟩
  have hj' : j < (l'.eraseIdx q).length := by rw [List.length_eraseIdx] at hj ⊢; rw [← hl]; exact hj
  rw [getD_lt hj, getD_lt hj', List.getElem_eraseIdx, List.getElem_eraseIdx]
  have h1 : ∀ i, (hi : i < l.length) → (hi' : i < l'.length) → (l[i]).same l'[i] := fun i hi hi' => by
    have := h.eq i hi
    rw [getD_lt hi, getD_lt hi'] at this
    exact this
  split
  · exact h1 _ _ _
  · exact h1 _ _ _
theorem SL.susC {k N : Nat} {l l' : List Sd} (h : SL l l') : susC k N l = susC k N l' := by
  unfold Go.Proofs.Qxb6500697aDoor.susC
  refine congrArg (List.map fun x : Nat => (x : Int)) (List.filter_congr (fun x _ => ?_))
  have e : (∃ q, q < l.length ∧ (l.getD q Sd.zero).ix.toNat = x ∧ Go.Proofs.Qxb6500697aDoor.vcls k N (l.eraseIdx q) = none) ↔ ∃ q, q < l'.length ∧ (l'.getD q Sd.zero).ix.toNat = x ∧ Go.Proofs.Qxb6500697aDoor.vcls k N (l'.eraseIdx q) = none := by
    constructor
    · rintro ⟨q, h1, h2, h3⟩
      exact ⟨q, by rw [← h.len]; exact h1, by rw [← (h.eq q h1).2.1]; exact h2, by rw [← (h.erase q).vcls]; exact h3⟩
    · rintro ⟨q, h1, h2, h3⟩
      have h1' : q < l.length := by rw [h.len]; exact h1
      exact ⟨q, h1', by rw [(h.eq q h1').2.1]; exact h2, by rw [(h.erase q).vcls]; exact h3⟩
  simp only [e]

theorem Stay.both {k m : Nat} {ss ts : List Sd} {k1 m1 k2 m2 : Nat} {ss' ts' : List Sd} (h : SL ss ts) (h1 : Stay k m ss k1 m1 ss') (h2 : Stay k m ts k2 m2 ts') : k1 = k2 ∧ m1 = m2 ∧ SL ss' ts' := ⟨by rw [h1.k, h2.k], by rw [h1.m, h2.m], h1.sl.symm.trans (h.trans h2.sl)⟩
theorem AnsEq.both {A A' C C' : Ans} (h : AnsEq A C) (h' : AnsEq A' C') (e : AnsEq C C') : AnsEq A A' := h.trans (e.trans h'.symm)

/-- Rows of lists that read alike: the same object, the same shards. -/
theorem RowsOk.obj {k m : Nat} {l l' : List Sd} {D D' : Nat → Nat → Nat} (h : SL l l') (hk : 1 ≤ k) (hN : k + m ≤ 16) (h1 : RowsOk k (k + m) l D) (h2 : RowsOk k (k + m) l' D') : ∀ p, p < (ol0of l).toNat → objOf k l D p = objOf k l' D' p :=
  h.obj hk (by omega) hN h1.good h1.byt h1.fits h2.byt h2.fits
theorem RowsOk.dots {k m : Nat} {l l' : List Sd} {D D' : Nat → Nat → Nat} (h : SL l l') (hN : k + m ≤ 16) (h1 : RowsOk k (k + m) l D) (h2 : RowsOk k (k + m) l' D') (i : Nat) : (remOf k l D i).same (remOf k l' D' i) := by
  have h3 := h.symm.rowsOk h2
  have hu := fits_uniq (by omega) hN h1.good h1.byt h3.byt h1.fits h3.fits
  have eg := h.g0
  have eo := h.ol0
  refine ⟨by show g0of l = g0of l'; exact eg, rfl, ?_, ?_, fun c hc => ?_⟩
  · show (((ol0of l).toNat : Nat) : Int) = (((ol0of l').toNat : Nat) : Int); rw [eo]
  · show psize (g0of l) k (ol0of l).toNat = psize (g0of l') k (ol0of l').toNat; rw [eg, eo]
  · show gdot (genr (g0of l) k i) (fun j => D j c) k = gdot (genr (g0of l') k i) (fun j => D' j c) k
    rw [← eg]
    exact gdot_congr (fun _ _ => rfl) (fun j hj => hu j hj c hc)
theorem SL.ofMap {α : Type} {l : List α} {f g : α → Sd} (h : ∀ x ∈ l, (f x).same (g x)) : SL (l.map f) (l.map g) := by
  refine ⟨by simp, fun j hj => ?_⟩
  simp only [List.length_map] at hj
  rw [getD_lt (by simpa using hj), getD_lt (by simpa using hj), List.getElem_map, List.getElem_map]
  exact h _ (List.getElem_mem hj)
theorem encL_same {k m g n : Nat} {f f' : Nat → Nat} (h : ∀ p, p < n → f p = f' p) : SL (encL k m g n f) (encL k m g n f') := by
  refine SL.ofMap (fun i _ => ⟨rfl, rfl, rfl, rfl, fun c _ => ?_⟩)
  show pay g k n f i c = pay g k n f' i c
  have e : ∀ j c, sprd k (punit g k n) n f j c = sprd k (punit g k n) n f' j c := fun j c => by
    unfold sprd
    split
    · exact h _ (by assumption)
    · rfl
  unfold pay
  split
  · exact e i c
  · exact gdot_congr (fun _ _ => rfl) (fun j _ => e j c)

/-- THE SAME ANSWER, AND TRAYS THAT READ ALIKE. -/
theorem Spec.det {k m : Nat} {ss ts : List Sd} {o : KOp} {A A' : Ans} {k1 m1 k2 m2 : Nat} {ss' ts' : List Sd} (hk : 1 ≤ k) (hN : k + m ≤ 16) (h : SL ss ts) (h1 : Spec k m ss o A k1 m1 ss') (h2 : Spec k m ts o A' k2 m2 ts') : AnsEq A A' ∧ k1 = k2 ∧ m1 = m2 ∧ SL ss' ts' := by
  have hp := h.pk o.pick
  unfold Spec at h1 h2
  by_cases a0 : o.kind = 0
  · rw [if_pos a0] at h1 h2
    rcases h1 with ⟨g1, e1, s1⟩ | ⟨g1, e1, q1, q2, q3⟩ <;> rcases h2 with ⟨g2, e2, s2⟩ | ⟨g2, e2, r1, r2, r3⟩
    · exact ⟨e1.both e2 (AnsEq.refl _), Stay.both h s1 s2⟩
    · rw [g1] at g2; cases g2
    · rw [g1] at g2; cases g2
    · exact ⟨e1.both e2 (AnsEq.refl _), by omega, by omega, by rw [q3, r3]; exact SL.nil⟩
  rw [if_neg a0] at h1 h2
  by_cases a1 : o.kind = 1 ∨ o.kind = 2
  · rw [if_pos a1] at h1 h2
    rcases h1 with ⟨g1, e1, s1⟩ | ⟨g1, l1, e1, s1⟩ | ⟨g1, l1, e1, q1, q2, q3⟩ <;> rcases h2 with ⟨g2, e2, s2⟩ | ⟨g2, l2, e2, s2⟩ | ⟨g2, l2, e2, r1, r2, r3⟩
    · exact ⟨e1.both e2 (AnsEq.refl _), Stay.both h s1 s2⟩
    · exact absurd g2 g1
    · exact absurd g2 g1
    · exact absurd g1 g2
    · exact ⟨e1.both e2 (AnsEq.refl _), Stay.both h s1 s2⟩
    · omega
    · exact absurd g1 g2
    · omega
    · refine ⟨e1.both e2 (AnsEq.refl _), by rw [q1, r1], by rw [q2, r2], q3.symm.trans (SL.trans ?_ r3)⟩
      by_cases b1 : o.kind = 1
      · rw [if_pos b1, if_pos b1]; exact SL.refl _
      · rw [if_neg b1, if_neg b1, ← h.len]
        by_cases b2 : ss.length + (k + m) ≤ 64
        · rw [if_pos b2, if_pos b2]; exact h.append (SL.refl _)
        · rw [if_neg b2, if_neg b2]; exact h
  rw [if_neg a1] at h1 h2
  by_cases a3 : o.kind = 3
  · rw [if_pos a3] at h1 h2
    obtain ⟨s1, c1⟩ := h1
    obtain ⟨s2, c2⟩ := h2
    refine ⟨?_, Stay.both h s1 s2⟩
    rcases c1 with ⟨i, f1, e1⟩ | ⟨D, f1, e1⟩ <;> rcases c2 with ⟨j, f2, e2⟩ | ⟨D', f2, e2⟩
    · rw [(hp.refu f1).uniq f2] at e1; exact e1.both e2 (AnsEq.refl _)
    · exact ((hp.refu f1).noRows f2).elim
    · exact (f2.noRows (hp.rowsOk f1)).elim
    · exact e1.both e2 ⟨rfl, by show (ol0of _).toNat = (ol0of _).toNat; rw [hp.ol0], fun p hpp => RowsOk.obj hp hk hN f1 f2 p hpp, SL.nil, rfl, fun _ _ => rfl, rfl⟩
  rw [if_neg a3] at h1 h2
  by_cases a4 : o.kind = 4
  · rw [if_pos a4] at h1 h2
    obtain ⟨s1, c1⟩ := h1
    obtain ⟨s2, c2⟩ := h2
    refine ⟨?_, Stay.both h s1 s2⟩
    rcases c1 with ⟨x1, e1⟩ | ⟨x1, c1⟩ <;> rcases c2 with ⟨x2, e2⟩ | ⟨x2, c2⟩
    · exact e1.both e2 (AnsEq.refl _)
    · omega
    · omega
    · rcases c1 with ⟨i, f1, e1⟩ | ⟨D, f1, e1⟩ <;> rcases c2 with ⟨j, f2, e2⟩ | ⟨D', f2, e2⟩
      · rw [(hp.refu f1).uniq f2] at e1; exact e1.both e2 (AnsEq.refl _)
      · exact ((hp.refu f1).noRows f2).elim
      · exact (f2.noRows (hp.rowsOk f1)).elim
      · exact e1.both e2 ⟨rfl, rfl, fun _ _ => rfl, SL.nil.push (RowsOk.dots hp hN f1 f2 _), rfl, fun _ _ => rfl, rfl⟩
  rw [if_neg a4] at h1 h2
  by_cases a5 : o.kind = 5
  · rw [if_pos a5] at h1 h2
    obtain ⟨s1, c1⟩ := h1
    obtain ⟨s2, c2⟩ := h2
    refine ⟨?_, Stay.both h s1 s2⟩
    rcases c1 with ⟨i, f1, e1⟩ | ⟨D, f1, e1⟩ <;> rcases c2 with ⟨j, f2, e2⟩ | ⟨D', f2, e2⟩
    · rw [(hp.refu f1).uniq f2] at e1; exact e1.both e2 (AnsEq.refl _)
    · exact ((hp.refu f1).noRows f2).elim
    · exact (f2.noRows (hp.rowsOk f1)).elim
    · refine e1.both e2 ⟨rfl, rfl, fun _ _ => rfl, ?_, rfl, fun _ _ => rfl, rfl⟩
      show SL ((absL _ (k + m)).map _) ((absL _ (k + m)).map _)
      rw [hp.ixs]
      exact SL.ofMap (fun i _ => RowsOk.dots hp hN f1 f2 i)
  rw [if_neg a5] at h1 h2
  by_cases a6 : o.kind = 6
  · rw [if_pos a6] at h1 h2
    obtain ⟨s1, c1⟩ := h1
    obtain ⟨s2, c2⟩ := h2
    refine ⟨?_, Stay.both h s1 s2⟩
    rcases c1 with ⟨x1, e1⟩ | ⟨x1, c1⟩ <;> rcases c2 with ⟨x2, e2⟩ | ⟨x2, c2⟩
    · exact e1.both e2 (AnsEq.refl _)
    · exact absurd x2 x1
    · exact absurd x1 x2
    · rcases c1 with ⟨i, f1, e1⟩ | ⟨D, f1, e1⟩ <;> rcases c2 with ⟨j, f2, e2⟩ | ⟨D', f2, e2⟩
      · rw [(hp.refu f1).uniq f2] at e1; exact e1.both e2 (AnsEq.refl _)
      · exact ((hp.refu f1).noRows f2).elim
      · exact (f2.noRows (hp.rowsOk f1)).elim
      · refine e1.both e2 ⟨rfl, rfl, fun _ _ => rfl, ?_, rfl, fun _ _ => rfl, rfl⟩
        show SL (encL k m o.gen (ol0of _).toNat _) (encL k m o.gen (ol0of _).toNat _)
        rw [← hp.ol0]
        exact encL_same (fun p hpp => by
          have := RowsOk.obj hp hk hN f1 f2 p hpp
          exact this)
  rw [if_neg a6] at h1 h2
  by_cases a7 : o.kind = 7
  · rw [if_pos a7] at h1 h2
    obtain ⟨s1, c1⟩ := h1
    obtain ⟨s2, c2⟩ := h2
    refine ⟨?_, Stay.both h s1 s2⟩
    rw [← hp.vcls, ← hp.susC] at c2
    rcases c1 with ⟨x1, e1⟩ | ⟨i, li, x1, e1⟩ | ⟨x1, e1⟩ <;> rcases c2 with ⟨x2, e2⟩ | ⟨j, lj, x2, e2⟩ | ⟨x2, e2⟩
    · exact e1.both e2 (AnsEq.refl _)
    · rw [x1] at x2; cases x2
    · rw [x1] at x2; cases x2
    · rw [x1] at x2; cases x2
    · rw [x1] at x2; rw [Option.some.inj x2] at e1; exact e1.both e2 (AnsEq.refl _)
    · rw [x1] at x2; have := Option.some.inj x2; omega
    · rw [x1] at x2; cases x2
    · rw [x1] at x2; have := Option.some.inj x2; omega
    · exact e1.both e2 (AnsEq.refl _)
  rw [if_neg a7] at h1 h2
  by_cases a8 : o.kind = 8
  · rw [if_pos a8] at h1 h2
    obtain ⟨e1, q1, q2, q3⟩ := h1
    obtain ⟨e2, r1, r2, r3⟩ := h2
    refine ⟨e1.both e2 ⟨rfl, rfl, fun _ _ => rfl, SL.nil, rfl, fun _ _ => rfl, by show (ss.length : Int) = (ts.length : Int); rw [h.len]⟩, by rw [q1, r1], by rw [q2, r2], q3.symm.trans (SL.trans ?_ r3)⟩
    by_cases b : ss = []
    · have b' : ts = [] := by have := h.len; rw [b] at this; exact List.length_eq_zero_iff.1 this.symm
      rw [if_pos b, if_pos b']; exact SL.nil
    · have b' : ts ≠ [] := fun e => b (by have := h.len; rw [e] at this; exact List.length_eq_zero_iff.1 this)
      rw [if_neg b, if_neg b', ← h.len]
      exact h.set _ (tampS_same (h.eq _ (place_lt _ _ (List.length_pos_iff.2 b))) o)
  rw [if_neg a8] at h1 h2
  by_cases a9 : o.kind = 9
  · rw [if_pos a9] at h1 h2
    obtain ⟨s1, c1⟩ := h1
    obtain ⟨s2, c2⟩ := h2
    refine ⟨?_, Stay.both h s1 s2⟩
    rcases c1 with ⟨x1, e1⟩ | ⟨x1, y1, e1⟩ | ⟨x1, y1, z1, e1⟩ <;> rcases c2 with ⟨x2, e2⟩ | ⟨x2, y2, e2⟩ | ⟨x2, y2, z2, e2⟩
    · exact e1.both e2 (AnsEq.refl _)
    · exact absurd x2 x1
    · exact absurd x2 x1
    · exact absurd x1 x2
    · exact e1.both e2 (AnsEq.refl _)
    · omega
    · exact absurd x1 x2
    · omega
    · exact e1.both e2 (AnsEq.refl _)
  rw [if_neg a9] at h1 h2
  exact ⟨h1.1.both h2.1 (AnsEq.refl _), Stay.both h h1.2 h2.2⟩
end Go.Proofs.Qxb6500697aDoor
