/-
  A REGION THAT DRAWS ITS ORDER: A QUIET PART (reads and quiet calls) THAT EVERY WRITER WAITS FOR, THEN THE WRITERS. One walk of the quiet part serves every order.
  T: the operations that wait for the gate g (the writers and what stands between); all others, but those already taken, lead to g.
-/
import Derived.BigQuiet
namespace Go.Proofs.Qxb6500698aGreatDoor
open Go Go.RowKit

section
variable {P : Program} {ops : Array Oper} {md : Region.Mode} {C : World → Prop}

/-- Whatever order the quiet part goes in, from here to its end LT. -/
def wpM (P : Program) (md : Region.Mode) (ops : Array Oper) (C : World → Prop) (LT : Array Bool) (R : Act → Prop) : Nat → Array Bool → Act → Prop
  | 0, listed, a => listed = LT ∧ R a
  | k + 1, listed, a => Region.ready md ops listed ≠ [] ∧ ∀ i ∈ Region.ready md ops listed, qOp P ops C i (wpM P md ops C LT R k (listed.setIfInBounds i true)) a

theorem wpAny_of_M {LT : Array Bool} {R : Act → Prop} {Q : Exit → Act → World → Prop} {f : Nat} (hR : ∀ a w, C w → R a → wpAny P md ops Q f LT a w) :
    ∀ (k : Nat) (listed : Array Bool) (a : Act) (w : World), C w → wpM P md ops C LT R k listed a → wpAny P md ops Q (f + k) listed a w
  | 0, _, _, _, hw, h => by obtain ⟨rfl, h2⟩ := h; exact hR _ _ hw h2
  | k + 1, _, _, _, hw, h => ⟨fun h0 => absurd h0 h.1, fun i hi => wpOp_of_qOp hw (fun a' w' hw' => wpAny_of_M hR k _ a' w' hw') (h.2 i hi)⟩

/-- What holds while the quiet part goes on. -/
structure MInv (md : Region.Mode) (ops : Array Oper) (T : List Nat) (g : Nat) (start LT listed : Array Bool) : Prop where
  size : listed.size = ops.size
  closed : ∀ j oj, ops[j]? = some oj → listed.getD j false = true → ∀ e ∈ oj.after, Region.binds md e = true → listed.getD e.on false = true
  tail : ∀ t ∈ T, listed.getD t true = false
  gate : listed.getD g false = true → ∀ i, i < ops.size → i ∉ T → listed.getD i false = true
  grown : ∀ i, i < ops.size → listed.getD i false = false → start.getD i false = false

/-- What the region's edges must say. -/
structure MEdges (md : Region.Mode) (ops : Array Oper) (T : List Nat) (g : Nat) (start LT : Array Bool) : Prop where
  gT : g ∉ T
  gs : g < ops.size
  ts : ∀ t ∈ T, t < ops.size
  wait : ∀ t ∈ T, ∀ ot, ops[t]? = some ot → ∃ e ∈ ot.after, Region.binds md e = true ∧ (e.on = g ∨ e.on ∈ T)
  lt : ∀ i, i < ops.size → (LT.getD i false = true ↔ i ∉ T)
  chain : ∀ i, i < ops.size → start.getD i false = false → i ∉ T → i ≠ g → ∃ s os, ops[s]? = some os ∧ i < s ∧ s ∉ T ∧ ∃ e ∈ os.after, Region.binds md e = true ∧ e.on = i

theorem getD_tf {l : Array Bool} {i : Nat} (h : i < l.size) : l.getD i true = l.getD i false := by simp [Array.getD, h]

theorem ready_lt {j : Nat} {listed : Array Bool} (h : j ∈ Region.ready md ops listed) : j < ops.size := by
  unfold Region.ready at h
  simp at h
  exact h.1

theorem ready_un {j : Nat} {listed : Array Bool} (h : j ∈ Region.ready md ops listed) : listed.getD j true = false := (mem_ready.1 h).1

theorem not_ready {T : List Nat} {g : Nat} {start LT listed : Array Bool} (E : MEdges md ops T g start LT) (I : MInv md ops T g start LT listed) :
    ∀ (n i : Nat), ops.size ≤ i + n → i < ops.size → listed.getD i false = false → i ∉ T → i ≠ g → g ∉ Region.ready md ops listed
  | 0, i, hn, hi, _, _, _ => by omega
  | n + 1, i, hn, hi, hu, hT, hg => by
    obtain ⟨s, os, hs, his, hsT, e, he, hb, hon⟩ := E.chain i hi (I.grown i hi hu) hT hg
    have hsu : listed.getD s false = false := by
      cases h : listed.getD s false with
      | false => rfl
      | true => have := I.closed s os hs h e he hb; rw [hon, hu] at this; cases this
    have hss : s < ops.size := (Array.getElem?_eq_some_iff.1 hs).1
    by_cases h : s = g
    · subst h
      intro hr
      obtain ⟨_, o2, ho2, hall⟩ := mem_ready.1 hr
      rw [hs] at ho2
      cases ho2
      have := hall e he hb
      rw [hon, hu] at this
      cases this
    · exact not_ready E I n s (by omega) hss hsu hsT h

theorem tail_not_ready {T : List Nat} {g : Nat} {start LT listed : Array Bool} (E : MEdges md ops T g start LT) (I : MInv md ops T g start LT listed) (hg : listed.getD g false = false) {t : Nat} (ht : t ∈ T) :
    t ∉ Region.ready md ops listed := by
  intro hr
  obtain ⟨_, ot, hot, hall⟩ := mem_ready.1 hr
  obtain ⟨e, he, hb, hon⟩ := E.wait t ht ot hot
  have := hall e he hb
  rcases hon with hon | hon
  · rw [hon, hg] at this; cases this
  · have h1 := I.tail _ hon
    rw [getD_tf (by rw [I.size]; exact E.ts _ hon), this] at h1
    cases h1

theorem set_getD {listed : Array Bool} {i j : Nat} (hj : j < listed.size) : (listed.setIfInBounds j true).getD i false = if i = j then true else listed.getD i false := by
  by_cases h : i = j
  · subst h; simp [Array.getD, hj]
  · rw [if_neg h, getD_set_ne false (Ne.symm h)]

/-- The invariant bears one more operation of the quiet part. -/
theorem MInv.step {T : List Nat} {g : Nat} {start LT listed : Array Bool} (E : MEdges md ops T g start LT) (I : MInv md ops T g start LT listed) {j : Nat} (hj : j ∈ Region.ready md ops listed) (hT : j ∉ T) :
    MInv md ops T g start LT (listed.setIfInBounds j true) := by
  have hjs := ready_lt hj
  have hsz := I.size
  refine ⟨by rw [Array.size_setIfInBounds]; exact hsz, ?_, ?_, ?_, ?_⟩
  · intro k ok hk hl e he hb
    rw [set_getD (by omega)]
    split
    · rfl
    rw [set_getD (by omega)] at hl
    by_cases h : k = j
    · subst h
      obtain ⟨_, o2, ho2, hall⟩ := mem_ready.1 hj
      rw [hk] at ho2
      cases ho2
      exact hall e he hb
    · rw [if_neg h] at hl
      exact I.closed k ok hk hl e he hb
  · intro t ht
    have hne : j ≠ t := fun h => hT (h ▸ ht)
    rw [getD_set_ne true hne]
    exact I.tail t ht
  · intro hg i hi hiT
    rw [set_getD (by omega)] at hg ⊢
    split
    · rfl
    rename_i hij
    by_cases h : g = j
    · subst h
      cases hu : listed.getD i false with
      | true => rfl
      | false => exact absurd hj (not_ready E I ops.size i (by omega) hi hu hiT hij)
    · rw [if_neg h] at hg
      exact I.gate hg i hi hiT
  · intro i hi hu
    rw [set_getD (by omega)] at hu
    split at hu
    · cases hu
    · exact I.grown i hi hu

theorem wpM_first {T : List Nat} {g : Nat} {start LT : Array Bool} {R : Act → Prop} (E : MEdges md ops T g start LT) {i : Nat} {oi : Oper} {v : Value} (hi : ops[i]? = some oi) (hiT : i ∉ T)
    (hsel : ∀ (j : Nat) (o : Oper) cs b, ops[j]? = some o → o.op ≠ .select cs b) :
    ∀ (k : Nat) (listed : Array Bool) (a : Act), MInv md ops T g start LT listed →
      (∀ j oj, ops[j]? = some oj → j ≠ i → listed.getD j true = false → (∀ e ∈ oj.after, Region.binds md e = true → e.on ≠ i) → oi.apart ops oj = true) →
      i ∈ Region.ready md ops listed → YieldsIn P ops C oi v a →
      wpM P md ops C LT R k (listed.setIfInBounds i true) (a.put oi.dst v) → wpM P md ops C LT R (k + 1) listed a := by
  intro k
  induction k with
  | zero =>
    intro listed a I _ hr hy H
    have his := ready_lt hr
    have hiu := ready_un hr
    rw [getD_tf (by rw [I.size]; exact his)] at hiu
    have hgu : listed.getD g false = false := by
      cases h : listed.getD g false with
      | false => rfl
      | true => have := I.gate h i his hiT; rw [hiu] at this; cases this
    refine ⟨fun h => (by rw [h] at hr; cases hr), fun j hj => ?_⟩
    by_cases hji : j = i
    · subst hji; exact hy.qOp hi H
    · exfalso
      have hjs := ready_lt hj
      have hju := ready_un hj
      have h1 : LT.getD j false = false := by
        rw [← H.1, getD_set_ne false (Ne.symm hji), ← getD_tf (by rw [I.size]; exact hjs)]; exact hju
      have hjT : j ∈ T := by
        apply Classical.byContradiction
        intro hn
        have := (E.lt j hjs).2 hn
        rw [h1] at this
        cases this
      exact tail_not_ready E I hgu hjT hj
  | succ k ih =>
    intro listed a I hfree hr hy H
    have his := ready_lt hr
    have hiu := ready_un hr
    rw [getD_tf (by rw [I.size]; exact his)] at hiu
    have hgu : listed.getD g false = false := by
      cases h : listed.getD g false with
      | false => rfl
      | true => have := I.gate h i his hiT; rw [hiu] at this; cases this
    refine ⟨fun h => (by rw [h] at hr; cases hr), fun j hj => ?_⟩
    by_cases hji : j = i
    · subst hji; exact hy.qOp hi H
    · have hjT : j ∉ T := fun h => tail_not_ready E I hgu h hj
      have h1 := H.2 j (ready_mono hj hji)
      obtain ⟨hjun, oj, hoj, hall⟩ := mem_ready.1 hj
      have hnot : ∀ e ∈ oj.after, Region.binds md e = true → e.on ≠ i := fun e he hb heq => by
        have h1 := hall e he hb
        rw [heq, hiu] at h1
        cases h1
      have h2 := qOp_put hoj (hfree j oj hoj hji hjun hnot) (fun cs b => hsel i oi cs b hi) (fun cs b => hsel j oj cs b hoj) hy h1
      refine qOp_mono (fun a' h3 => ih (listed.setIfInBounds j true) a' (I.step E hj hjT) ?_ (ready_mono hr (Ne.symm hji)) h3.1 ?_) h2
      · intro k' ok hk hki hun hno
        refine hfree k' ok hk hki ?_ hno
        by_cases hjk : j = k'
        · subst hjk; exact hjun
        · rw [getD_set_ne true hjk] at hun; exact hun
      · rw [Array.setIfInBounds_comm _ _ hji]
        exact h3.2

/-- The quiet part by its indices: each may be taken first where it stands. -/
def lexIdx (md : Region.Mode) (ops : Array Oper) (T : List Nat) (LT : Array Bool) : List Nat → Array Bool → Bool
  | [], listed => listed == LT
  | i :: is, listed => (Region.ready md ops listed).contains i && Region.free md ops listed i && !T.contains i && lexIdx md ops T LT is (listed.setIfInBounds i true)

theorem wpM_lex {T : List Nat} {g : Nat} {start LT : Array Bool} {R : Act → Prop} (E : MEdges md ops T g start LT) (hs : Region.noSelect ops = true) :
    ∀ (idxs : List Nat) (l : List Oper) (listed : Array Bool) (a : Act), MInv md ops T g start LT listed → idxs.map (fun i => ops[i]?) = l.map some → lexIdx md ops T LT idxs listed = true →
      wpQuiet P ops C R l a → wpM P md ops C LT R idxs.length listed a
  | [], [], _, _, _, _, hB, h => ⟨by simpa [lexIdx] using hB, h⟩
  | [], _ :: _, _, _, _, hm, _, _ => by simp at hm
  | _ :: _, [], _, _, _, hm, _, _ => by simp at hm
  | i :: is, o :: l, listed, a, I, hm, hB, h => by
    simp only [List.map_cons, List.cons.injEq] at hm
    obtain ⟨h0, hm⟩ := hm
    simp only [lexIdx, Bool.and_eq_true] at hB
    obtain ⟨⟨⟨hr, hf⟩, hT⟩, hB'⟩ := hB
    have hr' : i ∈ Region.ready md ops listed := by simpa using hr
    have hT' : i ∉ T := by simpa using hT
    have hst : qOp P ops C i (wpQuiet P ops C R l) a := by unfold qOp; simp only [h0]; exact h
    obtain ⟨v, hy, hK⟩ := yieldsIn_of_qOp h0 hst
    exact wpM_first E h0 hT' (Region.noSelect_spec hs) is.length listed a I (Region.free_spec h0 hf) hr' hy
      (wpM_lex E hs is l _ _ (I.step E hr' hT') hm hB' hK)

/-- The checks as one Bool. -/
def splitB (md : Region.Mode) (ops : Array Oper) (T : List Nat) (g : Nat) (start LT : Array Bool) : Bool :=
  start.size == ops.size && !T.contains g && decide (g < ops.size) && T.all (fun t => decide (t < ops.size)) && !start.getD g false &&
  (List.range ops.size).all fun j =>
    (!start.getD j false || ((ops[j]?).map (·.after.all fun e => !Region.binds md e || start.getD e.on false)).getD true) &&
    (!T.contains j || (!start.getD j true && ((ops[j]?).map (·.after.any fun e => Region.binds md e && (e.on == g || T.contains e.on))).getD true)) &&
    (LT.getD j false == !T.contains j) &&
    (start.getD j false || T.contains j || j == g || (List.range ops.size).any fun s => decide (j < s) && !T.contains s && ((ops[s]?).map (·.after.any fun e => Region.binds md e && e.on == j)).getD false)

theorem splitB_spec {T : List Nat} {g : Nat} {start LT : Array Bool} (h : splitB md ops T g start LT = true) : MEdges md ops T g start LT ∧ MInv md ops T g start LT start := by
  simp only [splitB, Bool.and_eq_true, beq_iff_eq, Bool.not_eq_true', decide_eq_true_eq, List.all_eq_true, List.mem_range] at h
  obtain ⟨⟨⟨⟨⟨hsz, hgT⟩, hgs⟩, hts⟩, hgu⟩, hall⟩ := h
  refine ⟨⟨by simpa using hgT, hgs, hts, ?_, ?_, ?_⟩, ⟨hsz, ?_, ?_, ?_, fun _ _ h => h⟩⟩
  · intro t ht ot hot
    have h1 := (hall t (hts t ht)).1.1.2
    simp [ht, hot] at h1
    obtain ⟨_, k, hk, hb, hon⟩ := h1
    exact ⟨ot.after[k], Array.getElem_mem hk, hb, hon⟩
  · intro i hi
    have h1 := (hall i hi).1.2
    rw [h1]
    simp
  · intro i hi hu hT hg
    have h1 := (hall i hi).2
    simp [hu, hT, hg] at h1
    obtain ⟨s, hs, ⟨his, hsT⟩, h2⟩ := h1
    have : ops[s]? = some ops[s] := by simp [hs]
    rw [this] at h2
    simp at h2
    obtain ⟨k, hk, hb, hon⟩ := h2
    exact ⟨s, ops[s], this, his, hsT, ops[s].after[k], Array.getElem_mem hk, hb, hon⟩
  · intro j oj hj hl e he hb
    have hjs : j < ops.size := (Array.getElem?_eq_some_iff.1 hj).1
    have h1 := (hall j hjs).1.1.1
    rw [hl, hj] at h1
    simp at h1
    obtain ⟨k, hk, rfl⟩ := Array.mem_iff_getElem.1 he
    rcases h1 k hk with h2 | h2
    · rw [hb] at h2; cases h2
    · simpa using h2
  · intro t ht
    have h1 := (hall t (hts t ht)).1.1.2
    simp [ht] at h1
    simpa using h1.1
  · intro hg
    rw [hgu] at hg
    cases hg

/-- **THE LAW**: the quiet part from 'start' on in the one order 'idxs'; what is left is asked in every world of the class. -/
theorem wpAny_split {Q : Exit → Act → World → Prop} {f : Nat} (T : List Nat) (g : Nat) (start LT : Array Bool) (idxs : List Nat) (l : List Oper) {a : Act} {w : World} (hB : splitB md ops T g start LT = true) (hs : Region.noSelect ops = true)
    (hm : idxs.map (fun i => ops[i]?) = l.map some) (hx : lexIdx md ops T LT idxs start = true) (hC : C w)
    (h : wpQuiet P ops C (fun a' => ∀ w', C w' → wpAny P md ops Q f LT a' w') l a) : wpAny P md ops Q (f + idxs.length) start a w := by
  obtain ⟨E, I⟩ := splitB_spec hB
  exact wpAny_of_M (fun a' w' hw h => h w' hw) _ _ _ _ hC (wpM_lex E hs idxs l start a I hm hx h)

/-- Operations that yield these values IN WHATEVER WORLD, one after the other. -/
def wpGive (P : Program) (ops : Array Oper) (R : Act → Prop) : List (Oper × Value) → Act → Prop
  | [], a => R a
  | (o, v) :: r, a => (Region.wanted o (yielded ops a.tmps) = true ∧ ∀ w, (execOp a.eval o).run P w = .ok (.value v) w) ∧ wpGive P ops R r (a.put o.dst v)

def lexTake (md : Region.Mode) (ops : Array Oper) : List Nat → Array Bool → Array Bool → Bool
  | [], listed, fin => listed == fin
  | i :: is, listed, fin => (Region.ready md ops listed).contains i && Region.free md ops listed i && lexTake md ops is (listed.setIfInBounds i true) fin

theorem wpAny_give {Q : Exit → Act → World → Prop} {f : Nat} {fin : Array Bool} {w : World} (hs : Region.noSelect ops = true) (hQ : ∀ c a d v w, Q (.panic c) (Act.put a d v) w → Q (.panic c) a w) :
    ∀ (idxs : List Nat) (l : List (Oper × Value)) (listed : Array Bool) (a : Act), idxs.map (fun i => ops[i]?) = l.map (fun x => some x.1) → lexTake md ops idxs listed fin = true →
      wpGive P ops (fun a' => wpAny P md ops Q f fin a' w) l a → wpAny P md ops Q (f + idxs.length) listed a w
  | [], [], listed, _, _, hB, h => by
    have : listed = fin := by simpa [lexTake] using hB
    subst this; exact h
  | [], _ :: _, _, _, hm, _, _ => by simp at hm
  | _ :: _, [], _, _, hm, _, _ => by simp at hm
  | i :: is, (o, v) :: l, listed, a, hm, hB, h => by
    simp only [List.map_cons, List.cons.injEq] at hm
    simp only [lexTake, Bool.and_eq_true] at hB
    exact wpAny_take (fuel := f + is.length) hm.1 hs hB.1.2 hB.1.1 (fun c a w => hQ c a _ _ w) (.inl h.1) (wpAny_give hs hQ is l _ _ hm.2 hB.2 h.2)

theorem wpGive_mono {R R' : Act → Prop} (hR : ∀ a, R a → R' a) : ∀ (l : List (Oper × Value)) (a : Act), wpGive P ops R l a → wpGive P ops R' l a
  | [], _, h => hR _ h
  | (_, _) :: l, _, h => ⟨h.1, wpGive_mono hR l _ h.2⟩

theorem wpQuiet_mono {R R' : Act → Prop} (hR : ∀ a, R a → R' a) : ∀ (l : List Oper) (a : Act), wpQuiet P ops C R l a → wpQuiet P ops C R' l a
  | [], _, h => hR _ h
  | o :: l, a, h => by
    unfold wpQuiet at h ⊢
    split
    · rename_i hw
      rw [if_pos hw] at h
      exact Oper.quiet_mono (fun a' h' => wpQuiet_mono hR l a' h') h
    · rename_i hw
      rw [if_neg hw] at h
      exact wpQuiet_mono hR l _ h

theorem wp_of_run_skip {Q : Exit → Act → World → Prop} {o : Oper} {a : Act} {w w' : World} {K : Act → World → Prop} (h : (execOp a.eval o).run P w = .ok .skip w') (hk : K (a.put o.dst undef) w') : Oper.wp P o a w K Q := by
  unfold Oper.wp; rw [h]; exact hk

/-- All the checks of 'region_split'. -/
def splitAll (ops : Array Oper) (pre mid post post2 : List Nat) (T : List Nat) (g s1 s2 : Nat) (L1 L2 L3 L4 : Array Bool) : Bool :=
  Region.noSelect ops && lexTake .any ops pre (Array.replicate ops.size false) L1 && splitB .any ops T g L1 L2 && lexIdx .any ops T L2 mid L1 && lexTake .any ops post L2 L3 &&
  decide (Region.ready .any ops L3 = [s1]) && lexTake .any ops post2 (L3.setIfInBounds s1 true) L4 && decide (Region.ready .any ops L4 = [s2]) && decide (Region.ready .any ops (L4.setIfInBounds s2 true) = []) &&
  decide (ops.size = ((1 + post2.length + 1 + post.length) + mid.length) + pre.length)

/-- The same by numbers: operation i, whose slot is d, yields v in whatever world. -/
def wpGiveI (P : Program) (l : List Oper) (R : Act → Prop) : List (Nat × Nat × Value) → Act → Prop
  | [], a => R a
  | (i, d, v) :: r, a => (∃ o, l[i]? = some o ∧ o.dst = some d ∧ Region.wanted o (yielded l.toArray a.tmps) = true ∧ ∀ w, (execOp a.eval o).run P w = .ok (.value v) w) ∧ wpGiveI P l R r (a.put (some d) v)

theorem wpGiveI_step {l : List Oper} {R : Act → Prop} {i d : Nat} {v : Value} {r : List (Nat × Nat × Value)} {a : Act} (o : Oper) (ho : l[i]? = some o) (hd : o.dst = some d) (hw : Region.wanted o (yielded l.toArray a.tmps) = true)
    (hv : ∀ w, (execOp a.eval o).run P w = .ok (.value v) w) (h : wpGiveI P l R r (a.put (some d) v)) : wpGiveI P l R ((i, d, v) :: r) a := ⟨⟨o, ho, hd, hw, hv⟩, h⟩
theorem wpGiveI_nil {l : List Oper} {R : Act → Prop} {a : Act} (h : R a) : wpGiveI P l R [] a := h

theorem wpGive_of_I {l : List Oper} {R : Act → Prop} : ∀ (s : List (Nat × Nat × Value)) (a : Act), wpGiveI P l R s a → ∃ vs : List (Oper × Value), (s.map (·.1)).map (fun i => l.toArray[i]?) = vs.map (fun x => some x.1) ∧ wpGive P l.toArray R vs a
  | [], a, h => ⟨[], rfl, h⟩
  | (i, d, v) :: r, a, h => by
    obtain ⟨⟨o, ho, hd, hw, hv⟩, h2⟩ := h
    obtain ⟨vs, hm, hg⟩ := wpGive_of_I r _ h2
    refine ⟨(o, v) :: vs, by simp [ho]; simpa using hm, ⟨hw, hv⟩, ?_⟩
    rw [hd]; exact hg

theorem drop_take_map (l : List Oper) (n m : Nat) (h : n + m ≤ l.length) : (List.range' n m).map (fun i => l.toArray[i]?) = ((l.drop n).take m).map some := by
  apply List.ext_getElem?
  intro i
  by_cases hi : i < m
  · simp [hi, List.getElem?_drop]
    have : n + i < l.length := by omega
    simp [this]
  · rw [List.getElem?_eq_none (by simp; omega), List.getElem?_eq_none (by simp; omega)]

/-- **'region_split' for a region that is written out.** np: how many moves stand ahead; nm: how long the quiet part behind them is. -/
theorem region_split_l {Q : Exit → Act → World → Prop} {id : Nat} {l : List Oper} {a : Act} {w : World} (pre : List (Nat × Nat × Value)) (np nm : Nat) (post post2 : List (Nat × Nat × Value)) (T : List Nat) (g s1 s2 : Nat) (L1 L2 L3 L4 : Array Bool)
    (hm : P.follows .mixedOrders = true) (hB : (splitAll l.toArray (pre.map (·.1)) (List.range' np nm) (post.map (·.1)) (post2.map (·.1)) T g s1 s2 L1 L2 L3 L4 && decide (np + nm ≤ l.length)) = true) (hQ : ∀ c a d v w, Q (.panic c) (Act.put a d v) w → Q (.panic c) a w)
    (hC : C { w with drawn := w.drawn + 1 })
    (h : wpGiveI P l (fun a1 => wpQuiet P l.toArray C (fun a2 => ∀ w', C w' → wpGiveI P l (fun a3 => ∃ o1, l[s1]? = some o1 ∧ o1.guard = none ∧ Oper.wp P o1 a3 w' (fun a4 w4 => wpGiveI P l (fun a5 => ∃ o2, l[s2]? = some o2 ∧ o2.guard = none ∧ Oper.wp P o2 a5 w4 (Q .normal) Q) post2 a4) Q) post a2) ((l.drop np).take nm) a1) pre a) : (Code.region id l.toArray true).wp P Q a w := by
  rw [Bool.and_eq_true, decide_eq_true_eq] at hB
  obtain ⟨hB, hlen⟩ := hB
  simp only [splitAll, Bool.and_eq_true, decide_eq_true_eq] at hB
  obtain ⟨⟨⟨⟨⟨⟨⟨⟨⟨hs, hb1⟩, hb2⟩, hb3⟩, hb4⟩, hr1⟩, hb5⟩, hr2⟩, hr3⟩, hsz⟩ := hB
  refine wp_region_any hm ?_
  rw [hsz]
  rw [hsz] at hb1
  obtain ⟨preV, hp1, hp2⟩ := wpGive_of_I pre a h
  refine wpAny_give hs hQ _ preV _ a hp1 hb1 ?_
  refine wpGive_mono ?_ preV a hp2
  intro a1 h
  refine wpAny_split (C := C) (f := 1 + (post2.map (·.1)).length + 1 + (post.map (·.1)).length) T g L1 L2 (List.range' np nm) _ hb2 hs (drop_take_map l np nm hlen) hb3 hC ?_
  refine wpQuiet_mono ?_ _ a1 h
  intro a2 h w' hw'
  obtain ⟨postV, hq1, hq2⟩ := wpGive_of_I post a2 (h w' hw')
  refine wpAny_give hs hQ _ postV _ a2 hq1 hb4 ?_
  refine wpGive_mono ?_ postV a2 hq2
  rintro a3 ⟨o1, ho1, hw1, hst1⟩
  have hwant : ∀ (o : Oper) (a : Act), o.guard = none → Region.wanted o (yielded l.toArray a.tmps) = true := fun o a hg => by simp [Region.wanted, hg]
  refine wpAny_all hr1 (by simp) fun i hi => ?_
  simp only [List.mem_singleton] at hi
  subst hi
  refine wpOp_step (o := o1) (by simpa using ho1) fun K hK => ?_
  rw [if_pos (hwant _ _ hw1)]
  refine Oper.wp_mono ?_ hst1
  intro a4 w4 hst2
  refine hK _ _ ?_
  obtain ⟨post2V, hq3, hq4⟩ := wpGive_of_I post2 a4 hst2
  refine wpAny_give hs hQ _ post2V _ a4 hq3 hb5 ?_
  refine wpGive_mono ?_ post2V a4 hq4
  rintro a5 ⟨o2, ho2, hw2, hst3⟩
  refine wpAny_all hr2 (by simp) fun i hi => ?_
  simp only [List.mem_singleton] at hi
  subst hi
  refine wpOp_step (o := o2) (by simpa using ho2) fun K hK => ?_
  rw [if_pos (hwant _ _ hw2)]
  refine Oper.wp_mono ?_ hst3
  intro a6 w6 hq
  exact hK _ _ (wpAny_done hr3 hq _)

end
end Go.Proofs.Qxb6500698aGreatDoor
