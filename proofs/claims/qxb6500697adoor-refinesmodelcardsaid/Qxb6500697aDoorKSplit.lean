/-
  A REGION THAT DRAWS ITS ORDER: ALL BUT ITS LAST OPERATION ONLY READ, AND THE LAST (a store) WAITS FOR ALL. One walk of the quiet part serves every order.
-/
import Derived.BigQuiet
namespace Go.Proofs.Qxb6500697aDoor
open Go Go.RowKit

section
variable {P : Program} {ops : Array Oper} {md : Region.Mode} {C : World → Prop}

/-- Whatever order the quiet part goes in, from here to its end LT. -/
def wpL (P : Program) (md : Region.Mode) (ops : Array Oper) (C : World → Prop) (LT : Array Bool) (R : Act → Prop) : Nat → Array Bool → Act → Prop
  | 0, listed, a => listed = LT ∧ R a
  | k + 1, listed, a => Region.ready md ops listed ≠ [] ∧ ∀ i ∈ Region.ready md ops listed, qOp P ops C i (wpL P md ops C LT R k (listed.setIfInBounds i true)) a

theorem wpAny_of_L {LT : Array Bool} {R : Act → Prop} {Q : Exit → Act → World → Prop} {f : Nat} (hR : ∀ a w, C w → R a → wpAny P md ops Q f LT a w) :
    ∀ (k : Nat) (listed : Array Bool) (a : Act) (w : World), C w → wpL P md ops C LT R k listed a → wpAny P md ops Q (f + k) listed a w
  | 0, _, _, _, hw, h => by obtain ⟨rfl, h2⟩ := h; exact hR _ _ hw h2
  | k + 1, _, _, _, hw, h => ⟨fun h0 => absurd h0 h.1, fun i hi => wpOp_of_qOp hw (fun a' w' hw' => wpAny_of_L hR k _ a' w' hw') (h.2 i hi)⟩

/-- The last operation s waits for every other. -/
structure LEdges (md : Region.Mode) (ops : Array Oper) (s : Nat) (LT : Array Bool) : Prop where
  lt : ∀ i, i < ops.size → (LT.getD i false = true ↔ i ≠ s)
  wait : ∀ i, i < ops.size → i ≠ s → ∃ os, ops[s]? = some os ∧ ∃ e ∈ os.after, Region.binds md e = true ∧ e.on = i

theorem lgetD_tf {l : Array Bool} {i : Nat} (h : i < l.size) : l.getD i true = l.getD i false := by simp [Array.getD, h]
theorem lready_lt {j : Nat} {listed : Array Bool} (h : j ∈ Region.ready md ops listed) : j < ops.size := by
  unfold Region.ready at h
  simp at h
  exact h.1
theorem lready_un {j : Nat} {listed : Array Bool} (h : j ∈ Region.ready md ops listed) : listed.getD j true = false := (mem_ready.1 h).1

theorem last_not_ready {s : Nat} {LT listed : Array Bool} (E : LEdges md ops s LT) {i : Nat} (hi : i < ops.size) (his : i ≠ s) (hu : listed.getD i false = false) : s ∉ Region.ready md ops listed := by
  intro hr
  obtain ⟨_, o2, ho2, hall⟩ := mem_ready.1 hr
  obtain ⟨os, hos, e, he, hb, hon⟩ := E.wait i hi his
  rw [hos] at ho2
  cases ho2
  have := hall e he hb
  rw [hon, hu] at this
  cases this

theorem wpL_first {s : Nat} {LT : Array Bool} {R : Act → Prop} (E : LEdges md ops s LT) {i : Nat} {oi : Oper} {v : Value} (hi : ops[i]? = some oi) (his : i ≠ s)
    (hsel : ∀ (j : Nat) (o : Oper) cs b, ops[j]? = some o → o.op ≠ .select cs b) :
    ∀ (k : Nat) (listed : Array Bool) (a : Act), listed.size = ops.size →
      (∀ j oj, ops[j]? = some oj → j ≠ i → listed.getD j true = false → (∀ e ∈ oj.after, Region.binds md e = true → e.on ≠ i) → oi.apart ops oj = true) →
      i ∈ Region.ready md ops listed → YieldsIn P ops C oi v a →
      wpL P md ops C LT R k (listed.setIfInBounds i true) (a.put oi.dst v) → wpL P md ops C LT R (k + 1) listed a := by
  intro k
  induction k with
  | zero =>
    intro listed a I _ hr hy H
    have hil := lready_lt hr
    have hiu := lready_un hr
    rw [lgetD_tf (by rw [I]; exact hil)] at hiu
    refine ⟨fun h => (by rw [h] at hr; cases hr), fun j hj => ?_⟩
    by_cases hji : j = i
    · subst hji; exact hy.qOp hi H
    · exfalso
      have hjs := lready_lt hj
      have hju := lready_un hj
      have h1 : LT.getD j false = false := by
        rw [← H.1, getD_set_ne false (Ne.symm hji), ← lgetD_tf (by rw [I]; exact hjs)]; exact hju
      have hjT : j = s := by
        apply Classical.byContradiction
        intro hn
        have := (E.lt j hjs).2 hn
        rw [h1] at this
        cases this
      subst hjT
      exact last_not_ready E hil his hiu hj
  | succ k ih =>
    intro listed a I hfree hr hy H
    have hil := lready_lt hr
    have hiu := lready_un hr
    rw [lgetD_tf (by rw [I]; exact hil)] at hiu
    refine ⟨fun h => (by rw [h] at hr; cases hr), fun j hj => ?_⟩
    by_cases hji : j = i
    · subst hji; exact hy.qOp hi H
    · have h1 := H.2 j (ready_mono hj hji)
      obtain ⟨hjun, oj, hoj, hall⟩ := mem_ready.1 hj
      have hnot : ∀ e ∈ oj.after, Region.binds md e = true → e.on ≠ i := fun e he hb heq => by
        have h1 := hall e he hb
        rw [heq, hiu] at h1
        cases h1
      have h2 := qOp_put hoj (hfree j oj hoj hji hjun hnot) (fun cs b => hsel i oi cs b hi) (fun cs b => hsel j oj cs b hoj) hy h1
      refine qOp_mono (fun a' h3 => ih (listed.setIfInBounds j true) a' (by rw [Array.size_setIfInBounds]; exact I) ?_ (ready_mono hr (Ne.symm hji)) h3.1 ?_) h2
      · intro k' ok hk hki hun hno
        refine hfree k' ok hk hki ?_ hno
        by_cases hjk : j = k'
        · subst hjk; exact hjun
        · rw [getD_set_ne true hjk] at hun; exact hun
      · rw [Array.setIfInBounds_comm _ _ hji]
        exact h3.2

def llex (md : Region.Mode) (ops : Array Oper) (s : Nat) (LT : Array Bool) : List Nat → Array Bool → Bool
  | [], listed => listed == LT
  | i :: is, listed => (Region.ready md ops listed).contains i && Region.free md ops listed i && !(i == s) && llex md ops s LT is (listed.setIfInBounds i true)

theorem wpL_lex {s : Nat} {LT : Array Bool} {R : Act → Prop} (E : LEdges md ops s LT) (hs : Region.noSelect ops = true) :
    ∀ (idxs : List Nat) (l : List Oper) (listed : Array Bool) (a : Act), listed.size = ops.size → idxs.map (fun i => ops[i]?) = l.map some → llex md ops s LT idxs listed = true →
      wpQuiet P ops C R l a → wpL P md ops C LT R idxs.length listed a
  | [], [], _, _, _, _, hB, h => ⟨by simpa [llex] using hB, h⟩
  | [], _ :: _, _, _, _, hm, _, _ => by simp at hm
  | _ :: _, [], _, _, _, hm, _, _ => by simp at hm
  | i :: is, o :: l, listed, a, I, hm, hB, h => by
    simp only [List.map_cons, List.cons.injEq] at hm
    obtain ⟨h0, hm⟩ := hm
    simp only [llex, Bool.and_eq_true] at hB
    obtain ⟨⟨⟨hr, hf⟩, hT⟩, hB'⟩ := hB
    have hr' : i ∈ Region.ready md ops listed := by simpa using hr
    have hT' : i ≠ s := by simpa using hT
    have hst : qOp P ops C i (wpQuiet P ops C R l) a := by unfold qOp; simp only [h0]; exact h
    obtain ⟨v, hy, hK⟩ := yieldsIn_of_qOp h0 hst
    exact wpL_first E h0 hT' (Region.noSelect_spec hs) is.length listed a I (Region.free_spec h0 hf) hr' hy
      (wpL_lex E hs is l _ _ (by rw [Array.size_setIfInBounds]; exact I) hm hB' hK)

/-- The checks as one Bool. -/
def lastB (ops : Array Oper) (s : Nat) (LT : Array Bool) : Bool :=
  Region.noSelect ops && decide (ops.size = 1 + s) && llex .any ops s LT (List.range s) (Array.replicate ops.size false) && decide (Region.ready .any ops LT = [s]) && decide (Region.ready .any ops (LT.setIfInBounds s true) = []) &&
  (List.range ops.size).all fun i => (LT.getD i false == !(i == s)) && (i == s || ((ops[s]?).map (·.after.any fun e => Region.binds .any e && e.on == i)).getD false)

theorem take_map (l : List Oper) (n : Nat) (h : n ≤ l.length) : (List.range n).map (fun i => l.toArray[i]?) = (l.take n).map some := by
  apply List.ext_getElem?
  intro i
  by_cases hi : i < n
  · have h2 : i < l.length := by omega
    simp [hi, h2]
  · rw [List.getElem?_eq_none (by simp; omega), List.getElem?_eq_none (by simp; omega)]

/-- **THE LAW.** -/
theorem region_last {Q : Exit → Act → World → Prop} {id : Nat} {l : List Oper} {a : Act} {w : World} (s : Nat) (LT : Array Bool)
    (hm : P.follows .mixedOrders = true) (hB : lastB l.toArray s LT = true) (hC : C { w with drawn := w.drawn + 1 })
    (h : wpQuiet P l.toArray C (fun a2 => ∀ w', C w' → ∃ o1, l[s]? = some o1 ∧ o1.guard = none ∧ Oper.wp P o1 a2 w' (Q .normal) Q) (l.take s) a) : (Code.region id l.toArray true).wp P Q a w := by
  simp only [lastB, Bool.and_eq_true, decide_eq_true_eq, List.all_eq_true, List.mem_range] at hB
  obtain ⟨⟨⟨⟨⟨hs, hsz⟩, hlex⟩, hr1⟩, hr2⟩, hall⟩ := hB
  have E : LEdges .any l.toArray s LT := by
    refine ⟨fun i hi => ?_, fun i hi hne => ?_⟩
    · have h1 : LT.getD i false = !(i == s) := eq_of_beq (hall i hi).1
      rw [h1]
      simp
    · have h1 := (hall i hi).2
      simp [hne] at h1
      have hsl : s < l.length := by simp at hsz; omega
      simp [hsl] at h1
      obtain ⟨k, hk, hb, hon⟩ := h1
      exact ⟨l[s], by simp [hsl], l[s].after[k], Array.getElem_mem hk, hb, hon⟩
  refine wp_region_any hm ?_
  rw [hsz]
  have hrl : s = (List.range s).length := by simp
  have hf : 1 + s = 1 + (List.range s).length := by simp
  rw [hsz] at hlex
  rw [hf]
  refine wpAny_of_L (C := C) (LT := LT) (R := fun a2 => ∀ w', C w' → ∃ o1, l[s]? = some o1 ∧ o1.guard = none ∧ Oper.wp P o1 a2 w' (Q .normal) Q) (f := 1) ?_ (List.range s).length _ a _ hC ?_
  · intro a2 w' hw' hR
    obtain ⟨o1, ho1, hg1, hst1⟩ := hR w' hw'
    refine wpAny_all hr1 (by simp) fun i hi => ?_
    simp only [List.mem_singleton] at hi
    subst hi
    refine wpOp_step (o := o1) (by simpa using ho1) fun K hK => ?_
    rw [if_pos (by simp [Region.wanted, hg1])]
    refine Oper.wp_mono ?_ hst1
    intro a6 w6 hq
    exact hK _ _ (wpAny_done hr2 hq _)
  · have := wpL_lex (P := P) (C := C) (R := fun a2 => ∀ w', C w' → ∃ o1, l[s]? = some o1 ∧ o1.guard = none ∧ Oper.wp P o1 a2 w' (Q .normal) Q) E hs (List.range s) (l.take s) (Array.replicate (1 + s) false) a (by simp at hsz ⊢; omega) (take_map l s (by simp at hsz; omega)) hlex h
    simpa using this

theorem wp_of_run_skip1 {Q : Exit → Act → World → Prop} {o : Oper} {a : Act} {w w' : World} {K : Act → World → Prop} (h : (execOp a.eval o).run P w = .ok .skip w') (hk : K (a.put o.dst undef) w') : Oper.wp P o a w K Q := by
  unfold Oper.wp; rw [h]; exact hk
end
end Go.Proofs.Qxb6500697aDoor
