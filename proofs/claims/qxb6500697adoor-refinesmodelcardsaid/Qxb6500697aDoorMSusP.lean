/-
  PLAIN: THE SUSPECTS IN RISING ORDER, as the codec sorts them and as the model finds them.
-/
import Derived.Test.Qxb6500697aDoorMSpec
namespace Go.Proofs.Qxb6500697aDoor

theorem inc_ext : ∀ {l l' : List Int}, l.Pairwise (· < ·) → l'.Pairwise (· < ·) → (∀ x, x ∈ l ↔ x ∈ l') → l = l'
  | [], [], _, _, _ => rfl
  | [], y :: l', _, _, h => by have := (h y).2 List.mem_cons_self; cases this
  | x :: l, [], _, _, h => by have := (h x).1 List.mem_cons_self; cases this
  | x :: l, y :: l', h1, h2, h => by
    obtain ⟨a1, a2⟩ := List.pairwise_cons.1 h1
    obtain ⟨b1, b2⟩ := List.pairwise_cons.1 h2
    have e : x = y := by
      rcases List.mem_cons.1 ((h x).1 List.mem_cons_self) with hx | hx
      · exact hx
      · rcases List.mem_cons.1 ((h y).2 List.mem_cons_self) with hy | hy
        · exact hy.symm
        · have := b1 x hx
          have := a1 y hy
          omega
    subst e
    rw [inc_ext a2 b2 (fun z => ?_)]
    constructor
    · intro hz
      rcases List.mem_cons.1 ((h z).1 (List.mem_cons_of_mem _ hz)) with hz' | hz'
      · have := a1 z hz; omega
      · exact hz'
    · intro hz
      rcases List.mem_cons.1 ((h z).2 (List.mem_cons_of_mem _ hz)) with hz' | hz'
      · have := b1 z hz; omega
      · exact hz'

theorem susC_inc (k N : Nat) (l : List Sd) : (susC k N l).Pairwise (· < ·) := by
  unfold susC
  rw [List.pairwise_map]
  exact (List.Pairwise.filter _ List.pairwise_lt_range).imp (fun h => by omega)
theorem mem_susC {k N : Nat} {l : List Sd} {z : Int} : z ∈ susC k N l ↔ ∃ x : Nat, x < N ∧ (x : Int) = z ∧ ∃ q, q < l.length ∧ (l.getD q Sd.zero).ix.toNat = x ∧ vcls k N (l.eraseIdx q) = none := by
  unfold susC
  rw [List.mem_map]
  constructor
  · rintro ⟨x, hx, e⟩
    rw [List.mem_filter, List.mem_range, decide_eq_true_iff] at hx
    exact ⟨x, hx.1, e, hx.2⟩
  · rintro ⟨x, h1, h2, h3⟩
    exact ⟨x, by rw [List.mem_filter, List.mem_range, decide_eq_true_iff]; exact ⟨h1, h3⟩, h2⟩
theorem mem_susJ {k N : Nat} {l : List Sd} {z : Int} : z ∈ susJ k N l l.length ↔ ∃ q, q < l.length ∧ vcls k N (l.eraseIdx q) = none ∧ (l.getD q Sd.zero).ix = z := by
  unfold susJ
  rw [List.mem_map]
  constructor
  · rintro ⟨q, hq, e⟩
    rw [List.mem_filter, List.mem_range, decide_eq_true_iff] at hq
    exact ⟨q, hq.1, hq.2, e⟩
  · rintro ⟨q, h1, h2, h3⟩
    exact ⟨q, by rw [List.mem_filter, List.mem_range, decide_eq_true_iff]; exact ⟨h1, h2⟩, h3⟩

theorem Good.ixInj {k N : Nat} {l : List Sd} (h : Good k N l) {p q : Nat} (hp : p < l.length) (hq : q < l.length) (e : (l.getD p Sd.zero).ix.toNat = (l.getD q Sd.zero).ix.toNat) : p = q := by
  have e1 : (l.map fun x => x.ix.toNat)[p]'(by simpa using hp) = (l.map fun x => x.ix.toNat)[q]'(by simpa using hq) := by
    rw [List.getElem_map, List.getElem_map, ← getD_lt (d := Sd.zero), ← getD_lt (d := Sd.zero)]
    exact e
  exact (List.getElem_inj h.nodup).1 e1
theorem Good.ixR {k N : Nat} {l : List Sd} (h : Good k N l) {q : Nat} (hq : q < l.length) : 0 ≤ (l.getD q Sd.zero).ix ∧ (l.getD q Sd.zero).ix < (N : Int) := (h.fit _ (getD_mem hq)).ix

/-- What the codec gives is the rising list. -/
theorem sus_sort {k N : Nat} {l : List Sd} (h : Good k N l) : sortZ (susJ k N l l.length) = susC k N l := by
  have hp : (sortZ (susJ k N l l.length)).Perm (susJ k N l l.length) := List.mergeSort_perm _ _
  have hnd : (susJ k N l l.length).Nodup := by
    unfold susJ
    rw [List.nodup_iff_pairwise_ne, List.pairwise_map]
    refine List.Pairwise.imp_of_mem (R := fun a b => a ≠ b) ?_ (List.Pairwise.filter _ (List.nodup_iff_pairwise_ne.1 List.nodup_range))
    intro a b ha hb hne e
    rw [List.mem_filter, List.mem_range] at ha hb
    exact hne (h.ixInj ha.1 hb.1 (by rw [e]))
  refine inc_ext ?_ (susC_inc k N l) (fun z => ?_)
  · have h1 : (sortZ (susJ k N l l.length)).Pairwise (fun x y => decide (x ≤ y) = true) := List.pairwise_mergeSort (fun a b c h1 h2 => by simp at h1 h2 ⊢; omega) (fun a b => by simp; omega) _
    have h2 : (sortZ (susJ k N l l.length)).Pairwise (· ≠ ·) := List.nodup_iff_pairwise_ne.1 (hp.nodup_iff.2 hnd)
    exact (h1.and h2).imp (fun ⟨a, b⟩ => by simp at a; omega)
  · rw [hp.mem_iff, mem_susJ, mem_susC]
    constructor
    · rintro ⟨q, h1, h2, h3⟩
      have := h.ixR h1
      exact ⟨z.toNat, by omega, by omega, q, h1, by rw [h3], h2⟩
    · rintro ⟨x, h1, h2, q, h3, h4, h5⟩
      have := h.ixR h3
      exact ⟨q, h3, h5, by omega⟩

/-- The list without the shard of one number. -/
def without (l : List Sd) (x : Nat) : List Sd := l.filter fun s => decide (s.ix ≠ (x : Int))
theorem without_erase {k N : Nat} {l : List Sd} (h : Good k N l) {q x : Nat} (hq : q < l.length) (hx : (l.getD q Sd.zero).ix = (x : Int)) : without l x = l.eraseIdx q := by
  have key : ∀ (l : List Sd) (q : Nat), q < l.length → (l.getD q Sd.zero).ix = (x : Int) → (∀ p, p < l.length → p ≠ q → (l.getD p Sd.zero).ix ≠ (x : Int)) → without l x = l.eraseIdx q := by
    intro l
    induction l with
    | nil => intro q hq; simp at hq
    | cons a l ih =>
      intro q hq hxq hoth
      unfold without
      cases q with
      | zero =>
        have ha : a.ix = (x : Int) := by simpa using hxq
        rw [List.filter_cons_of_neg (by simp [ha]), List.eraseIdx_cons_zero, List.filter_eq_self]
        intro s hs
        obtain ⟨i, hi, rfl⟩ := List.getElem_of_mem hs
        have := hoth (i + 1) (by simpa using hi) (by omega)
        rw [List.getD_cons_succ, getD_lt hi] at this
        simpa using this
      | succ q =>
        have ha : a.ix ≠ (x : Int) := by
          have := hoth 0 (by simp) (by omega)
          simpa using this
        rw [List.filter_cons_of_pos (by simpa using ha), List.eraseIdx_cons_succ]
        congr 1
        exact ih q (by simpa using hq) (by simpa using hxq) (fun p hp hne => by
          have := hoth (p + 1) (by simpa using hp) (by omega)
          simpa using this)
  refine key l q hq hx (fun p hp hne e => hne ?_)
  exact h.ixInj hp hq (by rw [e, hx])
theorem without_len {l : List Sd} {x : Nat} : (without l x).length ≤ l.length := List.length_filter_le _ _

open Classical in
/-- What the model finds is the rising list. -/
theorem sus_model {k N : Nat} {l : List Sd} (h : Good k N l) : ((List.range N).filter fun x => decide ((without l x).length < l.length ∧ vcls k N (without l x) = none)).map (fun x : Nat => (x : Int)) = susC k N l := by
  unfold susC
  refine congrArg (List.map fun x : Nat => (x : Int)) (List.filter_congr (fun x _ => ?_))
  have e : ((without l x).length < l.length ∧ vcls k N (without l x) = none) ↔ ∃ q, q < l.length ∧ (l.getD q Sd.zero).ix.toNat = x ∧ vcls k N (l.eraseIdx q) = none := by
    constructor
    · rintro ⟨h1, h2⟩
      have : ¬ ∀ s ∈ l, s.ix ≠ (x : Int) := fun hall => by
        have e : without l x = l := by unfold without; rw [List.filter_eq_self]; intro s hs; simpa using hall s hs
        rw [e] at h1; omega
      obtain ⟨s, hs, hsx⟩ : ∃ s ∈ l, s.ix = (x : Int) := Classical.byContradiction fun hn => this (fun s hs e => hn ⟨s, hs, e⟩)
      obtain ⟨q, hq, rfl⟩ := List.getElem_of_mem hs
      have hq' : (l.getD q Sd.zero).ix = (x : Int) := by rw [getD_lt hq]; exact hsx
      exact ⟨q, hq, by rw [hq']; rfl, by rw [← without_erase h hq hq']; exact h2⟩
    · rintro ⟨q, h1, h2, h3⟩
      have hr := h.ixR h1
      have hq' : (l.getD q Sd.zero).ix = (x : Int) := by omega
      rw [without_erase h h1 hq']
      refine ⟨?_, h3⟩
      rw [List.length_eraseIdx, if_pos h1]
      omega
  simp only [e]
end Go.Proofs.Qxb6500697aDoor
