/-
  WHAT gather FINDS, IN PLAIN WORDS.
-/
import Derived.Test.Qxb6500697aDoorKStr
namespace Go.Proofs.Qxb6500697aDoor
open Go.RowKit

theorem foldl_flag {α β : Type} (f : β → Bool) (step : β → α → β) (p : α → Bool) (h : ∀ s x, f (step s x) = (f s || p x)) : ∀ (l : List α) (s : β), f (l.foldl step s) = (f s || l.any p)
  | [], s => by simp
  | x :: l, s => by rw [List.foldl_cons, foldl_flag f step p h l, h, List.any_cons, Bool.or_assoc]

def okG (x : Sd) : Bool := decide (x.g = 1 ∨ x.g = 2 ∨ x.g = 3)
def okI (N : Nat) (x : Sd) : Bool := decide (0 ≤ x.ix ∧ x.ix < (N : Int))

theorem gstep_bg (N g0 : Nat) (s : Gs) (x : Sd) : (gstep N g0 s x).bg = (s.bg || !okG x) := by
  unfold gstep okG
  by_cases h1 : x.g = 1 ∨ x.g = 2 ∨ x.g = 3
  · rw [if_neg (fun h => h h1), decide_eq_true h1]
    split
    · simp
    · split
      · simp
      · split <;> simp
  · rw [if_pos h1, decide_eq_false h1]; simp
theorem gstep_bi (N g0 : Nat) (s : Gs) (x : Sd) : (gstep N g0 s x).bi = (s.bi || (okG x && !okI N x)) := by
  unfold gstep okG okI
  by_cases h1 : x.g = 1 ∨ x.g = 2 ∨ x.g = 3
  · rw [if_neg (fun h => h h1), decide_eq_true h1]
    by_cases h2 : x.ix < 0 ∨ (N : Int) ≤ x.ix
    · rw [if_pos h2, decide_eq_false (by omega)]; simp
    · rw [if_neg h2, decide_eq_true (by omega)]
      split
      · simp
      · split <;> simp
  · rw [if_pos h1, decide_eq_false h1]; simp
theorem gstep_mx (N g0 : Nat) (s : Gs) (x : Sd) : (gstep N g0 s x).mx = (s.mx || (okG x && okI N x && decide (x.g ≠ g0))) := by
  unfold gstep okG okI
  by_cases h1 : x.g = 1 ∨ x.g = 2 ∨ x.g = 3
  · rw [if_neg (fun h => h h1), decide_eq_true h1]
    by_cases h2 : x.ix < 0 ∨ (N : Int) ≤ x.ix
    · rw [if_pos h2, decide_eq_false (by omega)]; simp
    · rw [if_neg h2, decide_eq_true (show 0 ≤ x.ix ∧ x.ix < (N : Int) by omega)]
      by_cases h3 : x.g = g0
      · rw [if_neg (fun h => h h3)]
        split <;> simp [h3]
      · rw [if_pos h3]; simp [h3]
  · rw [if_pos h1, decide_eq_false h1]; simp

theorem gfold_bg_eq (N g0 : Nat) (ss : List Sd) : (gfold N g0 ss).bg = ss.any (fun x => !okG x) := by
  unfold gfold
  rw [foldl_flag Gs.bg (gstep N g0) _ (gstep_bg N g0)]
  rfl
theorem gfold_bi_eq (N g0 : Nat) (ss : List Sd) : (gfold N g0 ss).bi = ss.any (fun x => okG x && !okI N x) := by
  unfold gfold
  rw [foldl_flag Gs.bi (gstep N g0) _ (gstep_bi N g0)]
  rfl
theorem gfold_mx_eq (N g0 : Nat) (ss : List Sd) : (gfold N g0 ss).mx = ss.any (fun x => okG x && okI N x && decide (x.g ≠ g0)) := by
  unfold gfold
  rw [foldl_flag Gs.mx (gstep N g0) _ (gstep_mx N g0)]
  rfl

/-- One shard is fit by itself. -/
structure Fit1 (N g0 : Nat) (x : Sd) : Prop where
  hg : goodG x.g
  ix : 0 ≤ x.ix ∧ x.ix < (N : Int)
  same : x.g = g0

theorem gstep_fit {N g0 : Nat} {s : Gs} {x : Sd} (h : Fit1 N g0 x) : gstep N g0 s x = if s.h.testBit x.ix.toNat then { s with tw := true } else { s with h := s.h ||| 2 ^ x.ix.toNat, rv := fun i => if i = x.ix.toNat then x.pv else s.rv i } := by
  unfold gstep
  rw [if_neg (fun h1 => h1 h.hg), if_neg (by have := h.ix; omega), if_neg (fun h1 => h1 h.same)]

theorem bitsL_with {h i N : Nat} (hi : i < N) (hb : h.testBit i = false) : (bitsL (h ||| 2 ^ i) N).length = (bitsL h N).length + 1 := by
  induction N with
  | zero => omega
  | succ N ih =>
    rw [bitsL_succ, bitsL_succ, with_bit]
    by_cases e : i = N
    · subst e
      have e2 : bitsL (h ||| 2 ^ i) i = bitsL h i := by
        unfold bitsL
        refine List.filter_congr (fun j hj => ?_)
        rw [with_bit]
        have := List.mem_range.1 hj
        simp [show i ≠ j by omega]
      rw [e2, hb]
      simp
    · rw [List.length_append, List.length_append, ih (by omega), decide_eq_false e, Bool.or_false]
      omega

theorem tw_keep (N g0 : Nat) : ∀ (l : List Sd) (s : Gs), s.tw = true → (l.foldl (gstep N g0) s).tw = true
  | [], _, h => h
  | x :: l, s, h => by
    refine tw_keep N g0 l _ ?_
    unfold gstep
    split
    · exact h
    · split
      · exact h
      · split
        · exact h
        · split
          · rfl
          · exact h

structure FoldOk (N : Nat) (s t : Gs) (l : List Sd) : Prop where
  nd : (l.map fun x => x.ix.toNat).Nodup
  off : ∀ x ∈ l, s.h.testBit x.ix.toNat = false
  bit : ∀ i, t.h.testBit i = true ↔ s.h.testBit i = true ∨ ∃ x ∈ l, x.ix.toNat = i
  rv : ∀ x ∈ l, t.rv x.ix.toNat = x.pv
  rest : ∀ i, (∀ x ∈ l, x.ix.toNat ≠ i) → t.rv i = s.rv i
  cnt : (bitsL t.h N).length = (bitsL s.h N).length + l.length

theorem fold_ok {N g0 : Nat} : ∀ (l : List Sd) (s : Gs), (∀ x ∈ l, Fit1 N g0 x) → (l.foldl (gstep N g0) s).tw = false → FoldOk N s (l.foldl (gstep N g0) s) l
  | [], s, _, _ => ⟨List.nodup_nil, by simp, fun i => by simp, by simp, fun _ _ => rfl, rfl⟩
  | x :: l, s, hf, ht => by
    have hx := hf x List.mem_cons_self
    rw [List.foldl_cons] at ht ⊢
    rw [gstep_fit hx] at ht ⊢
    cases hb : s.h.testBit x.ix.toNat with
    | true =>
      simp only [hb, if_true] at ht
      rw [tw_keep N g0 l { s with tw := true } rfl] at ht
      cases ht
    | false =>
      simp only [hb, Bool.false_eq_true, if_false] at ht ⊢
      have ih := fold_ok l _ (fun y hy => hf y (List.mem_cons_of_mem _ hy)) ht
      have hoff : ∀ y ∈ l, s.h.testBit y.ix.toNat = false ∧ x.ix.toNat ≠ y.ix.toNat := by
        intro y hy
        have h1 := ih.off y hy
        have h2 : (s.h ||| 2 ^ x.ix.toNat).testBit y.ix.toNat = false := h1
        rw [with_bit] at h2
        simp at h2
        exact h2
      have hN : x.ix.toNat < N := by have := hx.ix; omega
      refine ⟨?_, fun y hy => ?_, fun i => ?_, fun y hy => ?_, fun i hi => ?_, ?_⟩
      · rw [List.map_cons, List.nodup_cons]
        refine ⟨fun hm => ?_, ih.nd⟩
        obtain ⟨y, hy, he⟩ := List.mem_map.1 hm
        exact (hoff y hy).2 he.symm
      · rcases List.mem_cons.1 hy with h | h
        · rw [h]; exact hb
        · exact (hoff y h).1
      · rw [ih.bit i]
        have e : ({ s with h := s.h ||| 2 ^ x.ix.toNat, rv := fun i => if i = x.ix.toNat then x.pv else s.rv i } : Gs).h = s.h ||| 2 ^ x.ix.toNat := rfl
        rw [e, with_bit]
        simp only [Bool.or_eq_true, decide_eq_true_eq, List.mem_cons, exists_eq_or_imp]
        exact or_assoc
      · rcases List.mem_cons.1 hy with h | h
        · rw [h, ih.rest _ (fun z hz => ((hoff z hz).2).symm)]
          simp
        · exact ih.rv y h
      · rw [ih.rest i (fun y hy => hi y (List.mem_cons_of_mem _ hy))]
        have := hi x List.mem_cons_self
        show (if i = x.ix.toNat then x.pv else s.rv i) = s.rv i
        rw [if_neg (fun e => this e.symm)]
      · rw [ih.cnt]
        have := bitsL_with hN hb
        show (bitsL (s.h ||| 2 ^ x.ix.toNat) N).length + l.length = _
        rw [this, List.length_cons]
        omega

theorem fold_nodup {N g0 : Nat} : ∀ (l : List Sd) (s : Gs), (∀ x ∈ l, Fit1 N g0 x) → s.tw = false → (∀ x ∈ l, s.h.testBit x.ix.toNat = false) → (l.map fun x => x.ix.toNat).Nodup → (l.foldl (gstep N g0) s).tw = false
  | [], _, _, h, _, _ => h
  | x :: l, s, hf, ht, ho, hn => by
    have hx := hf x List.mem_cons_self
    rw [List.map_cons, List.nodup_cons] at hn
    rw [List.foldl_cons, gstep_fit hx, ho x List.mem_cons_self, if_neg (by simp)]
    refine fold_nodup l _ (fun y hy => hf y (List.mem_cons_of_mem _ hy)) ht (fun y hy => ?_) hn.2
    show (s.h ||| 2 ^ x.ix.toNat).testBit y.ix.toNat = false
    rw [with_bit, ho y (List.mem_cons_of_mem _ hy)]
    have : x.ix.toNat ≠ y.ix.toNat := fun e => hn.1 (by rw [e]; exact List.mem_map.2 ⟨y, hy, rfl⟩)
    simp [this]

/-- A list that gather takes. -/
structure Good (k N : Nat) (ss : List Sd) : Prop where
  ne : ss ≠ []
  fit : ∀ x ∈ ss, Fit1 N (g0of ss) x
  nodup : (ss.map fun x => x.ix.toNat).Nodup
  ol : 0 ≤ ol0of ss ∧ ol0of ss ≤ 256
  shape : ∀ x ∈ ss, x.ol = ol0of ss ∧ x.pl = psize (g0of ss) k (ol0of ss).toNat
  len : k ≤ ss.length

/-- The flags of a list of which each is fit. -/
theorem flags_fit {N g0 : Nat} {ss : List Sd} (h : ∀ x ∈ ss, Fit1 N g0 x) : (gfold N g0 ss).bg = false ∧ (gfold N g0 ss).bi = false ∧ (gfold N g0 ss).mx = false := by
  rw [gfold_bg_eq, gfold_bi_eq, gfold_mx_eq]
  have e1 : ∀ x ∈ ss, okG x = true := fun x hx => decide_eq_true (h x hx).hg
  have e2 : ∀ x ∈ ss, okI N x = true := fun x hx => decide_eq_true (h x hx).ix
  refine ⟨?_, ?_, ?_⟩
  · rw [List.any_eq_false]; intro x hx; simp [e1 x hx]
  · rw [List.any_eq_false]; intro x hx; simp [e2 x hx]
  · rw [List.any_eq_false]; intro x hx; simp [(h x hx).same]
theorem fit_flags {N g0 : Nat} {ss : List Sd} (h1 : (gfold N g0 ss).bg = false) (h2 : (gfold N g0 ss).bi = false) (h3 : (gfold N g0 ss).mx = false) : ∀ x ∈ ss, Fit1 N g0 x := by
  intro x hx
  rw [gfold_bg_eq, List.any_eq_false] at h1
  rw [gfold_bi_eq, List.any_eq_false] at h2
  rw [gfold_mx_eq, List.any_eq_false] at h3
  have e1 : okG x = true := by simpa using h1 x hx
  have e2 : okI N x = true := by simpa [e1] using h2 x hx
  have e3 : x.g = g0 := by simpa [e1, e2] using h3 x hx
  have e4 : x.g = 1 ∨ x.g = 2 ∨ x.g = 3 := of_decide_eq_true e1
  exact ⟨e4, of_decide_eq_true e2, e3⟩

theorem gcls_dup {k N : Nat} {ss : List Sd} (h : ∀ x ∈ ss, Fit1 N (g0of ss) x) (hn : ¬ (ss.map fun x => x.ix.toNat).Nodup) : gcls k N ss = some 5 := by
  obtain ⟨h1, h2, h3⟩ := flags_fit h
  have h4 : (gfold N (g0of ss) ss).tw = true := by
    cases ht : (gfold N (g0of ss) ss).tw with
    | true => rfl
    | false => exact absurd (fold_ok ss Gs.zero h ht).nd hn
  unfold gcls
  rw [h1, h2, h3, h4]
  simp
theorem gcls_two {k N : Nat} {ss : List Sd} (h : ∀ x ∈ ss, Fit1 N (g0of ss) x) (hn : (ss.map fun x => x.ix.toNat).Nodup) : gcls k N ss = gcls2 k ss := by
  obtain ⟨h1, h2, h3⟩ := flags_fit h
  have h4 : (gfold N (g0of ss) ss).tw = false := fold_nodup ss Gs.zero h rfl (fun _ _ => by show Nat.testBit 0 _ = false; simp) hn
  unfold gcls
  rw [h1, h2, h3, h4]
  simp
theorem gcls_mix {k N : Nat} {ss : List Sd} (h : ∀ x ∈ ss, goodG x.g ∧ 0 ≤ x.ix ∧ x.ix < (N : Int)) (hn : ∃ x ∈ ss, x.g ≠ g0of ss) : gcls k N ss = some 4 := by
  have e1 : ∀ x ∈ ss, okG x = true := fun x hx => decide_eq_true (h x hx).1
  have e2 : ∀ x ∈ ss, okI N x = true := fun x hx => decide_eq_true (h x hx).2
  have h1 : (gfold N (g0of ss) ss).bg = false := by rw [gfold_bg_eq, List.any_eq_false]; intro x hx; simp [e1 x hx]
  have h2 : (gfold N (g0of ss) ss).bi = false := by rw [gfold_bi_eq, List.any_eq_false]; intro x hx; simp [e2 x hx]
  have h3 : (gfold N (g0of ss) ss).mx = true := by
    rw [gfold_mx_eq, List.any_eq_true]
    obtain ⟨x, hx, hne⟩ := hn
    exact ⟨x, hx, by simp [e1 x hx, e2 x hx, hne]⟩
  unfold gcls
  rw [h1, h2, h3]
  simp
theorem gcls_good {k N : Nat} {ss : List Sd} (h : Good k N ss) : gcls k N ss = none := by
  rw [gcls_two h.fit h.nodup]
  refine gcls2_ok h.ne (fun hs => ?_) (by have := h.len; omega)
  rcases hs with h1 | h1 | ⟨x, hx, h1⟩
  · have := h.ol; omega
  · have := h.ol; omega
  · have := h.shape x hx
    rcases h1 with h1 | h1
    · exact h1 this.1
    · exact h1 this.2
theorem good_of_gcls {k N : Nat} {ss : List Sd} (h : gcls k N ss = none) : Good k N ss := by
  unfold gcls at h
  split at h
  · cases h
  · rename_i h1
    split at h
    · cases h
    · rename_i h2
      split at h
      · cases h
      · rename_i h3
        split at h
        · cases h
        · rename_i h4
          have hf := fit_flags (by simpa using h1) (by simpa using h2) (by simpa using h3)
          have h4' : (gfold N (g0of ss) ss).tw = false := by simpa using h4
          have hnd := (fold_ok ss Gs.zero hf h4').nd
          unfold gcls2 at h
          split at h
          · cases h
          · rename_i h5
            split at h
            · cases h
            · rename_i h6
              split at h
              · cases h
              · rename_i h7
                have h8 : ¬ ol0of ss < 0 := fun e => h6 (.inl e)
                have h9 : ¬ 256 < ol0of ss := fun e => h6 (.inr (.inl e))
                refine ⟨h5, hf, hnd, by omega, fun x hx => ?_, by omega⟩
                refine ⟨Classical.byContradiction fun e => h6 (.inr (.inr ⟨x, hx, .inl e⟩)), Classical.byContradiction fun e => h6 (.inr (.inr ⟨x, hx, .inr e⟩))⟩

/-- The payload of shard i. -/
def payOf (ss : List Sd) (i : Nat) : Nat → Nat := match ss.find? (fun x => decide (x.ix.toNat = i)) with | some x => x.P | none => fun _ => 0
theorem payOf_eq {ss : List Sd} (hn : (ss.map fun x => x.ix.toNat).Nodup) {x : Sd} (hx : x ∈ ss) : payOf ss x.ix.toNat = x.P := by
  induction ss with
  | nil => cases hx
  | cons y l ih =>
    rw [List.map_cons, List.nodup_cons] at hn
    unfold payOf
    rw [List.find?_cons]
    by_cases e : y.ix.toNat = x.ix.toNat
    · rw [decide_eq_true e]
      rcases List.mem_cons.1 hx with h | h
      · rw [h]
      · exact absurd (by rw [e]; exact List.mem_map.2 ⟨x, h, rfl⟩) hn.1
    · rw [decide_eq_false e]
      rcases List.mem_cons.1 hx with h | h
      · exact absurd (by rw [h]) e
      · exact ih hn.2 h

/-- The stripe of a good list, with its payloads. -/
theorem Good.str {w w' : World} {sb k N : Nat} {ao : Option Addr} {ss : List Sd} (h : Good k N ss) (hr : SdRow w ao ss) (kp : Keeps w w') (hN : N ≤ 16) (hs : StOk w' sb k N ss) :
    Str w' sb (g0of ss) k N (ol0of ss).toNat (gfold N (g0of ss) ss).h (payOf ss) ∧ ∀ i, (gfold N (g0of ss) ss).h.testBit i = true ↔ ∃ x ∈ ss, x.ix.toNat = i := by
  have htw : (gfold N (g0of ss) ss).tw = false := fold_nodup ss Gs.zero h.fit rfl (fun _ _ => by show Nat.testBit 0 _ = false; simp) h.nodup
  have hfo := fold_ok ss Gs.zero h.fit htw
  have hbit : ∀ i, (gfold N (g0of ss) ss).h.testBit i = true ↔ ∃ x ∈ ss, x.ix.toNat = i := by
    intro i
    have := hfo.bit i
    have e : Gs.zero.h.testBit i = false := by show Nat.testBit 0 _ = false; simp
    rw [e] at this
    have h2 : (gfold N (g0of ss) ss).h.testBit i = true ↔ false = true ∨ ∃ x ∈ ss, x.ix.toNat = i := this
    simpa using h2
  have hol : ((ol0of ss).toNat : Int) = ol0of ss := by have := h.ol; omega
  refine ⟨⟨⟨(gfold N (g0of ss) ss).rv, by unfold StOk at hs; rw [hol]; exact hs, fun i hi hb => ?_⟩, gfold_h N _ _ hN, goodG_g0 (fun x hx => (h.fit x hx).hg) h.ne, by have := h.ol; omega, ?_⟩, hbit⟩
  · obtain ⟨x, hx, rfl⟩ := (hbit i).1 hb
    have hok := hr.ok x hx
    have hsh := (h.shape x hx).2
    refine ⟨x.pa, x.pc, ?_, by rw [← hsh]; exact hok.cap, hok.cap2, ?_⟩
    · have := hfo.rv x hx
      unfold gfold
      rw [this, ← hsh]
      rfl
    · rw [payOf_eq h.nodup hx, ← hsh]
      exact hok.pay.keeps kp
  · have := hfo.cnt
    have e : (bitsL Gs.zero.h N).length = 0 := by
      rw [List.length_eq_zero_iff]
      unfold bitsL
      rw [List.filter_eq_nil_iff]
      intro a _
      show ¬ (Nat.testBit 0 a = true)
      simp
    rw [e, Nat.zero_add] at this
    have h2 := h.len
    show k ≤ (bitsL (List.foldl (gstep N (g0of ss)) Gs.zero ss).h N).length
    rw [this]; exact h2
end Go.Proofs.Qxb6500697aDoor
