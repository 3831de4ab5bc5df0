/-
  PLAIN MATHEMATICS: GAUSS AND JORDAN'S INVERSION DOES NOT FAIL ON A MATRIX WITHOUT A KERNEL, AND ITS RESULT IS A LEFT INVERSE.
-/
import Derived.Test.Qxb6500697aDoorKField
namespace Go.Proofs.Qxb6500697aDoor

/-- All n by m entries are bytes. -/
def Byt (n m : Nat) (A : Nat → Nat → Nat) : Prop := ∀ r, r < n → ∀ c, c < m → A r c < 256
def BytV (n : Nat) (x : Nat → Nat) : Prop := ∀ i, i < n → x i < 256
/-- Only the zero vector goes to zero. -/
def Inj (n m : Nat) (A : Nat → Nat → Nat) : Prop := ∀ x, BytV m x → (∀ r, r < n → gdot (A r) x m = 0) → ∀ i, i < m → x i = 0

/-- What holds after col columns. -/
structure GJ (n : Nat) (A : Nat → Nat → Nat) (col : Nat) (L R : Nat → Nat → Nat) : Prop where
  bL : Byt n n L
  bR : Byt n n R
  eq : ∀ x, BytV n x → ∀ r, r < n → gdot (L r) x n = gdot (R r) (fun t => gdot (A t) x n) n
  inj : Inj n n R
  unit : ∀ r, r < n → ∀ c, c < col → c < n → L r c = gone r c

theorem gdot_bytV (n m : Nat) (A : Nat → Nat → Nat) (x : Nat → Nat) : BytV n (fun t => gdot (A t) x m) := fun _ _ => gdot_lt _ _ _

theorem gone_lt (r c : Nat) : gone r c < 256 := by unfold gone; split <;> decide

theorem GJ.start (n : Nat) (A : Nat → Nat → Nat) (hA : Byt n n A) : GJ n A 0 A gone := by
  refine ⟨hA, fun r _ c _ => gone_lt r c, fun x hx r hr => ?_, fun x hx h i hi => ?_, fun r _ c hc => by omega⟩
  · rw [gdot_unit r (fun t => gdot (A t) x n) n hr (gdot_lt _ _ _)]
  · have := h i hi
    rwa [gdot_unit i x n hi (hx i hi)] at this

theorem swapAt_lt {n p q r : Nat} (hp : p < n) (hq : q < n) (hr : r < n) : ∃ r', r' < n ∧ ∀ {α : Type} (A : Nat → α), swapAt A p q r = A r' := by
  by_cases e1 : r = q
  · exact ⟨p, hp, fun A => by unfold swapAt; rw [if_pos e1]⟩
  · by_cases e2 : r = p
    · exact ⟨q, hq, fun A => by unfold swapAt; rw [if_neg e1, if_pos e2]⟩
    · exact ⟨r, hr, fun A => by unfold swapAt; rw [if_neg e1, if_neg e2]⟩
theorem swapAt_onto {n p q r : Nat} (hp : p < n) (hq : q < n) (hr : r < n) : ∃ r', r' < n ∧ ∀ {α : Type} (A : Nat → α), swapAt A p q r' = A r := by
  by_cases e1 : r = p
  · exact ⟨q, hq, fun A => by unfold swapAt; rw [if_pos rfl, e1]⟩
  · by_cases e2 : r = q
    · subst e2
      by_cases e3 : p = r
      · exact absurd e3.symm e1
      · exact ⟨p, hp, fun A => by unfold swapAt; rw [if_neg e3, if_pos rfl]⟩
    · exact ⟨r, hr, fun A => by unfold swapAt; rw [if_neg e2, if_neg e1]⟩

theorem GJ.swap {n col p : Nat} {A L R : Nat → Nat → Nat} (h : GJ n A col L R) (hc : col < n) (hp : p < n) (hcp : col ≤ p) : GJ n A col (swapAt L col p) (swapAt R col p) := by
  refine ⟨fun r hr c hcc => ?_, fun r hr c hcc => ?_, fun x hx r hr => ?_, fun x hx h0 i hi => ?_, fun r hr c hcc hcn => ?_⟩
  · obtain ⟨r', hr', e⟩ := swapAt_lt hc hp hr; rw [e]; exact h.bL r' hr' c hcc
  · obtain ⟨r', hr', e⟩ := swapAt_lt hc hp hr; rw [e]; exact h.bR r' hr' c hcc
  · obtain ⟨r', hr', e⟩ := swapAt_lt hc hp hr; rw [e, e]; exact h.eq x hx r' hr'
  · refine h.inj x hx (fun r hr => ?_) i hi
    obtain ⟨r', hr', e⟩ := swapAt_onto hc hp hr
    have := h0 r' hr'
    rwa [e] at this
  · unfold swapAt
    by_cases e1 : r = p
    · rw [if_pos e1, h.unit col hc c hcc hcn]; unfold gone; rw [if_neg (by omega), if_neg (by omega)]
    · rw [if_neg e1]
      by_cases e2 : r = col
      · rw [if_pos e2, h.unit p hp c hcc hcn]; unfold gone; rw [if_neg (by omega), if_neg (by omega)]
      · rw [if_neg e2]; exact h.unit r hr c hcc hcn

theorem scal_row (M : Nat → Nat → Nat) (col sc n : Nat) (x : Nat → Nat) (hM : ∀ c, c < n → M col c < 256) (hs : sc < 256) (hx : BytV n x) : gdot (scal M col sc n col) x n = gmul sc (gdot (M col) x n) := by
  rw [← gdot_scale_left sc (M col) x n hs hM hx]
  refine gdot_congr (fun t ht => ?_) (fun _ _ => rfl)
  unfold scal
  rw [if_pos ⟨rfl, ht⟩, gmul_comm (hM t ht) hs]
theorem scal_other (M : Nat → Nat → Nat) (col sc n r : Nat) (h : r ≠ col) : scal M col sc n r = M r := by
  funext c; unfold scal; rw [if_neg (fun e => h e.1)]

theorem scal_byt {n col sc : Nat} {M : Nat → Nat → Nat} (h : Byt n n M) : Byt n n (scal M col sc n) := by
  intro r hr c hc
  unfold scal
  split
  · exact gmul_lt _ _
  · exact h r hr c hc

theorem GJ.scale {n col sc : Nat} {A L R : Nat → Nat → Nat} (h : GJ n A col L R) (hc : col < n) (hs : sc < 256) (hs0 : sc ≠ 0) : GJ n A col (scal L col sc n) (scal R col sc n) := by
  refine ⟨scal_byt h.bL, scal_byt h.bR, fun x hx r hr => ?_, fun x hx h0 i hi => ?_, fun r hr c hcc hcn => ?_⟩
  · by_cases e : r = col
    · subst e
      rw [scal_row L r sc n x (h.bL r hr) hs hx, scal_row R r sc n _ (h.bR r hr) hs (gdot_bytV _ _ _ _), h.eq x hx r hr]
    · rw [scal_other _ _ _ _ _ e, scal_other _ _ _ _ _ e]; exact h.eq x hx r hr
  · refine h.inj x hx (fun r hr => ?_) i hi
    have h1 := h0 r hr
    by_cases e : r = col
    · subst e
      rw [scal_row R r sc n x (h.bR r hr) hs hx] at h1
      rcases gmul_eq_zero hs (gdot_lt _ _ _) h1 with h2 | h2
      · exact absurd h2 hs0
      · exact h2
    · rwa [scal_other _ _ _ _ _ e] at h1
  · unfold scal
    by_cases e : r = col ∧ c < n
    · obtain ⟨e1, _⟩ := e
      rw [if_pos ⟨e1, hcn⟩, h.unit r hr c hcc hcn, e1]
      unfold gone
      rw [if_neg (by omega), gmul_zero]
    · rw [if_neg e]; exact h.unit r hr c hcc hcn

theorem elim_row (F M : Nat → Nat → Nat) (col n r : Nat) (x : Nat → Nat) (hr : r < n) (hne : r ≠ col) (hf : F r col < 256) (hM : ∀ c, c < n → M col c < 256) (hx : BytV n x) : gdot (elim F M col n r) x n = gdot (M r) x n ^^^ gmul (F r col) (gdot (M col) x n) := by
  rw [← gdot_scale_left (F r col) (M col) x n hf hM hx, ← gdot_xor_left]
  refine gdot_congr (fun t ht => ?_) (fun _ _ => rfl)
  unfold elim
  rw [if_pos ⟨hr, hne⟩]
theorem elim_self (F M : Nat → Nat → Nat) (col n : Nat) : elim F M col n col = M col := by
  funext c; unfold elim; rw [if_neg (fun e => e.2 rfl)]
theorem elim_byt {n col : Nat} {F M : Nat → Nat → Nat} (h : Byt n n M) : Byt n n (elim F M col n) := by
  intro r hr c hc
  unfold elim
  split
  · exact xor8n _ _ (h r hr c hc) (gmul_lt _ _)
  · exact h r hr c hc

theorem GJ.clear {n col : Nat} {A L R : Nat → Nat → Nat} (h : GJ n A col L R) (hc : col < n) (h1 : L col col = 1) : GJ n A (col + 1) (elim L L col n) (elim L R col n) := by
  refine ⟨elim_byt h.bL, elim_byt h.bR, fun x hx r hr => ?_, fun x hx h0 i hi => ?_, fun r hr c hcc hcn => ?_⟩
  · by_cases e : r = col
    · subst e; rw [elim_self, elim_self]; exact h.eq x hx r hr
    · rw [elim_row L L col n r x hr e (h.bL r hr col hc) (h.bL col hc) hx, elim_row L R col n r _ hr e (h.bL r hr col hc) (h.bR col hc) (gdot_bytV _ _ _ _), h.eq x hx r hr, h.eq x hx col hc]
  · have hc0 : gdot (R col) x n = 0 := by have := h0 col hc; rwa [elim_self] at this
    refine h.inj x hx (fun r hr => ?_) i hi
    by_cases e : r = col
    · rw [e]; exact hc0
    · have := h0 r hr
      rwa [elim_row L R col n r x hr e (h.bL r hr col hc) (h.bR col hc) hx, hc0, gmul_zero_right, Nat.xor_zero] at this
  · unfold elim
    by_cases e : r = col
    · subst e
      rw [if_neg (fun e => e.2 rfl)]
      rcases Nat.lt_or_ge c r with h2 | h2
      · exact h.unit r hr c h2 hcn
      · have : c = r := by omega
        subst this
        rw [h1]; unfold gone; rw [if_pos rfl]
    · rw [if_pos ⟨hr, e⟩]
      rcases Nat.lt_or_ge c col with h2 | h2
      · rw [h.unit r hr c h2 hcn, h.unit col hc c h2 hcn]
        have : gone col c = 0 := by unfold gone; rw [if_neg (by omega)]
        rw [this, gmul_zero_right, Nat.xor_zero]
      · have : c = col := by omega
        subst this
        rw [h1, gmul_one (h.bL r hr c hcn), Nat.xor_self]
        unfold gone; rw [if_neg e]

theorem pivN_spec (v : Nat → Nat) (n p f : Nat) (h : p + f = n) : (∀ q, p ≤ q → q < pivN v n p f → v q = 0) ∧ p ≤ pivN v n p f ∧ pivN v n p f ≤ n ∧ (pivN v n p f < n → v (pivN v n p f) ≠ 0) := by
  induction f generalizing p with
  | zero => simp only [pivN]; exact ⟨fun q h1 h2 => by omega, Nat.le_refl _, by omega, fun h2 => by omega⟩
  | succ f ih =>
    unfold pivN
    split
    · rename_i hc
      obtain ⟨h1, h2, h3, h4⟩ := ih (p + 1) (by omega)
      refine ⟨fun q hq1 hq2 => ?_, by omega, h3, h4⟩
      rcases Nat.lt_or_ge p q with h5 | h5
      · exact h1 q h5 hq2
      · have : q = p := by omega
        subst this; exact hc.2
    · rename_i hc
      refine ⟨fun q h1 h2 => by omega, Nat.le_refl _, by omega, fun h5 h0 => hc ⟨h5, h0⟩⟩

/-- Where no pivot is left, the matrix has a kernel. -/
theorem GJ.pivot {n col : Nat} {A L R : Nat → Nat → Nat} (h : GJ n A col L R) (hc : col < n) (hA : Inj n n A) : pivN (fun r => L r col) n col (n - col) < n := by
  obtain ⟨h1, h2, h3, h4⟩ := pivN_spec (fun r => L r col) n col (n - col) (by omega)
  rcases Nat.lt_or_ge (pivN (fun r => L r col) n col (n - col)) n with h5 | h5
  · exact h5
  · exfalso
    have hz : ∀ q, col ≤ q → q < n → L q col = 0 := fun q hq1 hq2 => h1 q hq1 (by omega)
    let x : Nat → Nat := fun c => if c < col then L c col else gone col c
    have hx : BytV n x := by
      intro c hcn
      show (if c < col then L c col else gone col c) < 256
      split
      · exact h.bL c hcn col hc
      · exact gone_lt _ _
    have hL : ∀ r, r < n → gdot (L r) x n = 0 := by
      intro r hr
      have e1 : gdot (L r) x n = gdot (fun c => if c < col then gone r c else 0) x n ^^^ gdot (fun c => if c < col then 0 else L r c) x n := by
        rw [← gdot_xor_left]
        refine gdot_congr (fun t ht => ?_) (fun _ _ => rfl)
        by_cases h6 : t < col
        · simp only [if_pos h6, Nat.xor_zero]; exact h.unit r hr t h6 ht
        · simp only [if_neg h6, Nat.zero_xor]
      have e2 : gdot (fun c => if c < col then 0 else L r c) x n = L r col := by
        have e3 : gdot (fun c => if c < col then 0 else L r c) x n = gdot (L r) (gone col) n := by
          have : ∀ k, gdot (fun c => if c < col then 0 else L r c) x k = gdot (L r) (gone col) k := by
            intro k
            induction k with
            | zero => rfl
            | succ k ih =>
              simp only [gdot]
              rw [ih]
              congr 1
              by_cases h6 : k < col
              · have : gone col k = 0 := by unfold gone; rw [if_neg (by omega)]
                rw [if_pos h6, gmul_zero, this, gmul_zero_right]
              · have : x k = gone col k := by show (if k < col then L k col else gone col k) = _; rw [if_neg h6]
                rw [if_neg h6, this]
          exact this n
        rw [e3, gdot_comm _ _ _ (h.bL r hr) (fun t _ => gone_lt _ _), gdot_unit col (L r) n hc (h.bL r hr col hc)]
      rw [e1, e2]
      by_cases h6 : r < col
      · have e4 : gdot (fun c => if c < col then gone r c else 0) x n = x r := by
          rw [← gdot_unit r x n hr (hx r hr)]
          refine gdot_congr (fun t ht => ?_) (fun _ _ => rfl)
          by_cases h7 : t < col
          · simp only [if_pos h7]
          · simp only [if_neg h7]; unfold gone; rw [if_neg (by omega)]
        have e5 : x r = L r col := by show (if r < col then L r col else gone col r) = _; rw [if_pos h6]
        rw [e4, e5, Nat.xor_self]
      · rw [hz r (by omega) hr, Nat.xor_zero]
        refine gdot_zero_left _ _ _ (fun t ht => ?_)
        by_cases h7 : t < col
        · simp only [if_pos h7]; unfold gone; rw [if_neg (by omega)]
        · simp only [if_neg h7]
    have hAx : ∀ t, t < n → gdot (A t) x n = 0 := by
      refine h.inj (fun t => gdot (A t) x n) (gdot_bytV _ _ _ _) (fun r hr => ?_)
      rw [← h.eq x hx r hr]; exact hL r hr
    have hx0 := hA x hx hAx col hc
    have : x col = 1 := by show (if col < col then L col col else gone col col) = _; rw [if_neg (by omega)]; unfold gone; rw [if_pos rfl]
    omega

theorem gj_run {n : Nat} {A : Nat → Nat → Nat} (hb : Byt n n A) (hA : Inj n n A) : ∀ col, col ≤ n → ∃ s, gjS n A col = some s ∧ GJ n A col s.1 s.2
  | 0, _ => ⟨(A, gone), rfl, GJ.start n A hb⟩
  | col + 1, hc => by
    obtain ⟨s, hs, hg⟩ := gj_run hb hA col (by omega)
    have hp := hg.pivot (by omega) hA
    obtain ⟨h1, h2, h3, h4⟩ := pivN_spec (fun r => s.1 r col) n col (n - col) (by omega)
    rw [gjS, hs]
    show ∃ s', gjStep n col s = some s' ∧ _
    unfold gjStep
    simp only
    rw [if_neg (by omega)]
    refine ⟨_, rfl, ?_⟩
    have hnz := h4 hp
    generalize pivN (fun r => s.1 r col) n col (n - col) = p at *
    have hsw := hg.swap (by omega) hp h2
    have e1 : swapAt s.1 col p col col = s.1 p col := by
      unfold swapAt
      by_cases e : col = p
      · rw [if_pos e, e]
      · rw [if_neg e, if_pos rfl]
    have hne : swapAt s.1 col p col col ≠ 0 := by rw [e1]; exact hnz
    have hl8 := hsw.bL col (by omega) col (by omega)
    have hsc := hsw.scale (by omega) (ginv_lt (swapAt s.1 col p col col)) (ginv_ne hl8 hne)
    refine hsc.clear (by omega) ?_
    unfold scal
    rw [if_pos ⟨rfl, by omega⟩, gmul_ginv hl8 hne]

/-- THE INVERSION: it does not fail, and what it gives is a left inverse. -/
theorem gj_ok {n : Nat} {A : Nat → Nat → Nat} (hb : Byt n n A) (hA : Inj n n A) :
    ∃ s, gjS n A n = some s ∧ Byt n n s.2 ∧ Inj n n s.2 ∧ ∀ x, BytV n x → ∀ r, r < n → gdot (s.2 r) (fun t => gdot (A t) x n) n = x r := by
  obtain ⟨s, hs, hg⟩ := gj_run hb hA n (Nat.le_refl _)
  refine ⟨s, hs, hg.bR, hg.inj, fun x hx r hr => ?_⟩
  rw [← hg.eq x hx r hr, ← gdot_unit r x n hr (hx r hr)]
  exact gdot_congr (fun t ht => hg.unit r hr t ht ht) (fun _ _ => rfl)
end Go.Proofs.Qxb6500697aDoor
