/-
  PLAIN MATHEMATICS: ANY k ROWS OF A GENERATOR HAVE NO KERNEL; AN INVERSE IS ONE ON BOTH SIDES.
-/
import Derived.Test.Qxb6500697aDoorKEnc
namespace Go.Proofs.Qxb6500697aDoor

/-- A left inverse without a kernel is a right inverse. -/
theorem right_inv {n : Nat} {A R : Nat → Nat → Nat} (hi : Inj n n R) (hl : ∀ x, BytV n x → ∀ r, r < n → gdot (R r) (fun t => gdot (A t) x n) n = x r) :
    ∀ p, BytV n p → ∀ r, r < n → gdot (A r) (fun t => gdot (R t) p n) n = p r := by
  intro p hp r hr
  have hy : BytV n (fun t => gdot (R t) p n) := gdot_bytV n n R p
  have hz : BytV n (fun t => gdot (A t) (fun s => gdot (R s) p n) n ^^^ p t) := fun i hi => xor8n _ _ (gdot_lt _ _ _) (hp i hi)
  have h0 := hi _ hz (fun q hq => by
    rw [gdot_xor_right, hl _ hy q hq, Nat.xor_self]) r hr
  exact Classical.byContradiction fun h => xor_ne_zero h h0

theorem pow_shift (z : Nat) (f : Nat → Nat) (n : Nat) (hz : z < 256) (hf : ∀ i, f i < 256) : gdot (gpow z) (fun i => if i = 0 then 0 else f (i - 1)) (n + 1) = gmul z (gdot (gpow z) f n) := by
  induction n with
  | zero => simp [gdot, gmul_zero_right]
  | succ n ih =>
    rw [gdot, ih, if_neg (by omega), Nat.add_sub_cancel, gdot, gmul_xor_right]
    congr 1
    rw [gpow, gmul_comm (gpow_lt _ _) hz, gmul_assoc hz (gpow_lt _ _) (hf n)]

/-- Times (z + a). -/
def lin (a : Nat) (f : Nat → Nat) (i : Nat) : Nat := gmul a (f i) ^^^ (if i = 0 then 0 else f (i - 1))
theorem lin_lt (a : Nat) (f : Nat → Nat) (hf : ∀ i, f i < 256) (i : Nat) : lin a f i < 256 := by
  unfold lin
  refine xor8n _ _ (gmul_lt _ _) ?_
  split
  · decide
  · exact hf _
theorem lin_ev (z a : Nat) (f : Nat → Nat) (n : Nat) (hz : z < 256) (ha : a < 256) (hf : ∀ i, f i < 256) (h0 : f n = 0) : gdot (gpow z) (lin a f) (n + 1) = gmul (z ^^^ a) (gdot (gpow z) f (n + 1)) := by
  have h1 : gdot (gpow z) f (n + 1) = gdot (gpow z) f n := by rw [gdot, h0, gmul_zero_right, Nat.xor_zero]
  unfold lin
  rw [gdot_xor_right, gdot_scale_right a (gpow z) f (n + 1) ha (fun _ _ => gpow_lt _ _) (fun t _ => hf t), pow_shift z f n hz hf, gmul_xor_left, h1, Nat.xor_comm]
theorem lin_zero (a : Nat) (f : Nat → Nat) (k : Nat) (h : ∀ i, k ≤ i → f i = 0) : ∀ i, k + 1 ≤ i → lin a f i = 0 := by
  intro i hi
  unfold lin
  rw [h i (by omega), gmul_zero_right, if_neg (by omega), h (i - 1) (by omega)]
  rfl

/-- The product of the (z + c), c below k. -/
def mpol : Nat → Nat → Nat
  | 0 => fun i => if i = 0 then 1 else 0
  | k + 1 => lin k (mpol k)
/-- The sum of the x c times the product of the other (z + c'). -/
def ppol (x : Nat → Nat) : Nat → Nat → Nat
  | 0 => fun _ => 0
  | k + 1 => fun i => lin k (ppol x k) i ^^^ gmul (x k) (mpol k i)

theorem mpol_lt (k : Nat) : ∀ i, mpol k i < 256 := by
  induction k with
  | zero => intro i; simp only [mpol]; split <;> decide
  | succ k ih => exact lin_lt k _ ih
theorem ppol_lt (x : Nat → Nat) (k : Nat) : ∀ i, ppol x k i < 256 := by
  induction k with
  | zero => intro i; exact (by decide : (0 : Nat) < 256)
  | succ k ih => exact fun i => xor8n _ _ (lin_lt k _ ih i) (gmul_lt _ _)
theorem mpol_zero (k : Nat) : ∀ i, k + 1 ≤ i → mpol k i = 0 := by
  induction k with
  | zero => intro i hi; simp only [mpol]; rw [if_neg (by omega)]
  | succ k ih => exact lin_zero k _ _ ih
theorem ppol_zero (x : Nat → Nat) (k : Nat) : ∀ i, k ≤ i → ppol x k i = 0 := by
  induction k with
  | zero => intro i _; rfl
  | succ k ih =>
    intro i hi
    show lin k (ppol x k) i ^^^ gmul (x k) (mpol k i) = 0
    rw [lin_zero k _ _ ih i hi, mpol_zero k i hi, gmul_zero_right]
    rfl

/-- The value at z, all places counted. -/
def val (z : Nat) (f : Nat → Nat) : Nat := gdot (gpow z) f 40
theorem val_lt (z : Nat) (f : Nat → Nat) : val z f < 256 := gdot_lt _ _ _
theorem val_lin (z a : Nat) (f : Nat → Nat) (hz : z < 256) (ha : a < 256) (hf : ∀ i, f i < 256) (h0 : f 39 = 0) : val z (lin a f) = gmul (z ^^^ a) (val z f) := lin_ev z a f 39 hz ha hf h0

theorem val_m (z k : Nat) (hz : z < 256) (hk : k ≤ 16) : val z (mpol (k + 1)) = gmul (z ^^^ k) (val z (mpol k)) :=
  val_lin z k _ hz (by omega) (mpol_lt k) (mpol_zero k 39 (by omega))
theorem val_p (x : Nat → Nat) (z k : Nat) (hz : z < 256) (hk : k ≤ 16) (hx : x k < 256) : val z (ppol x (k + 1)) = gmul (z ^^^ k) (val z (ppol x k)) ^^^ gmul (x k) (val z (mpol k)) := by
  have h1 : val z (ppol x (k + 1)) = val z (lin k (ppol x k)) ^^^ val z (fun i => gmul (x k) (mpol k i)) := gdot_xor_right _ _ _ _
  have h2 : val z (fun i => gmul (x k) (mpol k i)) = gmul (x k) (val z (mpol k)) := gdot_scale_right (x k) (gpow z) (mpol k) 40 hx (fun _ _ => gpow_lt _ _) (fun t _ => mpol_lt k t)
  rw [h1, h2, val_lin z k _ hz (by omega) (ppol_lt x k) (ppol_zero x k 39 (by omega))]

theorem val_m0 (z : Nat) : val z (mpol 0) = 1 := by
  have : ∀ n, gdot (gpow z) (mpol 0) (n + 1) = 1 := by
    intro n
    induction n with
    | zero => simp [gdot, mpol, gpow]; decide
    | succ n ih => rw [gdot, ih]; simp [mpol, gmul_zero_right]
  exact this 39

theorem gmul_ne {a b : Nat} (ha : a < 256) (hb : b < 256) (ha0 : a ≠ 0) (hb0 : b ≠ 0) : gmul a b ≠ 0 := fun h => by
  rcases gmul_eq_zero ha hb h with h | h
  · exact ha0 h
  · exact hb0 h

theorem val_m_ne (z k : Nat) (hz : z < 256) (hk : k ≤ 16) (h : ∀ c, c < k → z ≠ c) : val z (mpol k) ≠ 0 := by
  induction k with
  | zero => rw [val_m0 z]; decide
  | succ k ih =>
    rw [val_m z k hz (by omega)]
    exact gmul_ne (xor8n _ _ hz (by omega)) (val_lt _ _) (xor_ne_zero (h k (by omega))) (ih (by omega) (fun c hc => h c (by omega)))
theorem val_m_zero (z k : Nat) (hz : z < 256) (hk : k ≤ 16) (h : z < k) : val z (mpol k) = 0 := by
  induction k with
  | zero => omega
  | succ k ih =>
    rw [val_m z k hz (by omega)]
    by_cases e : z = k
    · rw [e, Nat.xor_self, gmul_zero]
    · rw [ih (by omega) (by omega), gmul_zero_right]

/-- At a point that is none of the c. -/
theorem val_p_off (x : Nat → Nat) (z k : Nat) (hz : z < 256) (hk : k ≤ 16) (hx : BytV k x) (h : ∀ c, c < k → z ≠ c) : val z (ppol x k) = gmul (val z (mpol k)) (gdot (fun c => ginv (z ^^^ c)) x k) := by
  induction k with
  | zero =>
    have : val z (ppol x 0) = 0 := gdot_zero_right _ _ _ (fun _ _ => rfl)
    rw [this, gdot, gmul_zero_right]
  | succ k ih =>
    have hxk := hx k (by omega)
    have hzk : z ^^^ k < 256 := xor8n _ _ hz (by omega)
    have hne := xor_ne_zero (h k (by omega))
    have hm := val_lt z (mpol k)
    have hg := gdot_lt (fun c => ginv (z ^^^ c)) x k
    rw [val_p x z k hz (by omega) hxk, val_m z k hz (by omega), ih (by omega) (fun i hi => hx i (by omega)) (fun c hc => h c (by omega)), gdot, gmul_xor_right]
    congr 1
    · exact (gmul_assoc hzk hm hg).symm
    · rw [gmul_comm hzk hm, gmul_assoc hm hzk (gmul_lt _ _), ← gmul_assoc hzk (ginv_lt _) hxk, gmul_ginv hzk hne, gmul_one_left hxk, gmul_comm hm hxk]
/-- At one of the c. -/
theorem val_p_on (x : Nat → Nat) (z k : Nat) (hk : k ≤ 16) (hx : BytV k x) (h : z < k) : ∃ W, W < 256 ∧ W ≠ 0 ∧ val z (ppol x k) = gmul (x z) W := by
  induction k with
  | zero => omega
  | succ k ih =>
    have hz : z < 256 := by omega
    have hxk := hx k (by omega)
    rw [val_p x z k hz (by omega) hxk]
    by_cases e : z = k
    · refine ⟨val z (mpol k), val_lt _ _, val_m_ne z k hz (by omega) (fun c hc => by omega), ?_⟩
      rw [e, Nat.xor_self, gmul_zero, Nat.zero_xor]
    · obtain ⟨W, h1, h2, h3⟩ := ih (by omega) (fun i hi => hx i (by omega)) (by omega)
      have hzk : z ^^^ k < 256 := xor8n _ _ hz (by omega)
      have hxz := hx z (by omega)
      refine ⟨gmul (z ^^^ k) W, gmul_lt _ _, gmul_ne hzk h1 (xor_ne_zero e) h2, ?_⟩
      rw [val_m_zero z k hz (by omega) (by omega), gmul_zero_right, Nat.xor_zero, h3, ← gmul_assoc hzk hxz h1, gmul_comm hzk hxz, gmul_assoc hxz hzk h1]

theorem val_p_k (x : Nat → Nat) (z k : Nat) (hk : k ≤ 16) : val z (ppol x k) = gdot (gpow z) (ppol x k) k := by
  have : ∀ d, gdot (gpow z) (ppol x k) (k + d) = gdot (gpow z) (ppol x k) k := by
    intro d
    induction d with
    | zero => rfl
    | succ d ih => rw [← Nat.add_assoc, gdot, ih, ppol_zero x k (k + d) (by omega), gmul_zero_right, Nat.xor_zero]
  have h := this (40 - k)
  rwa [show k + (40 - k) = 40 by omega] at h

/-- ANY k ROWS OF THE CAUCHY GENERATOR HAVE NO KERNEL. -/
theorem cauchy_mds (k : Nat) (hk : k ≤ 16) (ix : Nat → Nat) (hi : ∀ t, t < k → ix t < 256) (hd : ∀ s t, s < k → t < k → ix s = ix t → s = t) : Inj k k (fun t => cauchy k (ix t)) := by
  intro x hx h0
  have hP : ∀ i, i < k → ppol x k i = 0 := by
    refine pow_inj k ix hi hd (ppol x k) (fun i _ => ppol_lt x k i) (fun t ht => ?_)
    have hz := hi t ht
    have e0 : gdot (cauchy k (ix t)) x k = 0 := h0 t ht
    show gdot (gpow (ix t)) (ppol x k) k = 0
    rw [← val_p_k x (ix t) k hk]
    by_cases hr : ix t < k
    · obtain ⟨W, _, _, h3⟩ := val_p_on x (ix t) k hk hx hr
      have e1 : gdot (cauchy k (ix t)) x k = gdot (gone (ix t)) x k := gdot_congr (fun c _ => by unfold cauchy; rw [if_pos hr]) (fun _ _ => rfl)
      rw [e1, gdot_unit (ix t) x k hr (hx _ hr)] at e0
      rw [h3, e0, gmul_zero]
    · have e1 : gdot (cauchy k (ix t)) x k = gdot (fun c => ginv (ix t ^^^ c)) x k := gdot_congr (fun c _ => by unfold cauchy; rw [if_neg hr]) (fun _ _ => rfl)
      rw [val_p_off x (ix t) k hz hk hx (fun c hc => by omega), ← e1, e0, gmul_zero_right]
  intro i hik
  obtain ⟨W, h1, h2, h3⟩ := val_p_on x i k hk hx hik
  have : val i (ppol x k) = 0 := by rw [val_p_k x i k hk]; exact gdot_zero_right _ _ _ hP
  rw [this] at h3
  rcases gmul_eq_zero (hx i hik) h1 h3.symm with h4 | h4
  · exact h4
  · exact absurd h4 h2

theorem vtop_spec (k : Nat) (hk : k ≤ 16) : Byt k k (vtop k) ∧ Inj k k (vtop k) ∧ ∀ x, BytV k x → ∀ r, r < k → gdot (vtop k r) (fun t => gdot (gpow t) x k) k = x r := by
  obtain ⟨s, h1, h2, h3, h4⟩ := vand_top k (by omega)
  have : vtop k = s.2 := by unfold vtop; rw [h1]; rfl
  rw [this]
  exact ⟨h2, h3, h4⟩

theorem vand_dot (k r : Nat) (hk : k ≤ 16) (x : Nat → Nat) (hx : BytV k x) : gdot (vand k r) x k = gdot (gpow r) (fun t => gdot (vtop k t) x k) k := by
  obtain ⟨hb, _, _⟩ := vtop_spec k hk
  exact (gdot_swap (gpow r) (vtop k) x k k (fun _ _ => gpow_lt _ _) hb hx).symm

theorem vand_mds (k : Nat) (hk : k ≤ 16) (ix : Nat → Nat) (hi : ∀ t, t < k → ix t < 256) (hd : ∀ s t, s < k → t < k → ix s = ix t → s = t) : Inj k k (fun t => vand k (ix t)) := by
  intro x hx h0
  obtain ⟨hb, hinj, _⟩ := vtop_spec k hk
  refine hinj x hx (fun r hr => ?_)
  refine pow_inj k ix hi hd (fun t => gdot (vtop k t) x k) (gdot_bytV k k (vtop k) x) (fun t ht => ?_) r hr
  have e0 : gdot (vand k (ix t)) x k = 0 := h0 t ht
  rwa [vand_dot k (ix t) hk x hx] at e0

/-- ANY k ROWS OF A GENERATOR HAVE NO KERNEL. -/
theorem genr_mds (g k : Nat) (hk : k ≤ 16) (ix : Nat → Nat) (hi : ∀ t, t < k → ix t < 16) (hd : ∀ s t, s < k → t < k → ix s = ix t → s = t) : Inj k k (fun t => genr g k (ix t)) := by
  unfold genr
  split
  · exact vand_mds k hk ix (fun t ht => by have := hi t ht; omega) hd
  · exact cauchy_mds k hk ix (fun t ht => by have := hi t ht; omega) hd

/-- The top rows are the unit rows. -/
theorem genr_top (g k i : Nat) (hk : k ≤ 16) (hi : i < k) (x : Nat → Nat) (hx : BytV k x) : gdot (genr g k i) x k = x i := by
  unfold genr
  split
  · obtain ⟨hb, hinj, hl⟩ := vtop_spec k hk
    rw [vand_dot k i hk x hx]
    exact right_inv hinj hl x hx i hi
  · rw [← gdot_unit i x k hi (hx i hi)]
    exact gdot_congr (fun c _ => by unfold cauchy; rw [if_pos hi]) (fun _ _ => rfl)
theorem genr_lt (g k r c : Nat) : genr g k r c < 256 := by
  unfold genr
  split
  · exact vand_lt _ _ _
  · exact cauchy_lt _ _ _

/-- The inverse that Invert finds of k rows of a generator. -/
theorem genr_inv (g k : Nat) (hk : k ≤ 16) (ix : Nat → Nat) (hi : ∀ t, t < k → ix t < 16) (hd : ∀ s t, s < k → t < k → ix s = ix t → s = t) :
    ∃ s, gjS k (fun t => genr g k (ix t)) k = some s ∧ Byt k k s.2 ∧ ∀ p, BytV k p → ∀ t, t < k → gdot (genr g k (ix t)) (fun j => gdot (s.2 j) p k) k = p t := by
  obtain ⟨s, h1, h2, h3, h4⟩ := gj_ok (n := k) (A := fun t => genr g k (ix t)) (fun _ _ _ _ => genr_lt _ _ _ _) (genr_mds g k hk ix hi hd)
  exact ⟨s, h1, h2, right_inv h3 h4⟩
end Go.Proofs.Qxb6500697aDoor
