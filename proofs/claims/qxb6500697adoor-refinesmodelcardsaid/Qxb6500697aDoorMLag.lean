/-
  PLAIN MATHEMATICS: THE MODEL's WEIGHTS (Lagrange, Cauchy) ARE THE GENERATOR's.
-/
import Derived.Test.Qxb6500697aDoorKMds
namespace Go.Proofs.Qxb6500697aDoor

/-- The product of the (z + t), t below k, but for t = j: as Coefficient goes. -/
def lprod (z j : Nat) : Nat → Nat
  | 0 => 1
  | t + 1 => if t = j then lprod z j t else gmul (lprod z j t) (z ^^^ t)
theorem lprod_lt (z j k : Nat) : lprod z j k < 256 := by
  induction k with
  | zero => exact (by decide : (1 : Nat) < 256)
  | succ k ih => unfold lprod; split <;> first | exact ih | exact gmul_lt _ _

/-- What Coefficient gives. -/
def mcoef (g k i j : Nat) : Nat := if i < k then (if i = j then 1 else 0) else if g = 1 then gmul (lprod i j k) (ginv (lprod j j k)) else ginv (i ^^^ j)

theorem lprod_m (z k j : Nat) (hz : z < 256) (hk : k ≤ 16) (hj : k ≤ j) : val z (mpol k) = lprod z j k := by
  induction k with
  | zero => rw [val_m0]; rfl
  | succ k ih =>
    rw [val_m z k hz (by omega), ih (by omega) (by omega), lprod, if_neg (by omega), gmul_comm (xor8n _ _ hz (by omega)) (lprod_lt _ _ _)]

theorem lprod_p (x : Nat → Nat) (z k j : Nat) (hz : z < 256) (hk : k ≤ 16) (hx : x j < 256) (h0 : ∀ c, c ≠ j → x c = 0) : val z (ppol x k) = if j < k then gmul (x j) (lprod z j k) else 0 := by
  induction k with
  | zero => rw [if_neg (by omega)]; exact gdot_zero_right _ _ _ (fun _ _ => rfl)
  | succ k ih =>
    have hzk : z ^^^ k < 256 := xor8n _ _ hz (by omega)
    have hxk : x k < 256 := by
      by_cases e : k = j
      · rw [e]; exact hx
      · rw [h0 k e]; decide
    rw [val_p x z k hz (by omega) hxk, ih (by omega)]
    by_cases e : j = k
    · rw [if_neg (by omega), if_pos (by omega), gmul_zero_right, Nat.zero_xor, lprod_m z k j hz (by omega) (by omega), lprod, if_pos e.symm, e]
    · by_cases hlt : j < k
      · rw [if_pos hlt, if_pos (by omega), h0 k (fun h => e h.symm), gmul_zero, Nat.xor_zero, lprod, if_neg (fun h => e h.symm), ← gmul_assoc hzk hx (lprod_lt _ _ _), gmul_comm hzk hx, gmul_assoc hx hzk (lprod_lt _ _ _), gmul_comm hzk (lprod_lt _ _ _)]
      · rw [if_neg hlt, if_neg (by omega), h0 k (fun h => e h.symm), gmul_zero, gmul_zero_right]
        rfl

theorem lprod_zero (z j k : Nat) (hz : z < k) (hne : z ≠ j) : lprod z j k = 0 := by
  induction k with
  | zero => omega
  | succ k ih =>
    unfold lprod
    by_cases e : k = z
    · rw [if_neg (by omega), e, Nat.xor_self, gmul_zero_right]
    · rw [ih (by omega), gmul_zero]
      split <;> rfl
theorem lprod_ne (z j k : Nat) (hz : z < 256) (hk : k ≤ 16) (h : ∀ c, c < k → c ≠ j → z ≠ c) : lprod z j k ≠ 0 := by
  induction k with
  | zero => exact (by decide : (1 : Nat) ≠ 0)
  | succ k ih =>
    have hi := ih (by omega) (fun c hc => h c (by omega))
    unfold lprod
    by_cases e : k = j
    · rw [if_pos e]; exact hi
    · rw [if_neg e]
      exact gmul_ne (lprod_lt _ _ _) (xor8n _ _ hz (by omega)) hi (xor_ne_zero (h k (by omega) e))

/-- Lagrange's weight is the Vandermonde generator's. -/
theorem lagr_vand (k i j : Nat) (hk : k ≤ 16) (hi : i < 256) (hj : j < k) : gmul (lprod i j k) (ginv (lprod j j k)) = vand k i j := by
  obtain ⟨x, hx⟩ : ∃ x : Nat → Nat, x = fun c => if c = j then ginv (lprod j j k) else 0 := ⟨_, rfl⟩
  have hxj : x j = ginv (lprod j j k) := by rw [hx]; exact if_pos rfl
  have hx0 : ∀ c, c ≠ j → x c = 0 := fun c hc => by rw [hx]; exact if_neg hc
  have hxl : x j < 256 := by rw [hxj]; exact ginv_lt _
  have hv : ∀ z, z < 256 → gdot (gpow z) (ppol x k) k = gmul (x j) (lprod z j k) := fun z hz => by
    rw [← val_p_k x z k hk, lprod_p x z k j hz hk hxl hx0, if_pos hj]
  obtain ⟨hb, _, hl⟩ := vtop_spec k hk
  have hcol : ∀ r, r < k → vtop k r j = ppol x k r := by
    intro r hr
    have h1 := hl (ppol x k) (fun i _ => ppol_lt x k i) r hr
    have h2 : gdot (vtop k r) (fun t => gdot (gpow t) (ppol x k) k) k = gdot (vtop k r) (gone j) k := by
      refine gdot_congr (fun _ _ => rfl) (fun t ht => ?_)
      show gdot (gpow t) (ppol x k) k = gone j t
      rw [hv t (by omega)]
      by_cases e : t = j
      · subst e
        rw [hxj, gmul_comm (ginv_lt _) (lprod_lt _ _ _), gmul_ginv (lprod_lt _ _ _) (lprod_ne t t k (by omega) hk (fun c _ h => fun h2 => h h2.symm))]
        unfold gone; rw [if_pos rfl]
      · rw [lprod_zero t j k ht e, gmul_zero_right]
        unfold gone; rw [if_neg (fun h => e h.symm)]
    have h3 : gdot (vtop k r) (gone j) k = vtop k r j := by
      rw [gdot_comm _ _ _ (hb r hr) (fun t _ => gone_lt _ _), gdot_unit j (vtop k r) k hj (hb r hr j hj)]
    rw [← h3, ← h2, h1]
  have h4 : vand k i j = gdot (gpow i) (ppol x k) k := gdot_congr (fun _ _ => rfl) hcol
  rw [h4, hv i hi, hxj, gmul_comm (lprod_lt _ _ _) (ginv_lt _)]

theorem vand_unit (k i j : Nat) (hk : k ≤ 16) (hi : i < k) (hj : j < k) : vand k i j = gone i j := by
  have h1 := genr_top 1 k i hk hi (gone j) (fun t _ => gone_lt _ _)
  have h2 : genr 1 k = vand k := rfl
  rw [h2] at h1
  rw [gdot_comm _ _ _ (fun t _ => vand_lt _ _ _) (fun t _ => gone_lt _ _), gdot_unit j (vand k i) k hj (vand_lt _ _ _)] at h1
  rw [h1]
  unfold gone
  by_cases e : i = j
  · rw [if_pos e, if_pos e.symm]
  · rw [if_neg e, if_neg (fun h => e h.symm)]

/-- THE MODEL's WEIGHT IS THE GENERATOR's. -/
theorem mcoef_genr (g k i j : Nat) (hk : k ≤ 16) (hi : i < 16) (hj : j < k) : mcoef g k i j = genr g k i j := by
  unfold mcoef
  by_cases h : i < k
  · rw [if_pos h]
    have e : genr g k i j = gone i j := by
      unfold genr
      split
      · exact vand_unit k i j hk h hj
      · unfold cauchy; rw [if_pos h]
    rw [e]; rfl
  · rw [if_neg h]
    unfold genr
    split
    · exact lagr_vand k i j hk (by omega) hj
    · unfold cauchy; rw [if_neg h]
theorem mcoef_lt (g k i j : Nat) : mcoef g k i j < 256 := by
  unfold mcoef
  split
  · split <;> decide
  · split
    · exact gmul_lt _ _
    · exact ginv_lt _
end Go.Proofs.Qxb6500697aDoor
