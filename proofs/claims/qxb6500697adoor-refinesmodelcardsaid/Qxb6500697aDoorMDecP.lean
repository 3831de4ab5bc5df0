/-
  PLAIN MATHEMATICS: THE MODEL's Decode ANSWERS AS restore DOES.
-/
import Derived.Test.Qxb6500697aDoorKLoop
namespace Go.Proofs.Qxb6500697aDoor

theorem pos_lt {k u r j c : Nat} (hj : j < k) (hc : c < r * u) : pos k u j c < k * (r * u) := by
  have hu : 0 < u := by
    rcases Nat.eq_zero_or_pos u with h | h
    · rw [h, Nat.mul_zero] at hc; omega
    · exact h
  have h1 : c / u < r := (Nat.div_lt_iff_lt_mul hu).2 hc
  have h2 := Nat.mod_lt c hu
  have h3 : (c / u) * k + j < r * k := by
    have := Nat.mul_le_mul_right k h1
    rw [Nat.succ_mul] at this
    omega
  have h4 := Nat.mul_le_mul_right u h3
  rw [Nat.succ_mul] at h4
  unfold pos
  have e : k * (r * u) = r * k * u := by rw [← Nat.mul_assoc, Nat.mul_comm k r]
  omega

theorem col_pos {k u : Nat} (D : Nat → Nat → Nat) {j c : Nat} (hu : 0 < u) (hj : j < k) : col k u D (pos k u j c) = D j c := by
  unfold col
  obtain ⟨h1, h2⟩ := pos_turn k u j c (pos k u j c / u) hu hj rfl
  rw [← h1, ← h2]

theorem mdec_yes {k : Nat} {ss : List Sd} {D0 : Nat → Nat → Nat} (hk : 1 ≤ k) (hk16 : k ≤ 16)
    (hb0 : BytD k (psize (g0of ss) k (ol0of ss).toNat) D0)
    (hall : ∀ x ∈ ss, ∀ c, c < psize (g0of ss) k (ol0of ss).toNat → pay (g0of ss) k (ol0of ss).toNat (col k (punit (g0of ss) k (ol0of ss).toNat) D0) x.ix.toNat c = x.P c) :
    ∃ D, BytD k (psize (g0of ss) k (ol0of ss).toNat) D ∧ Fits (g0of ss) k (psize (g0of ss) k (ol0of ss).toNat) ss D ∧ PadZ k (punit (g0of ss) k (ol0of ss).toNat) (psize (g0of ss) k (ol0of ss).toNat) (ol0of ss).toNat D ∧ ∀ p, p < (ol0of ss).toNat → col k (punit (g0of ss) k (ol0of ss).toNat) D p = col k (punit (g0of ss) k (ol0of ss).toNat) D0 p := by
  generalize g0of ss = g at *
  generalize (ol0of ss).toNat = n at *
  obtain ⟨hp1, ⟨r, hr⟩, hfit⟩ := plan_fits g k n hk
  have hcb : ∀ p, p < n → col k (punit g k n) D0 p < 256 := fun p hp => by
    obtain ⟨h1, h2⟩ := col_bound (k := k) (u := punit g k n) (by omega) hr (Nat.lt_of_lt_of_le hp hfit)
    exact hb0 _ h1 _ h2
  refine ⟨sprd k (punit g k n) n (col k (punit g k n) D0), fun j _ c _ => ?_, fun x hx c hc => ?_, fun p hnp hp => ?_, fun p hp => ?_⟩
  · unfold sprd
    split
    · exact hcb _ (by assumption)
    · decide
  · rw [← hall x hx c hc, pay_dot g k n _ hk16 hcb]
  · have hu : 0 < punit g k n := by
      rcases Nat.eq_zero_or_pos (punit g k n) with h | h
      · rw [hr, h, Nat.mul_zero, Nat.mul_zero] at hp; omega
      · exact h
    rw [col_sprd k _ n _ p hu, if_neg (by omega)]
  · rw [col_sprd k _ n _ p (hp1 (by omega)), if_pos hp]

theorem mdec_no {k N : Nat} {ss : List Sd} {D0 : Nat → Nat → Nat} (hk : 1 ≤ k) (hk16 : k ≤ 16) (hN : N ≤ 16) (hG : Good k N ss)
    (hb0 : BytD k (psize (g0of ss) k (ol0of ss).toNat) D0)
    (hf0 : ∀ t, t < k → ∀ c, c < psize (g0of ss) k (ol0of ss).toNat → gdot (genr (g0of ss) k (ss.getD t Sd.zero).ix.toNat) (fun j => D0 j c) k = (ss.getD t Sd.zero).P c)
    (hno : ¬ ∀ x ∈ ss, ∀ c, c < psize (g0of ss) k (ol0of ss).toNat → pay (g0of ss) k (ol0of ss).toNat (col k (punit (g0of ss) k (ol0of ss).toNat) D0) x.ix.toNat c = x.P c) : NoRows k ss := by
  rintro ⟨D, hD1, hD2, hD3⟩
  apply hno
  have hlen := hG.len
  have hfit := hG.fit
  have hnd := hG.nodup
  generalize g0of ss = g at *
  generalize (ol0of ss).toNat = n at *
  obtain ⟨hp1, ⟨r, hr⟩, hfitn⟩ := plan_fits g k n hk
  have huniq : ∀ j, j < k → ∀ c, c < psize g k n → D0 j c = D j c := by
    intro j hj c hc
    have hi := genr_mds g k hk16 (fun t => (ss.getD t Sd.zero).ix.toNat) (fun t ht => by
        have hm : ss.getD t Sd.zero ∈ ss := getD_mem (by omega)
        have := (hfit _ hm).ix
        omega) (fun s t hs ht e => by
        have e1 : (ss.map fun x => x.ix.toNat)[s]'(by simp; omega) = (ss.map fun x => x.ix.toNat)[t]'(by simp; omega) := by
          rw [List.getElem_map, List.getElem_map, ← getD_lt (d := Sd.zero), ← getD_lt (d := Sd.zero)]
          exact e
        exact (List.getElem_inj hnd).1 e1)
    have h0 := hi (fun j => D0 j c ^^^ D j c) (fun j hj => xor8n _ _ (hb0 j hj c hc) (hD1 j hj c hc)) (fun t ht => by
      have hm : ss.getD t Sd.zero ∈ ss := getD_mem (by omega)
      rw [gdot_xor_right, hf0 t ht c hc, hD2 _ hm c hc, Nat.xor_self]) j hj
    exact Classical.byContradiction fun hne => xor_ne_zero hne h0
  have hcb : ∀ p, p < n → col k (punit g k n) D0 p < 256 := fun p hp => by
    obtain ⟨h1, h2⟩ := col_bound (k := k) (u := punit g k n) (by omega) hr (Nat.lt_of_lt_of_le hp hfitn)
    exact hb0 _ h1 _ h2
  intro x hx c hc
  rw [pay_dot g k n _ hk16 hcb, ← hD2 x hx c hc]
  refine gdot_congr (fun _ _ => rfl) (fun j hj => ?_)
  have hu : 0 < punit g k n := by
    rcases Nat.eq_zero_or_pos (punit g k n) with h | h
    · rw [hr, h, Nat.mul_zero] at hc; omega
    · exact h
  show sprd k (punit g k n) n (col k (punit g k n) D0) j c = D j c
  unfold sprd
  by_cases hp : pos k (punit g k n) j c < n
  · rw [if_pos hp, col_pos D0 hu hj]; exact huniq j hj c hc
  · rw [if_neg hp]
    have h1 := hD3 (pos k (punit g k n) j c) (by omega) (by rw [hr] at hc ⊢; exact pos_lt hj hc)
    rw [col_pos D hu hj] at h1
    exact h1.symm
end Go.Proofs.Qxb6500697aDoor
