/-
  PLAIN: LISTS OF SHARDS THAT READ ALIKE GET THE SAME ANSWERS.
-/
import Derived.Test.Qxb6500697aDoorMDecW
namespace Go.Proofs.Qxb6500697aDoor

/-- The two lists read alike. -/
structure SL (ss ts : List Sd) : Prop where
  len : ss.length = ts.length
  eq : ∀ j, j < ss.length → (ss.getD j Sd.zero).same (ts.getD j Sd.zero)

theorem Sd.same.symm {x y : Sd} (h : x.same y) : y.same x := ⟨h.1.symm, h.2.1.symm, h.2.2.1.symm, h.2.2.2.1.symm, fun i hi => (h.2.2.2.2 i (by rw [h.2.2.2.1]; exact hi)).symm⟩
theorem Sd.same.trans {x y z : Sd} (h : x.same y) (k : y.same z) : x.same z := ⟨h.1.trans k.1, h.2.1.trans k.2.1, h.2.2.1.trans k.2.2.1, h.2.2.2.1.trans k.2.2.2.1, fun i hi => (h.2.2.2.2 i hi).trans (k.2.2.2.2 i (by rw [← h.2.2.2.1]; exact hi))⟩
theorem Sd.same.rfl' (x : Sd) : x.same x := ⟨rfl, rfl, rfl, rfl, fun _ _ => rfl⟩
theorem SL.symm {ss ts : List Sd} (h : SL ss ts) : SL ts ss := ⟨h.len.symm, fun j hj => (h.eq j (by rw [h.len]; exact hj)).symm⟩
theorem SL.trans {ss ts us : List Sd} (h : SL ss ts) (k : SL ts us) : SL ss us := ⟨h.len.trans k.len, fun j hj => (h.eq j hj).trans (k.eq j (by rw [← h.len]; exact hj))⟩
theorem SL.nil : SL [] [] := ⟨rfl, fun j hj => by simp at hj⟩
theorem SL.refl (ss : List Sd) : SL ss ss := ⟨rfl, fun _ _ => Sd.same.rfl' _⟩
theorem SL.push {ss ts : List Sd} {x y : Sd} (h : SL ss ts) (hx : x.same y) : SL (ss ++ [x]) (ts ++ [y]) := by
  have hl := h.len
  refine ⟨by simp [hl], fun j hj => ?_⟩
  simp only [List.length_append, List.length_singleton] at hj
  by_cases e : j < ss.length
  · have h1 := h.eq j e
    rw [getD_lt (by simp; omega), getD_lt (by simp; omega), List.getElem_append_left e, List.getElem_append_left (by omega), ← getD_lt (d := Sd.zero), ← getD_lt (d := Sd.zero)]
    exact h1
  · have e1 : j = ss.length := by omega
    subst e1
    rw [getD_lt (by simp), getD_lt (by simp; omega)]
    simp [hl]
    exact hx
theorem SL.append {ss ts us vs : List Sd} (h : SL ss ts) (k : SL us vs) : SL (ss ++ us) (ts ++ vs) := by
  have hl := h.len
  have kl := k.len
  refine ⟨by simp [hl, kl], fun j hj => ?_⟩
  simp only [List.length_append] at hj
  by_cases e : j < ss.length
  · have h1 := h.eq j e
    rw [getD_lt (by simp; omega), getD_lt (by simp; omega), List.getElem_append_left e, List.getElem_append_left (by omega), ← getD_lt (d := Sd.zero), ← getD_lt (d := Sd.zero)]
    exact h1
  · have h1 := k.eq (j - ss.length) (by omega)
    rw [getD_lt (by simp; omega), getD_lt (by simp; omega), List.getElem_append_right (by omega), List.getElem_append_right (by omega)]
    rw [getD_lt (by omega), getD_lt (by omega)] at h1
    have e2 : (vs[j - ts.length]'(by omega)) = vs[j - ss.length]'(by omega) := by simp [hl]
    rw [e2]
    exact h1
theorem SL.set {ss ts : List Sd} {x y : Sd} (h : SL ss ts) (i : Nat) (hx : x.same y) : SL (ss.set i x) (ts.set i y) := by
  have hl := h.len
  refine ⟨by simp [hl], fun j hj => ?_⟩
  simp only [List.length_set] at hj
  rw [getD_lt (by simp; omega), getD_lt (by simp; omega), List.getElem_set, List.getElem_set]
  have h1 := h.eq j hj
  rw [getD_lt hj, getD_lt (by omega)] at h1
  by_cases e : i = j
  · rw [if_pos e, if_pos e]; exact hx
  · rw [if_neg e, if_neg e]; exact h1

theorem SL.mem {ss ts : List Sd} (h : SL ss ts) {x : Sd} (hx : x ∈ ss) : ∃ y ∈ ts, x.same y := by
  obtain ⟨j, hj, rfl⟩ := List.getElem_of_mem hx
  refine ⟨ts.getD j Sd.zero, getD_mem (by rw [← h.len]; exact hj), ?_⟩
  have := h.eq j hj
  rw [getD_lt hj] at this
  exact this
theorem SL.map {ss ts : List Sd} (h : SL ss ts) {α : Type} (f : Sd → α) (hf : ∀ x y : Sd, x.same y → f x = f y) : ss.map f = ts.map f := by
  refine List.ext_getElem (by simp [h.len]) (fun j h1 h2 => ?_)
  simp only [List.getElem_map]
  simp only [List.length_map] at h1 h2
  have := h.eq j h1
  rw [getD_lt h1, getD_lt h2] at this
  exact hf _ _ this
theorem SL.g0 {ss ts : List Sd} (h : SL ss ts) : g0of ss = g0of ts := by
  have := h.map Sd.g (fun _ _ e => e.1)
  cases ss with
  | nil => cases ts with
    | nil => rfl
    | cons y l => simp at this
  | cons x l => cases ts with
    | nil => simp at this
    | cons y l => simp at this; exact this.1
theorem SL.ol0 {ss ts : List Sd} (h : SL ss ts) : ol0of ss = ol0of ts := by
  have := h.map Sd.ol (fun _ _ e => e.2.2.1)
  cases ss with
  | nil => cases ts with
    | nil => rfl
    | cons y l => simp at this
  | cons x l => cases ts with
    | nil => simp at this
    | cons y l => simp at this; exact this.1
theorem SL.ixs {ss ts : List Sd} (h : SL ss ts) : (ss.map fun x => x.ix.toNat) = ts.map fun x => x.ix.toNat := h.map (fun x => x.ix.toNat) (fun _ _ e => by rw [e.2.1])

theorem SL.shapeBad {k : Nat} {ss ts : List Sd} (h : SL ss ts) (hb : shapeBad k ss) : shapeBad k ts := by
  unfold Go.Proofs.Qxb6500697aDoor.shapeBad at *
  rw [← h.g0, ← h.ol0]
  rcases hb with hb | hb | ⟨x, hx, hb⟩
  · exact .inl hb
  · exact .inr (.inl hb)
  · obtain ⟨y, hy, he⟩ := h.mem hx
    refine .inr (.inr ⟨y, hy, ?_⟩)
    rw [← he.2.2.1, ← he.2.2.2.1]
    exact hb
theorem SL.gcls2 {k : Nat} {ss ts : List Sd} (h : SL ss ts) : gcls2 k ss = gcls2 k ts := by
  by_cases h0 : ss = []
  · have : ts = [] := by have := h.len; rw [h0] at this; exact List.length_eq_zero_iff.1 this.symm
    rw [gcls2_nil k h0, gcls2_nil k this]
  · have h1 : ts ≠ [] := fun e => h0 (by have := h.len; rw [e] at this; exact List.length_eq_zero_iff.1 this)
    by_cases hs : Go.Proofs.Qxb6500697aDoor.shapeBad k ss
    · rw [gcls2_shape h0 hs, gcls2_shape h1 (h.shapeBad hs)]
    · have hs' : ¬ Go.Proofs.Qxb6500697aDoor.shapeBad k ts := fun e => hs (h.symm.shapeBad e)
      have hl := h.len
      by_cases hf : ss.length < k
      · rw [gcls2_few h0 hs hf, gcls2_few h1 hs' (by omega)]
      · rw [gcls2_ok h0 hs hf, gcls2_ok h1 hs' (by omega)]

/-- The refusals are the same. -/
theorem SL.gcls {k N : Nat} {ss ts : List Sd} (h : SL ss ts) : gcls k N ss = gcls k N ts := by
  by_cases h1 : ∃ x ∈ ss, ¬ goodG x.g
  · have h1' : ∃ x ∈ ts, ¬ goodG x.g := by
      obtain ⟨x, hx, hg⟩ := h1
      obtain ⟨y, hy, he⟩ := h.mem hx
      exact ⟨y, hy, by rw [← he.1]; exact hg⟩
    rw [gcls_gen h1, gcls_gen h1']
  · have a1 : ∀ x ∈ ss, goodG x.g := fun x hx => Classical.byContradiction fun hn => h1 ⟨x, hx, hn⟩
    have b1 : ∀ y ∈ ts, goodG y.g := fun y hy => by
      obtain ⟨x, hx, he⟩ := h.symm.mem hy
      rw [he.1]; exact a1 x hx
    by_cases h2 : ∃ x ∈ ss, x.ix < 0 ∨ (N : Int) ≤ x.ix
    · have h2' : ∃ x ∈ ts, x.ix < 0 ∨ (N : Int) ≤ x.ix := by
        obtain ⟨x, hx, hg⟩ := h2
        obtain ⟨y, hy, he⟩ := h.mem hx
        exact ⟨y, hy, by rw [← he.2.1]; exact hg⟩
      rw [gcls_ix a1 h2, gcls_ix b1 h2']
    · have a2 : ∀ x ∈ ss, 0 ≤ x.ix ∧ x.ix < (N : Int) := fun x hx => by
        have : ¬ (x.ix < 0 ∨ (N : Int) ≤ x.ix) := fun hn => h2 ⟨x, hx, hn⟩
        omega
      have b2 : ∀ y ∈ ts, 0 ≤ y.ix ∧ y.ix < (N : Int) := fun y hy => by
        obtain ⟨x, hx, he⟩ := h.symm.mem hy
        rw [he.2.1]; exact a2 x hx
      by_cases h3 : ∃ x ∈ ss, x.g ≠ g0of ss
      · have h3' : ∃ x ∈ ts, x.g ≠ g0of ts := by
          obtain ⟨x, hx, hg⟩ := h3
          obtain ⟨y, hy, he⟩ := h.mem hx
          exact ⟨y, hy, by rw [← he.1, ← h.g0]; exact hg⟩
        rw [gcls_mix (fun x hx => ⟨a1 x hx, a2 x hx⟩) h3, gcls_mix (fun x hx => ⟨b1 x hx, b2 x hx⟩) h3']
      · have a3 : ∀ x ∈ ss, Fit1 N (g0of ss) x := fun x hx => ⟨a1 x hx, a2 x hx, Classical.byContradiction fun hn => h3 ⟨x, hx, hn⟩⟩
        have b3 : ∀ y ∈ ts, Fit1 N (g0of ts) y := fun y hy => by
          obtain ⟨x, hx, he⟩ := h.symm.mem hy
          exact ⟨b1 y hy, b2 y hy, by rw [he.1, ← h.g0]; exact (a3 x hx).same⟩
        by_cases h4 : (ss.map fun x => x.ix.toNat).Nodup
        · rw [gcls_two a3 h4, gcls_two b3 (by rw [← h.ixs]; exact h4), h.gcls2]
        · rw [gcls_dup a3 h4, gcls_dup b3 (by rw [← h.ixs]; exact h4)]

theorem SL.good {k N : Nat} {ss ts : List Sd} (h : SL ss ts) (hG : Good k N ss) : Good k N ts := good_of_gcls (by rw [← h.gcls]; exact gcls_good hG)
theorem SL.fits {k N : Nat} {ss ts : List Sd} (h : SL ss ts) (hG : Good k N ss) {D : Nat → Nat → Nat} (hf : Fits (g0of ss) k (psize (g0of ss) k (ol0of ss).toNat) ss D) : Fits (g0of ts) k (psize (g0of ts) k (ol0of ts).toNat) ts D := by
  rw [← h.g0, ← h.ol0]
  intro y hy c hc
  obtain ⟨x, hx, he⟩ := h.symm.mem hy
  rw [he.2.1, hf x hx c hc]
  refine (he.2.2.2.2 c ?_).symm
  rw [he.2.2.2.1, (hG.shape x hx).2]
  exact hc
theorem SL.noRows {k N : Nat} {ss ts : List Sd} (h : SL ss ts) (hG : Good k N ss) (hn : NoRows k ss) : NoRows k ts := by
  rintro ⟨D, h1, h2, h3⟩
  have hs := h.symm.fits (h.good hG) h2
  refine hn ⟨D, ?_, hs, ?_⟩
  · rw [h.g0, h.ol0]; exact h1
  · rw [h.g0, h.ol0]; exact h3

/-- Rows that fit both lists hold the same object. -/
theorem SL.obj {k N : Nat} {ss ts : List Sd} (h : SL ss ts) (hk : 1 ≤ k) (hk16 : k ≤ 16) (hN : N ≤ 16) (hG : Good k N ss) {D D' : Nat → Nat → Nat} (hb : BytD k (psize (g0of ss) k (ol0of ss).toNat) D) (hf : Fits (g0of ss) k (psize (g0of ss) k (ol0of ss).toNat) ss D)
    (hb' : BytD k (psize (g0of ts) k (ol0of ts).toNat) D') (hf' : Fits (g0of ts) k (psize (g0of ts) k (ol0of ts).toNat) ts D') : ∀ p, p < (ol0of ss).toNat → col k (punit (g0of ss) k (ol0of ss).toNat) D p = col k (punit (g0of ts) k (ol0of ts).toNat) D' p := by
  have hf2 := h.symm.fits (h.good hG) hf'
  rw [← h.g0, ← h.ol0] at hb' ⊢
  have hu := fits_uniq hk16 hN hG hb hb' hf hf2
  intro p hp
  obtain ⟨_, ⟨r, hr⟩, hfit⟩ := plan_fits (g0of ss) k (ol0of ss).toNat hk
  exact col_congr (by omega) hr hu (Nat.lt_of_lt_of_le hp hfit)
end Go.Proofs.Qxb6500697aDoor
