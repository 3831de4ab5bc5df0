/-
  ONE BYTE OF A COPY CHANGED; PADDING THAT IS NOT ZERO FITS NO ROWS.
-/
import Derived.Test.Qxb6500697aDoorKCopies
import Derived.Test.Qxb6500697aDoorKLoop
import Derived.Test.Qxb6500697aDoorKHome
namespace Go.Proofs.Qxb6500697aDoor
open Go.RowKit

/-- Byte off of copy j0 is v. -/
def tamp (f : Nat → Sd) (j0 off v i : Nat) : Sd := if i = j0 then { f i with P := fun c => if c = off then v else (f i).P c } else f i

theorem CpRel.tamper {w wr : World} {ss : List Sd} {f : Nat → Sd} {ao : Option Addr} (h : CpRel w wr ss f ss.length) (hS : SdRow w ao ss) {j0 off v gB : Nat} (hj : j0 < ss.length) (hoff : off < (f j0).pl) (hv : v < 256) (hg : (f j0).pa = some ⟨gB, 0, none⟩) :
    SdRow (wr.setCell ⟨gB, off, none⟩ (.int .u8 (v : Int))) (some ⟨w.heap.size, 0, none⟩) ((List.range ss.length).map (tamp f j0 off v)) ∧ w.heap.size < gB ∧ gB < wr.heap.size := by
  have hpos : 0 < (f j0).pl := by omega
  obtain ⟨g', q1, q2, q3⟩ := h.own j0 hj hpos
  rw [hg] at q1
  obtain rfl : gB = g' := congrArg (fun x : Option Addr => (x.getD ⟨0, 0, none⟩).block) q1
  have hO : Only gB wr (wr.setCell ⟨gB, off, none⟩ (.int .u8 (v : Int))) := (Only.refl _ _).setCell _ _
  refine ⟨SdRow.of_rowIs (f := tamp f j0 off v) ?_ (fun j hj => by simp) (fun s hs => ?_), q2, q3.lt⟩
  · have e : ((List.range ss.length).map (tamp f j0 off v)).length = ss.length := by simp
    rw [e]
    refine (h.row.of_block (hO.block _ (by omega))).congr (fun p hp => ?_)
    rw [if_pos hp]
    unfold sdc tamp
    by_cases e : p / 4 = j0
    · simp only [if_pos e]
    · simp only [if_neg e]
  · obtain ⟨i, hi, rfl⟩ := List.mem_map.1 hs
    have hi' := List.mem_range.1 hi
    obtain ⟨pa, pc, e1, e2, e3⟩ := h.eq i hi'
    have hok := hS.ok _ (getD_mem (d := Sd.zero) hi')
    have hpl : (f i).pl = (ss.getD i Sd.zero).pl := by rw [e1]; rfl
    have hgi : (f i).g = (ss.getD i Sd.zero).g := by rw [e1]; rfl
    have hxi : (f i).ix = (ss.getD i Sd.zero).ix := by rw [e1]; rfl
    have hoi : (f i).ol = (ss.getD i Sd.zero).ol := by rw [e1]; rfl
    have hpc : (f i).pc = pc := by rw [e1]; rfl
    unfold tamp
    by_cases e : i = j0
    · subst e
      rw [if_pos rfl]
      refine ⟨by rw [hgi]; exact hok.hg, by rw [hxi]; exact hok.hix, by rw [hoi]; exact hok.hol, ?_, by rw [hpc, hpl]; exact e2, by rw [hpc]; exact e3⟩
      show FRow _ (f i).pa (f i).pl _
      rw [hg]
      exact (q3.set off v hv).frow
    · rw [if_neg e]
      refine ⟨by rw [hgi]; exact hok.hg, by rw [hxi]; exact hok.hix, by rw [hoi]; exact hok.hol, (h.pay i hi').only hO (fun h0 b o he => ?_), by rw [hpc, hpl]; exact e2, by rw [hpc]; exact e3⟩
      intro hbg
      obtain ⟨g2, r1, _, _⟩ := h.own i hi' h0
      have hne := h.apart i j0 hi' hj e h0 hpos
      rw [r1] at he
      have h5 : g2 = b := congrArg (fun x : Option Addr => (x.getD ⟨0, 0, none⟩).block) he
      exact hne (by rw [r1, hg, h5, hbg])

theorem hunit_eq (g k n : Nat) : hunit g (psize g k n) = punit g k n := by
  unfold hunit psize punit
  by_cases e : g = 3
  · simp [e]
  · simp [e]

/-- The data shards, one byte of the padding changed: good, and no rows fit. -/
theorem pad_norows {k N g n p mask : Nat} {pb po : Nat → Nat} {fo : Nat → Nat} {f : Nat → Sd} (hk : 1 ≤ k) (hkN : k ≤ N) (hN : N ≤ 16) (hg : g = 1 ∨ g = 2 ∨ g = 3) (hn : n ≤ 256) (hm : mask ≠ 0)
    (hf : ∀ i, i < k → ∃ pa pc, f i = (mkSd g n (psize g k n) pb po (pay g k n fo) i).with pa pc) (hp1 : n ≤ p) (hp2 : p < k * psize g k n) :
    Good k N ((List.range k).map (tamp f (p / punit g k n % k) (p / punit g k n / k * punit g k n + p % punit g k n) mask)) ∧
    NoRows k ((List.range k).map (tamp f (p / punit g k n % k) (p / punit g k n / k * punit g k n + p % punit g k n) mask)) := by
  obtain ⟨_, ⟨r, hr⟩, _⟩ := plan_fits g k n hk
  obtain ⟨hj, hoff⟩ := col_bound (by omega) hr hp2
  obtain ⟨u, hu⟩ : ∃ u, punit g k n = u := ⟨_, rfl⟩
  rw [hu] at hj hoff hr ⊢
  obtain ⟨j0, hj0⟩ : ∃ j0, p / u % k = j0 := ⟨_, rfl⟩
  obtain ⟨off, ho0⟩ : ∃ off, p / u / k * u + p % u = off := ⟨_, rfl⟩
  rw [hj0] at hj ⊢
  rw [ho0] at hoff ⊢
  have hfld : ∀ i, i < k → (tamp f j0 off mask i).g = g ∧ (tamp f j0 off mask i).ix = (i : Int) ∧ (tamp f j0 off mask i).ol = (n : Int) ∧ (tamp f j0 off mask i).pl = psize g k n := by
    intro i hi
    obtain ⟨pa, pc, e1⟩ := hf i hi
    unfold tamp
    split
    · rw [e1]; exact ⟨rfl, rfl, rfl, rfl⟩
    · rw [e1]; exact ⟨rfl, rfl, rfl, rfl⟩
  have hmem : ∀ x ∈ (List.range k).map (tamp f j0 off mask), ∃ i, i < k ∧ x = tamp f j0 off mask i := by
    intro x hx
    obtain ⟨i, hi, rfl⟩ := List.mem_map.1 hx
    exact ⟨i, List.mem_range.1 hi, rfl⟩
  have hne : (List.range k).map (tamp f j0 off mask) ≠ [] := by
    intro h
    have := congrArg List.length h
    simp at this
    omega
  have hg0 := g0of_all hne (g := g) (fun x hx => by obtain ⟨i, hi, rfl⟩ := hmem x hx; exact (hfld i hi).1)
  have hol := ol0of_all hne (n := (n : Int)) (fun x hx => by obtain ⟨i, hi, rfl⟩ := hmem x hx; exact (hfld i hi).2.2.1)
  refine ⟨⟨hne, fun x hx => ?_, ?_, by rw [hol]; omega, fun x hx => ?_, by simp⟩, ?_⟩
  · obtain ⟨i, hi, rfl⟩ := hmem x hx
    obtain ⟨h1, h2, _, _⟩ := hfld i hi
    exact ⟨by rw [h1]; exact hg, by rw [h2]; omega, by rw [h1, hg0]⟩
  · rw [List.map_map]
    have e : ∀ i ∈ List.range k, ((fun x : Sd => x.ix.toNat) ∘ tamp f j0 off mask) i = id i := by
      intro i hi
      show (tamp f j0 off mask i).ix.toNat = i
      rw [(hfld i (List.mem_range.1 hi)).2.1]; rfl
    rw [List.map_congr_left e, List.map_id]
    exact List.nodup_range
  · obtain ⟨i, hi, rfl⟩ := hmem x hx
    obtain ⟨_, _, h3, h4⟩ := hfld i hi
    rw [hg0, hol]
    exact ⟨h3, h4⟩
  · rintro ⟨D, hD1, hD2, hD3⟩
    rw [hg0, hol, Int.toNat_natCast] at hD1 hD2 hD3
    rw [hu] at hD3
    have h1 := hD2 (tamp f j0 off mask j0) (List.mem_map.2 ⟨j0, List.mem_range.2 hj, rfl⟩) off hoff
    rw [(hfld j0 hj).2.1, Int.toNat_natCast, genr_top g k j0 (by omega) hj (fun j => D j off) (fun j hj => hD1 j hj off hoff)] at h1
    have h2 : (tamp f j0 off mask j0).P off = mask := by unfold tamp; rw [if_pos rfl]; simp
    rw [h2] at h1
    have h3 := hD3 p hp1 hp2
    unfold col at h3
    rw [hj0, ho0] at h3
    exact hm (h1.symm.trans h3)

/-- The byte of the padding is zero before the change. -/
theorem pad_zero {k g n p : Nat} {fo : Nat → Nat} (hk : 1 ≤ k) (hp1 : n ≤ p) (hp2 : p < k * psize g k n) : pay g k n fo (p / punit g k n % k) (p / punit g k n / k * punit g k n + p % punit g k n) = 0 := by
  obtain ⟨_, ⟨r, hr⟩, _⟩ := plan_fits g k n hk
  obtain ⟨hj, hoff⟩ := col_bound (by omega) hr hp2
  have hu : 0 < punit g k n := by
    rcases Nat.eq_zero_or_pos (punit g k n) with h0 | h0
    · rw [h0, Nat.mul_zero] at hr; rw [hr, Nat.mul_zero] at hp2; omega
    · exact h0
  unfold pay
  rw [if_pos hj]
  have h := col_sprd k (punit g k n) n fo p hu
  unfold col at h
  rw [h, if_neg (by omega)]

theorem SdRow.take {w : World} {ao : Option Addr} {ss : List Sd} (h : SdRow w ao ss) (k : Nat) : SdRow w ao (ss.take k) := by
  refine ⟨fun h0 => ?_, fun s hs => h.ok s (List.mem_of_mem_take hs)⟩
  have hl : (ss.take k).length ≤ ss.length := by simp; omega
  obtain ⟨b, ha, hr⟩ := h.row (by omega)
  refine ⟨b, ha, fun j hj => ?_⟩
  have hj' : j < ss.length := by omega
  have e : (ss.take k)[j] = ss[j] := by simp
  rw [e]
  exact hr j hj'
theorem shL_take {N g n size k : Nat} {pb po : Nat → Nat} {P : Nat → Nat → Nat} (hk : k ≤ N) : (shL N g n size pb po P).take k = shL k g n size pb po P := by
  unfold shL
  rw [← List.map_take, List.take_range, Nat.min_eq_left hk]
end Go.Proofs.Qxb6500697aDoor
