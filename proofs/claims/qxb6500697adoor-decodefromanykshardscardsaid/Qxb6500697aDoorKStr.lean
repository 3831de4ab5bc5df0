/-
  THE STRIPE WITH ITS PAYLOADS; THE DATA ROWS IN THE MAKING.
-/
import Derived.Test.Qxb6500697aDoorKDecM
namespace Go.Proofs.Qxb6500697aDoor
open Go.RowKit

/-- A stripe in block sb: generation g, an object of n bytes, the shards h with payloads P. -/
structure Str (w : World) (sb g k N n h : Nat) (P : Nat → Nat → Nat) : Prop where
  row : ∃ rv, w.rowIs sb 120 22 (stc (pfam g) (psize g k n) (punit g k n) g n h rv) ∧ ∀ i, i < N → h.testBit i = true → ∃ pa pc, rv i = .slice pa (psize g k n) pc ∧ psize g k n ≤ pc ∧ pc ≤ 9223372036854775807 ∧ FRow w pa (psize g k n) (P i)
  hh : h < 65536
  hg : g = 1 ∨ g = 2 ∨ g = 3
  hn : n ≤ 256
  cnt : k ≤ (bitsL h N).length

theorem Str.lt {w : World} {sb g k N n h : Nat} {P : Nat → Nat → Nat} (s : Str w sb g k N n h P) : sb < w.heap.size := by
  obtain ⟨rv, h1, _⟩ := s.row
  exact h1.lt
theorem rowIs_ne {w : World} {mb b n : Nat} {t : TypeId} {f : Nat → Value} {es : Array MapEntry} {c : Nat} (h : w.heap[mb]? = some (.map es c)) (hr : w.rowIs b t n f) : b ≠ mb := by
  intro e
  subst e
  obtain ⟨cs, h1, _⟩ := hr
  rw [h] at h1
  simp at h1
theorem Str.mut {w w' : World} {mb sb g k N n h : Nat} {P : Nat → Nat → Nat} (s : Str w sb g k N n h P) (hm : Mut mb w w') {X : Nat → Prop} {k' N' : Nat} (hc : Cache X w mb k' N') : Str w' sb g k N n h P := by
  obtain ⟨es, clock, h1, _⟩ := hc.ents
  obtain ⟨rv, hr, hp⟩ := s.row
  have kp := hm.keeps h1
  refine ⟨⟨rv, hr.of_block (hm.block sb hr.lt (rowIs_ne h1 hr)), fun i hi hb => ?_⟩, s.hh, s.hg, s.hn, s.cnt⟩
  obtain ⟨pa, pc, e1, e2, e3, e4⟩ := hp i hi hb
  exact ⟨pa, pc, e1, e2, e3, e4.keeps kp⟩
theorem Str.below {w w' : World} {sb g k N n h : Nat} {P : Nat → Nat → Nat} (s : Str w sb g k N n h P) (hb : Below w.heap.size w w') : Str w' sb g k N n h P := by
  obtain ⟨rv, hr, hp⟩ := s.row
  refine ⟨⟨rv, hr.of_block (hb.block sb hr.lt), fun i hi h1 => ?_⟩, s.hh, s.hg, s.hn, s.cnt⟩
  obtain ⟨pa, pc, e1, e2, e3, e4⟩ := hp i hi h1
  exact ⟨pa, pc, e1, e2, e3, e4.below hb⟩

theorem bitsL_cut {u h i0 N : Nat} (hN : i0 ≤ N) (hu : ∀ i, u.testBit i = (decide (i < i0) && h.testBit i)) : bitsL u N = bitsL h i0 := by
  induction N with
  | zero =>
    have : i0 = 0 := by omega
    subst this; rfl
  | succ N ih =>
    rcases Nat.lt_or_ge N i0 with hl | hl
    · have : i0 = N + 1 := by omega
      subst this
      unfold bitsL
      refine List.filter_congr (fun i hi => ?_)
      rw [hu i]
      simp [List.mem_range.1 hi]
    · rw [bitsL_succ, ih hl, hu N]
      simp [show ¬ N < i0 by omega]
theorem bitsL_len (r N : Nat) : (bitsL r N).length ≤ N := by
  have := List.length_filter_le (fun i => r.testBit i) (List.range N)
  rw [List.length_range] at this
  exact this
theorem bitsL_first (k N : Nat) (h : k ≤ N) : (bitsL (2 ^ k - 1) N).length = k := by
  have e : bitsL (2 ^ k - 1) N = bitsL (2 ^ k - 1) k := bitsL_cut h (fun i => by rw [first_bit]; by_cases h : i < k <;> simp [h])
  rw [e]
  unfold bitsL
  rw [List.filter_eq_self.2, List.length_range]
  intro i hi
  rw [first_bit]; simpa using List.mem_range.1 hi

/-- The rows that decoding computes. -/
def drow (g k N u : Nat) (P : Nat → Nat → Nat) (j c : Nat) : Nat := gdot (dmat (pfam g) k N u j) (fun t => P ((bitsL u N).getD t 0) c) k

/-- What dataRows answers. -/
structure DataOk (g k N size h u : Nat) (P D : Nat → Nat → Nat) : Prop where
  ult : u < 65536
  sub : ∀ i, u.testBit i = true → i < N ∧ h.testBit i = true
  cnt : (bitsL u N).length = k
  byt : ∀ j, j < k → ∀ c, c < size → D j c < 256
  fit : ∀ i, u.testBit i = true → ∀ c, c < size → gdot (genr g k i) (fun j => D j c) k = P i c
  held : ∀ j, j < k → h.testBit j = true → ∀ c, c < size → D j c = P j c

theorem DataOk.first {g k N size h : Nat} {P : Nat → Nat → Nat} (hk : k < 16) (hkN : k ≤ N) (hall : ∀ j, j < k → h.testBit j = true) (hP : ∀ i, i < k → ∀ c, c < size → P i c < 256) : DataOk g k N size h (2 ^ k - 1) P P := by
  refine ⟨first_lt hk, fun i hi => ?_, bitsL_first k N hkN, hP, fun i hi c hc => ?_, fun _ _ _ _ _ => rfl⟩
  · rw [first_bit] at hi
    have : i < k := by simpa using hi
    exact ⟨by omega, hall i this⟩
  · rw [first_bit] at hi
    have hik : i < k := by simpa using hi
    exact genr_top g k i (by omega) hik (fun j => P j c) (fun j hj => hP j hj c hc)

theorem DataOk.calc {g k N size h u i0 : Nat} {P : Nat → Nat → Nat} (hk : k ≤ 16) (hN : N ≤ 16) (hu : u < 65536) (hi : i0 ≤ N) (hub : ∀ i, u.testBit i = (decide (i < i0) && h.testBit i)) (hcnt : (bitsL u N).length = k)
    (hP : ∀ i, i < N → h.testBit i = true → ∀ c, c < size → P i c < 256) : DataOk g k N size h u P (drow g k N u P) := by
  have hsub : ∀ i, u.testBit i = true → i < N ∧ h.testBit i = true := by
    intro i hi
    rw [hub i] at hi
    simp at hi
    exact ⟨by omega, hi.2⟩
  obtain ⟨_, hby, hspec⟩ := dmat_spec g k N u hk hN hcnt
  have hp : ∀ c, c < size → BytV k (fun t => P ((bitsL u N).getD t 0) c) := fun c hc t ht => by
    obtain ⟨h1, h2⟩ := bitsL_get (r := u) (N := N) (t := t) (by omega)
    exact hP _ h1 (hsub _ h2).2 c hc
  have fit : ∀ i, u.testBit i = true → ∀ c, c < size → gdot (genr g k i) (fun j => drow g k N u P j c) k = P i c := by
    intro i hi c hc
    obtain ⟨t, ht, he⟩ := bitsL_pos (hsub i hi).1 hi
    have := hspec _ (hp c hc) t (by omega)
    rw [he] at this
    exact this
  refine ⟨hu, hsub, hcnt, fun j _ c _ => gdot_lt _ _ _, fit, fun j hj hb c hc => ?_⟩
  have hju : u.testBit j = true := by
    rw [hub j, hb]
    rcases Nat.lt_or_ge j i0 with h1 | h1
    · simp [h1]
    · exfalso
      have h2 := bitsL_len h i0
      rw [bitsL_cut hi hub] at hcnt
      omega
  have := fit j hju c hc
  rw [genr_top g k j hk hj (fun j => drow g k N u P j c) (fun j _ => gdot_lt _ _ _)] at this
  exact this

/-! ### The slice of rows in the making -/
structure DRel (W wq : World) (Hd k size j0 : Nat) (D : Nat → Nat → Nat) : Prop where
  row : ∃ hv : Nat → Value, wq.rowIs Hd 30 k hv ∧ ∀ j, j < j0 → ∃ so c, hv j = .slice so size c ∧ size ≤ c ∧ c ≤ 9223372036854775807 ∧ FRow wq so size (D j) ∧ (0 < size → ∀ b o, so = some ⟨b, o, none⟩ → b ≠ Hd)
  bel : Below Hd W wq
  lt : Hd < wq.heap.size

theorem DRel.start (W : World) (k size : Nat) (D : Nat → Nat → Nat) : DRel W (W.alloc (.cells (madeCells #[.slice none 0 0] k) 30)) W.heap.size k size 0 D :=
  ⟨⟨_, World.rowIs_made W (.slice none 0 0) k 30, fun j hj => by omega⟩, (Below.refl _ _).alloc (Nat.le_refl _) _, by simp⟩
theorem DRel.step {W wq wp : World} {Hd k size j0 : Nat} {D : Nat → Nat → Nat} (h : DRel W wq Hd k size j0 D) (hb : Below wq.heap.size wq wp) (so : Option Addr) (c : Nat) (h1 : size ≤ c) (h2 : c ≤ 9223372036854775807) (hf : FRow wp so size (D j0)) (hne : 0 < size → ∀ b o, so = some ⟨b, o, none⟩ → b ≠ Hd) :
    DRel W (wp.setCell ⟨Hd, j0, none⟩ (.slice so size c)) Hd k size (j0 + 1) D := by
  obtain ⟨hv, hr, hj⟩ := h.row
  have hO : Only Hd wp (wp.setCell ⟨Hd, j0, none⟩ (.slice so size c)) := (Only.refl _ _).setCell _ _
  have hr2 := hr.of_block (hb.block Hd hr.lt)
  refine ⟨⟨_, hr2.set j0 (.slice so size c), fun j hjj => ?_⟩, (h.bel.trans (hb.mono (Nat.le_of_lt h.lt))).trans (hO.below (Nat.le_refl _)), by rw [hO.size]; exact Nat.lt_of_lt_of_le h.lt hb.size⟩
  by_cases e : j = j0
  · subst e
    exact ⟨so, c, by simp, h1, h2, hf.only hO hne, hne⟩
  · obtain ⟨so', c', e1, e2, e3, e4, e5⟩ := hj j (by omega)
    exact ⟨so', c', by simp only [if_neg e]; exact e1, e2, e3, (e4.below hb).only hO e5, e5⟩
theorem DRel.rmat {W wq : World} {Hd k size : Nat} {D : Nat → Nat → Nat} (h : DRel W wq Hd k size k D) : RMat wq (some ⟨Hd, 0, none⟩) k size D := fun _ => by
  obtain ⟨hv, hr, hj⟩ := h.row
  refine ⟨Hd, 0, rfl, fun r hrk => ?_⟩
  obtain ⟨so, c, e1, e2, e3, e4, _⟩ := hj r hrk
  exact ⟨so, c, by rw [Nat.zero_add, hr.cell hrk, e1], e2, e3, e4⟩
end Go.Proofs.Qxb6500697aDoor
