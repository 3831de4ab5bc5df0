/-
  THE SENTINELS OF PACKAGE code; THE CODEC IN MEMORY; THE WALKS OF New, K, N.
-/
import Derived.Test.Qxb6500697aDoorKGen
import Derived.Stop.IfaceNil
import Derived.BigQuiet
import Derived.Deep.Cut
import Derived.Deep.CutRange
namespace Go.Proofs.Qxb6500697aDoor
open Go.RowKit

/-- The first n sentinels (globals 1 to n) hold n different errors of errors.New's make. -/
structure KErrs (n : Nat) (w : World) (e : Nat → Addr) : Prop where
  cell : ∀ i, i < n → w.cell? ⟨i + 1, 0, none⟩ = some (.iface 186 (.pointer (some (e i))))
  row : ∀ i, i < n → ∃ c t, w.heap[(e i).block]? = some (.cells c t (0, 0))
  apart : ∀ i j, i < n → j < n → i ≠ j → e i ≠ e j

theorem KErrs.below {n : Nat} {w w' : World} {e : Nat → Addr} (h : KErrs n w e) (hb : Below w.heap.size w w') : KErrs n w' e :=
  ⟨fun i hi => (hb.cell (p := ⟨i + 1, 0, none⟩) (cell_lt (h.cell i hi))).trans (h.cell i hi),
   fun i hi => by
    obtain ⟨c, t, hc⟩ := h.row i hi
    exact ⟨c, t, (hb.block _ (Array.getElem?_eq_some_iff.1 hc).1).trans hc⟩,
   h.apart⟩

/-- An error of package code: none, or one of the sentinels. -/
def errV (e : Nat → Addr) : Option Nat → Value
  | none => .nilIface
  | some i => .iface 186 (.pointer (some (e i)))

/-- The codec of k data and m parity shards in block cb, its map of decode matrices in block mb; all its blocks lie in F. -/
structure CodecAt (w : World) (F : Nat → Prop) (cb mb k m : Nat) : Prop where
  c0 : w.cell? ⟨cb, 0, none⟩ = some (.int .i64 k)
  c1 : w.cell? ⟨cb, 1, none⟩ = some (.int .i64 m)
  g0 : ∃ H c, w.cell? ⟨cb, 2, none⟩ = some (.slice (some ⟨H, 0, none⟩) ((k + m : Nat)) c) ∧ k + m ≤ c ∧ c ≤ 9223372036854775807 ∧ RMatF w F (some ⟨H, 0, none⟩) (k + m) k (vand k)
  g1 : ∃ H c, w.cell? ⟨cb, 3, none⟩ = some (.slice (some ⟨H, 0, none⟩) ((k + m : Nat)) c) ∧ k + m ≤ c ∧ c ≤ 9223372036854775807 ∧ RMatF w F (some ⟨H, 0, none⟩) (k + m) k (cauchy k)
  c4 : w.cell? ⟨cb, 4, none⟩ = some (.map (some mb))
  hk : 1 ≤ k
  hm : 1 ≤ m
  hn : k + m ≤ 16
  fc : F cb

theorem CodecAt.lt {w : World} {F : Nat → Prop} {cb mb k m : Nat} (h : CodecAt w F cb mb k m) : cb < w.heap.size := cell_lt h.c0
theorem CodecAt.keep {w w' : World} {F : Nat → Prop} {cb mb k m : Nat} (h : CodecAt w F cb mb k m) (hb : ∀ b, F b → b < w.heap.size → w'.heap[b]? = w.heap[b]?) : CodecAt w' F cb mb k m := by
  have kc : ∀ i v, w.cell? ⟨cb, i, none⟩ = some v → w'.cell? ⟨cb, i, none⟩ = some v := fun i v hv => (World.cell?_of_block (a := ⟨cb, i, none⟩) (hb cb h.fc (cell_lt hv))).trans hv
  obtain ⟨H, c, h1, h2, h3, h4⟩ := h.g0
  obtain ⟨H', c', h1', h2', h3', h4'⟩ := h.g1
  exact ⟨kc 0 _ h.c0, kc 1 _ h.c1, ⟨H, c, kc 2 _ h1, h2, h3, h4.keep hb⟩, ⟨H', c', kc 3 _ h1', h2', h3', h4'.keep hb⟩, kc 4 _ h.c4, h.hk, h.hm, h.hn, h.fc⟩
theorem CodecAt.below {w w' : World} {F : Nat → Prop} {cb mb k m : Nat} (h : CodecAt w F cb mb k m) (hb : Below w.heap.size w w') : CodecAt w' F cb mb k m := h.keep fun b _ hlt => hb.block b hlt
theorem CodecAt.mono {w : World} {F F' : Nat → Prop} {cb mb k m : Nat} (h : CodecAt w F cb mb k m) (hF : ∀ b, b < w.heap.size → F b → F' b) : CodecAt w F' cb mb k m := by
  obtain ⟨H, c, h1, h2, h3, h4⟩ := h.g0
  obtain ⟨H', c', h1', h2', h3', h4'⟩ := h.g1
  exact ⟨h.c0, h.c1, ⟨H, c, h1, h2, h3, h4.mono hF⟩, ⟨H', c', h1', h2', h3', h4'.mono hF⟩, h.c4, h.hk, h.hm, h.hn, hF cb h.lt h.fc⟩

set_option maxRecDepth 100000 in
set_option maxHeartbeats 1000000 in
theorem codecK_any (w : World) (F : Nat → Prop) (cb mb k m : Nat) (h : CodecAt w F cb mb k m) : Calls Tryd.prog 23 #[.pointer (some ⟨cb, 0, none⟩)] w fun r w' => r = .returned (.int .i64 k) ∧ w' = w := by
  have c0 := h.c0
  clear h
  go_enter Tryd.func23, Tryd.ntmps23
  go_wp2
  go_ret
  exact ⟨rfl, rfl⟩

set_option maxRecDepth 100000 in
set_option maxHeartbeats 1000000 in
theorem codecN_any (w : World) (F : Nat → Prop) (cb mb k m : Nat) (h : CodecAt w F cb mb k m) : Calls Tryd.prog 19 #[.pointer (some ⟨cb, 0, none⟩)] w fun r w' => r = .returned (.int .i64 ((k + m : Nat) : Int)) ∧ ∃ q, w' = w.drewN q := by
  have c0 := h.c0
  have c1 := h.c1
  have hn := h.hn
  clear h
  go_enter Tryd.func19, Tryd.ntmps19
  go_wp2
  go_quiet (fail)
  go_wp2
  go_ret
  exact ⟨by go_num, _, rfl⟩

set_option maxRecDepth 100000 in
set_option maxHeartbeats 1000000 in
theorem codecN_drew (w : World) (F : Nat → Prop) (cb mb k m : Nat) (h : CodecAt w F cb mb k m) : Calls Tryd.prog 19 #[.pointer (some ⟨cb, 0, none⟩)] w fun r w' => r = .returned (.int .i64 ((k + m : Nat) : Int)) ∧ w' = w.drew := by
  have c0 := h.c0
  have c1 := h.c1
  have hn := h.hn
  clear h
  go_enter Tryd.func19, Tryd.ntmps19
  go_wp2
  go_region
  all_goals
    go_wp2
    go_ret
    exact ⟨by go_num, rfl⟩

/-- The geometries that New takes. -/
def geo (k m : Int) : Bool := decide (1 ≤ k ∧ 1 ≤ m ∧ k + m ≤ 16)

set_option maxRecDepth 100000 in
set_option maxHeartbeats 1000000 in
theorem new_bad (n : Nat) (k m : Int) (e : Nat → Addr) (w : World) (E : KErrs n w e) (hn : 0 < n) (h1 : -9223372036854775808 ≤ k) (h2 : k ≤ 9223372036854775807) (h3 : -9223372036854775808 ≤ m) (h4 : m ≤ 9223372036854775807) (hg : geo k m = false) :
    Calls Tryd.prog 38 #[.int .i64 k, .int .i64 m] w fun r w' => r = .returned (.tuple #[.pointer none, errV e (some 0)]) ∧ ∃ q, w' = w.drewN q := by
  have c0 := E.cell 0 hn
  have hg' : ¬ (1 ≤ k ∧ 1 ≤ m ∧ k + m ≤ 16) := of_decide_eq_false hg
  clear E hg
  by_cases a1 : k < 1
  · go_enter Tryd.func38, Tryd.ntmps38
    go_wp2
    go_quiet (fail)
    go_wp2
    go_ret2
    exact ⟨rfl, _, rfl⟩
  · by_cases a2 : m < 1
    · go_enter Tryd.func38, Tryd.ntmps38
      go_wp2
      go_quiet (fail)
      go_wp2
      go_ret2
      exact ⟨rfl, _, rfl⟩
    · by_cases a3 : 16 < k
      · go_enter Tryd.func38, Tryd.ntmps38
        go_wp2
        go_quiet (fail)
        go_wp2
        go_ret2
        exact ⟨rfl, _, rfl⟩
      · by_cases a4 : 16 < m
        · go_enter Tryd.func38, Tryd.ntmps38
          go_wp2
          go_quiet (fail)
          go_wp2
          go_ret2
          exact ⟨rfl, _, rfl⟩
        · have a5 : 16 < k + m := by omega
          go_enter Tryd.func38, Tryd.ntmps38
          go_wp2
          go_quiet (fail)
          go_wp2
          go_ret2
          exact ⟨rfl, _, rfl⟩

/-- The codec's own block. -/
def Blk5 (w : World) (cb k m : Nat) (g0 g1 : Value) (mb : Nat) : Prop := w.heap[cb]? = some (.cells #[.int .i64 k, .int .i64 m, g0, g1, .map (some mb)] 104 (0, 0))
section
variable {w : World} {cb k m mb : Nat} {g0 g1 : Value}
theorem Blk5.c0 (h : Blk5 w cb k m g0 g1 mb) : w.cell? ⟨cb, 0, none⟩ = some (.int .i64 k) := by unfold Blk5 at h; simp [World.cell?, h]
theorem Blk5.c1 (h : Blk5 w cb k m g0 g1 mb) : w.cell? ⟨cb, 1, none⟩ = some (.int .i64 m) := by unfold Blk5 at h; simp [World.cell?, h]
theorem Blk5.c2 (h : Blk5 w cb k m g0 g1 mb) : w.cell? ⟨cb, 2, none⟩ = some g0 := by unfold Blk5 at h; simp [World.cell?, h]
theorem Blk5.c3 (h : Blk5 w cb k m g0 g1 mb) : w.cell? ⟨cb, 3, none⟩ = some g1 := by unfold Blk5 at h; simp [World.cell?, h]
theorem Blk5.c4 (h : Blk5 w cb k m g0 g1 mb) : w.cell? ⟨cb, 4, none⟩ = some (.map (some mb)) := by unfold Blk5 at h; simp [World.cell?, h]
theorem Blk5.fr (h : Blk5 w cb k m g0 g1 mb) (i : Nat) : w.frozen? ⟨cb, i, none⟩ = false := by unfold Blk5 at h; simp [World.frozen?, h]
theorem Blk5.of_block {w' : World} (h : Blk5 w cb k m g0 g1 mb) (e : w'.heap[cb]? = w.heap[cb]?) : Blk5 w' cb k m g0 g1 mb := e.trans h
theorem Blk5.set2 (h : Blk5 w cb k m g0 g1 mb) (v : Value) : Blk5 (w.setCell ⟨cb, 2, none⟩ v) cb k m v g1 mb := by unfold Blk5 at *; simp [World.setCell, Array.getElem?_modify, h]
theorem Blk5.set3 (h : Blk5 w cb k m g0 g1 mb) (v : Value) : Blk5 (w.setCell ⟨cb, 3, none⟩ v) cb k m g0 v mb := by unfold Blk5 at *; simp [World.setCell, Array.getElem?_modify, h]
end

set_option maxRecDepth 100000 in
set_option maxHeartbeats 1000000 in
theorem new_ok (k m : Nat) (w : World) (hk : 1 ≤ k) (hm : 1 ≤ m) (hn : k + m ≤ 16) :
    Calls Tryd.prog 38 #[.int .i64 k, .int .i64 m] w fun r w' => Below w.heap.size w w' ∧ r = .returned (.tuple #[.pointer (some ⟨w.heap.size + 1, 0, none⟩), .nilIface]) ∧ CodecAt w' (fun b => w.heap.size ≤ b) (w.heap.size + 1) w.heap.size k m ∧ w'.heap[w.heap.size]? = some (.map #[] 0) := by
  have a1 : ¬ (k : Int) < 1 := by omega
  have a2 : ¬ (m : Int) < 1 := by omega
  have a3 : ¬ (16 : Int) < (k : Int) := by omega
  have a4 : ¬ (16 : Int) < (m : Int) := by omega
  have a5 : ¬ (16 : Int) < (k : Int) + (m : Int) := by omega
  have hmm := @run_makeMap Tryd.prog
  go_enter Tryd.func38, Tryd.ntmps38
  go_wp2
  clear hmm a1 a2 a3 a4 a5
  obtain ⟨W0, hW0⟩ : ∃ W0, (w.alloc (.map #[] 0)).alloc (.cells #[.int .i64 k, .int .i64 m, .slice none 0 0, .slice none 0 0, .map (some w.heap.size)] 104) = W0 := ⟨_, rfl⟩
  rw [hW0]
  have B0 : Blk5 W0 (w.heap.size + 1) k m (.slice none 0 0) (.slice none 0 0) w.heap.size := by
    unfold Blk5
    rw [← hW0]
    have h := heap_alloc_new (w.alloc (.map #[] 0)) (.cells #[.int .i64 k, .int .i64 m, .slice none 0 0, .slice none 0 0, .map (some w.heap.size)] 104)
    simpa using h
  have hs0 : W0.heap.size = w.heap.size + 2 := by rw [← hW0]; simp
  have HB0 : Hid (Below w.heap.size w W0) := by
    have h : Below w.heap.size w W0 := by rw [← hW0]; exact ((Below.refl _ _).alloc (Nat.le_refl _) _).alloc (by simp) _
    exact h
  have HM0 : Hid (W0.heap[w.heap.size]? = some (.map #[] 0)) := by
    show W0.heap[w.heap.size]? = _
    rw [← hW0, Below.heap_alloc _ _ _ (by simp)]; exact heap_alloc_new w (.map #[] 0)
  have HBl0 : Hid (Blk5 W0 (w.heap.size + 1) k m (.slice none 0 0) (.slice none 0 0) w.heap.size) := B0
  have hv1 : Hid (∀ W, W = W0 ∨ W = W0.drew → Calls Tryd.prog 59 #[.int .i64 k, .int .i64 m] W fun e w' => ∃ H c, e = .returned (.slice (some ⟨H, 0, none⟩) ((k + m : Nat)) c) ∧ k + m ≤ c ∧ c ≤ 9223372036854775807 ∧ RMatF w' (fun b => w.heap.size + 2 ≤ b) (some ⟨H, 0, none⟩) (k + m) k (vand k) ∧ Below W0.heap.size W0 w') := by
    intro W hW
    have hb : Below W0.heap.size W0 W := by rcases hW with rfl | rfl; exact Below.refl _ _; exact (Below.refl _ _).drew
    have hsz : W.heap.size = W0.heap.size := by rcases hW with rfl | rfl <;> rfl
    refine (vandermonde_any k m W hk hn).mono ?_
    rintro e w' ⟨h1, H, c, h2, h3, h4, h5⟩
    exact ⟨H, c, h2, h3, h4, h5.mono (fun b _ hF => by have hF : W.heap.size ≤ b := hF; show w.heap.size + 2 ≤ b; omega), hb.trans (by rw [← hsz]; exact h1)⟩
  clear hW0 B0
  go_cut [] from 7 (fun wc => ∃ H c, Blk5 wc (w.heap.size + 1) k m (.slice (some ⟨H, 0, none⟩) ((k + m : Nat)) c) (.slice none 0 0) w.heap.size ∧ k + m ≤ c ∧ c ≤ 9223372036854775807 ∧ RMatF wc (fun b => w.heap.size + 2 ≤ b) (some ⟨H, 0, none⟩) (k + m) k (vand k) ∧ Below w.heap.size w wc ∧ w.heap.size + 2 ≤ wc.heap.size ∧ wc.heap[w.heap.size]? = some (.map #[] 0))
  case first =>
    go_region_with (go_at_call 59; refine (hv1.out _ (by first | exact .inl rfl | exact .inr rfl)).mono ?_; rintro e w1 ⟨H, c, rfl, hc1, hc2, hR, hb⟩; have HBl := HBl0.out.of_block (hb.block (w.heap.size + 1) (by rw [hs0]; omega)); have cc := HBl.c2; have fr := HBl.fr 2; have HR : Hid (RMatF w1 (fun b => w.heap.size + 2 ≤ b) (some ⟨H, 0, none⟩) (k + m) k (vand k)) := hR; have HBe : Hid (Below W0.heap.size W0 w1) := hb; have HBl' : Hid (Blk5 w1 (w.heap.size + 1) k m (.slice none 0 0) (.slice none 0 0) w.heap.size) := HBl; clear hR hb HBl)
    all_goals
      go_wp2
      go_meet
      refine ⟨H, c, HBl'.out.set2 _, hc1, hc2, RMatF.keep HR.out (fun b hF _ => Below.heap_setCell _ _ _ _ (fun e => by have hF : w.heap.size + 2 ≤ b := hF; have e : b = w.heap.size + 1 := e; omega)), ?_, ?_, ?_⟩
      · exact (HB0.out.trans (HBe.out.mono (by omega))).setCell (p := ⟨w.heap.size + 1, 2, none⟩) (Nat.le_succ _) _
      · have := HBe.out.size
        simp [World.setCell]; omega
      · rw [Below.heap_setCell _ _ _ _ (by simp)]
        exact (HBe.out.block _ (by omega)).trans HM0.out
  case rest =>
    obtain ⟨H, c, hBl, hc1, hc2, hR, hb, hs1, hm1⟩ := hcut
    have HM1 : Hid (wc.heap[w.heap.size]? = some (.map #[] 0)) := hm1
    clear hm1
    obtain ⟨W1, hW1⟩ : ∃ W1, W1 = wc := ⟨_, rfl⟩
    subst hW1
    have HBl1 : Hid (Blk5 W1 (w.heap.size + 1) k m (.slice (some ⟨H, 0, none⟩) ((k + m : Nat)) c) (.slice none 0 0) w.heap.size) := hBl
    have HR1 : Hid (RMatF W1 (fun b => w.heap.size + 2 ≤ b) (some ⟨H, 0, none⟩) (k + m) k (vand k)) := hR
    have HB1 : Hid (Below w.heap.size w W1) := hb
    have hv2 : Hid (∀ W, W = W1 ∨ W = W1.drew → Calls Tryd.prog 60 #[.int .i64 k, .int .i64 m] W fun e w' => ∃ H c, e = .returned (.slice (some ⟨H, 0, none⟩) ((k + m : Nat)) c) ∧ k + m ≤ c ∧ c ≤ 9223372036854775807 ∧ RMatF w' (fun b => w.heap.size + 2 ≤ b) (some ⟨H, 0, none⟩) (k + m) k (cauchy k) ∧ Below W1.heap.size W1 w') := by
      intro W hW
      have hb : Below W1.heap.size W1 W := by rcases hW with rfl | rfl; exact Below.refl _ _; exact (Below.refl _ _).drew
      have hsz : W.heap.size = W1.heap.size := by rcases hW with rfl | rfl <;> rfl
      refine (cauchy_any k m W hk hn).mono ?_
      rintro e w' ⟨h1, H, c, h2, h3, h4, h5⟩
      exact ⟨H, c, h2, h3, h4, h5.mono (fun b _ hF => by have hF : W.heap.size ≤ b := hF; show w.heap.size + 2 ≤ b; omega), hb.trans (by rw [← hsz]; exact h1)⟩
    clear hBl hR hb hv1 HB0 HBl0 hs0
    go_wp2
    go_cut [] from 7 (fun wc => Below w.heap.size w wc ∧ CodecAt wc (fun b => w.heap.size ≤ b) (w.heap.size + 1) w.heap.size k m ∧ wc.heap[w.heap.size]? = some (.map #[] 0))
    case first =>
      go_region_with (go_at_call 60; refine (hv2.out _ (by first | exact .inl rfl | exact .inr rfl)).mono ?_; rintro e w1 ⟨H', c', rfl, hc1', hc2', hR', hb⟩; have HBl := HBl1.out.of_block (hb.block (w.heap.size + 1) (by omega)); have cc := HBl.c3; have fr := HBl.fr 3; have HR : Hid (RMatF w1 (fun b => w.heap.size + 2 ≤ b) (some ⟨H', 0, none⟩) (k + m) k (cauchy k)) := hR'; have HBe : Hid (Below W1.heap.size W1 w1) := hb; have HBl' : Hid (Blk5 w1 (w.heap.size + 1) k m (.slice (some ⟨H, 0, none⟩) ((k + m : Nat)) c) (.slice none 0 0) w.heap.size) := HBl; clear hR' hb HBl)
      all_goals
        go_wp2
        go_meet
        have hB3 := HBl'.out.set3 (.slice (some ⟨H', 0, none⟩) ((k + m : Nat)) c')
        have kp : ∀ b, w.heap.size + 2 ≤ b → b < w1.heap.size → (w1.setCell ⟨w.heap.size + 1, 3, none⟩ (.slice (some ⟨H', 0, none⟩) ((k + m : Nat)) c')).heap[b]? = w1.heap[b]? := fun b hF _ => Below.heap_setCell _ _ _ _ (fun e => by have e : b = w.heap.size + 1 := e; omega)
        have mn : ∀ (W : World) b, b < W.heap.size → w.heap.size + 2 ≤ b → w.heap.size ≤ b := fun _ b _ h => by omega
        refine ⟨?_, ⟨hB3.c0, hB3.c1, ⟨H, c, hB3.c2, hc1, hc2, RMatF.mono (RMatF.keep (RMatF.keep HR1.out (fun b _ hlt => HBe.out.block b hlt)) kp) (mn _)⟩, ⟨H', c', hB3.c3, hc1', hc2', RMatF.mono (RMatF.keep HR.out kp) (mn _)⟩, hB3.c4, hk, hm, hn, Nat.le_succ _⟩, ?_⟩
        rotate_left
        · rw [Below.heap_setCell _ _ _ _ (by simp)]
          exact (HBe.out.block _ (by omega)).trans HM1.out
        exact (HB1.out.trans (HBe.out.mono (by omega))).setCell (p := ⟨w.heap.size + 1, 3, none⟩) (Nat.le_succ _) _
    case rest =>
      obtain ⟨hb, hC, hM⟩ := hcut
      have HM : Hid (wc.heap[w.heap.size]? = some (.map #[] 0)) := hM
      clear hM
      have HB : Hid (Below w.heap.size w wc) := hb
      have HC : Hid (CodecAt wc (fun b => w.heap.size ≤ b) (w.heap.size + 1) w.heap.size k m) := hC
      clear hb hC HBl1 HR1 HB1 hv2
      go_wp2
      go_ret2
      exact ⟨HB.out, rfl, HC.out, HM.out⟩
end Go.Proofs.Qxb6500697aDoor
