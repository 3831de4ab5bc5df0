/-
  MATRICES THAT ARE ONLY READ; THE WALK OF Times.
-/
import Derived.Test.Qxb6500697aDoorKMat
namespace Go.Proofs.Qxb6500697aDoor
open Go.RowKit

/-- The matrix A of n rows and m columns behind a slice that begins at ao: each row somewhere. -/
def RMat (w : World) (ao : Option Addr) (n m : Nat) (A : Nat → Nat → Nat) : Prop :=
  0 < n → ∃ b o, ao = some ⟨b, o, none⟩ ∧ ∀ r, r < n → ∃ so c, w.cell? ⟨b, o + r, none⟩ = some (.slice so m c) ∧ m ≤ c ∧ c ≤ 9223372036854775807 ∧ FRow w so m (A r)

theorem MatAt.rmat {w : World} {H n m : Nat} {gs : Nat → Nat} {A : Nat → Nat → Nat} (h : MatAt w H n m gs A) (hm : m ≤ 65536) : RMat w (some ⟨H, 0, none⟩) n m A := fun _ =>
  ⟨H, 0, rfl, fun r hr => ⟨_, m, by rw [Nat.zero_add]; exact h.hdr.cell hr, Nat.le_refl _, by omega, (h.row r hr).frow⟩⟩
theorem RMat.below {w w' : World} {ao : Option Addr} {n m : Nat} {A : Nat → Nat → Nat} (h : RMat w ao n m A) (hb : Below w.heap.size w w') : RMat w' ao n m A := fun h0 => by
  obtain ⟨b, o, ha, hr⟩ := h h0
  refine ⟨b, o, ha, fun r hrn => ?_⟩
  obtain ⟨so, c, h1, h2, h3, h4⟩ := hr r hrn
  exact ⟨so, c, (hb.cell (p := ⟨b, o + r, none⟩) (cell_lt h1)).trans h1, h2, h3, h4.below hb⟩
theorem RMat.take {w : World} {ao : Option Addr} {n m k : Nat} {A : Nat → Nat → Nat} (h : RMat w ao n m A) (hk : k ≤ n) : RMat w ao k m A := fun h0 => by
  obtain ⟨b, o, ha, hr⟩ := h (by omega)
  exact ⟨b, o, ha, fun r hrn => hr r (by omega)⟩
theorem RMat.congr {w : World} {ao : Option Addr} {n m : Nat} {A B : Nat → Nat → Nat} (h : RMat w ao n m A) (e : ∀ r, r < n → ∀ c, c < m → A r c = B r c) : RMat w ao n m B := fun h0 => by
  obtain ⟨b, o, ha, hr⟩ := h h0
  refine ⟨b, o, ha, fun r hrn => ?_⟩
  obtain ⟨so, c, h1, h2, h3, h4⟩ := hr r hrn
  refine ⟨so, c, h1, h2, h3, fun i hi => by rw [← e r hrn i hi]; exact h4.1 i hi, fun hm => ?_⟩
  obtain ⟨b', o', ha', hc⟩ := h4.2 hm
  exact ⟨b', o', ha', fun i hi => by rw [← e r hrn i hi]; exact hc i hi⟩

/-- The sum of the k products u t * v t. -/
def gdot (u v : Nat → Nat) : Nat → Nat
  | 0 => 0
  | k + 1 => gdot u v k ^^^ gmul (u k) (v k)
theorem gdot_lt (u v : Nat → Nat) (k : Nat) : gdot u v k < 256 := by
  induction k with
  | zero => simp [gdot]
  | succ k ih => exact xor8n _ _ ih (gmul_lt _ _)
theorem gdot_congr {u v u' v' : Nat → Nat} {k : Nat} (h1 : ∀ t, t < k → u t = u' t) (h2 : ∀ t, t < k → v t = v' t) : gdot u v k = gdot u' v' k := by
  induction k with
  | zero => rfl
  | succ k ih => rw [gdot, gdot, ih (fun t ht => h1 t (by omega)) (fun t ht => h2 t (by omega)), h1 k (by omega), h2 k (by omega)]

/-- The product, rows below r0 whole, row r0 with t0 terms. -/
def prodTo (k : Nat) (A B : Nat → Nat → Nat) (r0 t0 : Nat) : Nat → Nat → Nat := fun r c =>
  if r < r0 then gdot (A r) (fun t => B t c) k else if r = r0 then gdot (A r) (fun t => B t c) t0 else 0

set_option maxRecDepth 100000 in
set_option maxHeartbeats 1000000 in
theorem times_any (aa ba : Option Addr) (ca cb n k m : Nat) (A B : Nat → Nat → Nat) (w : World) (hA : RMat w aa n k A) (hB : RMat w ba k m B) (hn : n ≤ 4096) (hk : k ≤ 4096) (hk0 : 0 < k) (hm : m ≤ 65536) :
    Calls Tryd.prog 65 #[.slice aa n ca, .slice ba k cb] w fun e w' => e = .returned (.slice (some ⟨w.heap.size, 0, none⟩) n n) ∧
      MatAt w' w.heap.size n m (fun r => w.heap.size + 1 + r) (fun r c => gdot (A r) (fun t => B t c) k) ∧ Below w.heap.size w w' ∧ w'.heap.size = w.heap.size + 1 + n := by
  have HA : Hid (RMat w aa n k A) := hA
  have HB : Hid (RMat w ba k m B) := hB
  obtain ⟨bb, ob, rfl, hBr⟩ := hB hk0
  obtain ⟨so0, c0, h01, h02, h03, h04⟩ := hBr 0 hk0
  rw [Nat.add_zero] at h01
  clear hA hB hBr h04
  have hk0' : (0 : Int) < (k : Int) := by omega
  have hkne : ((k : Int) == 0) = false := by simp; omega
  go_enter Tryd.func65, Tryd.ntmps65
  go_wp2_with fail
  refine Calls.mono (zero_any n m w hn hm) ?_
  rintro r w1 ⟨rfl, hM, hb, hsz⟩
  have HM : Hid _ := hM
  have HBe : Hid _ := hb
  have HZ : Hid _ := hsz
  clear hM hb hsz h01 h02 h03
  go_wp2
  go_loopw [23] (fun i wr => ∃ r0 : Nat, r0 ≤ n ∧ i = .int .i64 r0 ∧ MatAt wr w.heap.size n m (fun r => w.heap.size + 1 + r) (prodTo k A B r0 0) ∧ Below w.heap.size w wr ∧ wr.heap.size = w.heap.size + 1 + n) (fun i _ => n - (intOf i).toNat)
  case atStart => exact ⟨0, Nat.zero_le _, rfl, MatAt.congr HM.out (fun r _ c _ => by simp [prodTo, gdot]), HBe.out, HZ.out⟩
  case round =>
    obtain ⟨r0, hr0, rfl, hM, hb, hsz⟩ := hrel
    clear HM HBe HZ
    by_cases hlt : r0 < n
    · have HM : Hid _ := hM
      have HBe : Hid _ := hb
      have HZ : Hid _ := hsz
      have hlt' : (r0 : Int) < (n : Int) := by omega
      clear hM hb hsz
      go_wp2
      go_loopw [28] (fun i wr => ∃ t0 : Nat, t0 ≤ k ∧ i = .int .i64 t0 ∧ MatAt wr w.heap.size n m (fun r => w.heap.size + 1 + r) (prodTo k A B r0 t0) ∧ Below w.heap.size w wr ∧ wr.heap.size = w.heap.size + 1 + n) (fun i _ => k - (intOf i).toNat)
      case atStart => exact ⟨0, Nat.zero_le _, rfl, HM.out, HBe.out, HZ.out⟩
      case round =>
        obtain ⟨t0, ht0, rfl, hM, hb, hsz⟩ := hrel
        clear HM HBe HZ
        by_cases hlt2 : t0 < k
        · obtain ⟨ab, oa, rfl, hAr⟩ := HA.out (by omega)
          obtain ⟨sa, ac, a1, a2, a3, a4⟩ := hAr r0 hlt
          obtain ⟨bb', ob', hbe, hBr⟩ := HB.out (by omega)
          obtain ⟨rfl, rfl⟩ : bb = bb' ∧ ob = ob' := by simpa using hbe
          obtain ⟨sb, bc, b1, b2, b3, b4⟩ := hBr t0 hlt2
          obtain ⟨sab, sao, rfl, a5⟩ := a4.2 hk0
          have a6 := a5 t0 hlt2
          have ha8 := a4.1 t0 hlt2
          have x1 : wr.cell? ⟨ab, oa + r0, none⟩ = some (.slice (some ⟨sab, sao, none⟩) k ac) := (hb.cell (p := ⟨ab, oa + r0, none⟩) (cell_lt a1)).trans a1
          have x2 : wr.cell? ⟨sab, sao + t0, none⟩ = some (.int .u8 ((A r0 t0 : Nat) : Int)) := (hb.cell (p := ⟨sab, sao + t0, none⟩) (cell_lt a6)).trans a6
          have x3 : wr.cell? ⟨bb, ob + t0, none⟩ = some (.slice sb m bc) := (hb.cell (p := ⟨bb, ob + t0, none⟩) (cell_lt b1)).trans b1
          have x4 := hM.hdr.cell hlt
          have hl1 := cell_lt a1
          have hl2 := cell_lt a6
          have hl3 := cell_lt b1
          have b5 : FRow wr sb m (B t0) := b4.below hb
          have hsbb : 0 < m → ∀ b o, sb = some ⟨b, o, none⟩ → b ≠ w.heap.size + 1 + r0 := by
            intro h0 b o he
            obtain ⟨b', o', hb', hc'⟩ := b4.2 h0
            rw [he] at hb'
            have := cell_lt (hc' 0 h0)
            simp at hb'
            omega
          have HC : Hid (∀ q, Calls Tryd.prog 67 #[.slice (some ⟨w.heap.size + 1 + r0, 0, none⟩) m m, .slice sb m bc, .int .u8 ((A r0 t0 : Nat) : Int)] (wr.drewN q) fun r w' => r = .returned (.tuple #[]) ∧ MatAt w' w.heap.size n m (fun r => w.heap.size + 1 + r) (prodTo k A B r0 (t0 + 1)) ∧ Only (w.heap.size + 1 + r0) wr w') := by
            intro q
            have hMq := hM.below (drewN_below wr q _)
            refine (mulAdd_any (w.heap.size + 1 + r0) m m (prodTo k A B r0 t0 r0) sb m bc (B t0) (A r0 t0) (wr.drewN q) (hMq.row r0 hlt) (b5.below (drewN_below _ _ _)) hsbb ha8 hm hm).mono ?_
            rintro r w' ⟨rfl, h1, h2⟩
            refine ⟨rfl, (hMq.rowSet hlt h2 h1).congr fun r hr c hc => ?_, ((Only.refl _ _).drewN q).trans h2⟩
            by_cases e : r = r0
            · subst e
              simp [madd, prodTo, gdot, hc]
            · simp [prodTo, e]
          have HBb : Hid (Below w.heap.size w wr) := hb
          have HZ : Hid _ := hsz
          have hlt2' : (t0 : Int) < (k : Int) := by omega
          clear hM hb hsz hsbb b5 a4 b4 hAr hBr a5 a1 a6 b1 ha8 hbe
          generalize A r0 t0 = y at *
          go_wp2
          go_region_held3 (fun w' => w'.cell? ⟨w.heap.size, r0, none⟩ = some (.slice (some ⟨w.heap.size + 1 + r0, 0, none⟩) m m) ∧ w'.cell? ⟨bb, ob + t0, none⟩ = some (.slice sb m bc) ∧ w'.cell? ⟨ab, oa + r0, none⟩ = some (.slice (some ⟨sab, sao, none⟩) k ac) ∧ w'.cell? ⟨sab, sao + t0, none⟩ = some (.int .u8 (y : Int)))
            (first | go_keep | exact ⟨(H2.out.cell (by omega)).trans x4, (H2.out.cell (by omega)).trans x3, (H2.out.cell (by omega)).trans x1, (H2.out.cell (by omega)).trans x2⟩)
            (first | (go_at_call 67; refine (HC.out 1).mono ?_; rintro r w2 ⟨rfl, h1, h2⟩; have H1 : Hid _ := h1; have H2 : Hid (Only (w.heap.size + 1 + r0) wr w2) := h2; clear h1 h2))
          go_wp2
          go_roundw
          case rel => exact ⟨t0 + 1, by omega, by go_num, H1.out, HBb.out.trans (H2.out.below (by omega)), H2.out.size.trans HZ.out⟩
          case measure => simp [intOf]; omega
        · have htk : t0 = k := by omega
          subst htk
          have HF : Hid (MatAt wr w.heap.size n m (fun r => w.heap.size + 1 + r) (prodTo t0 A B (r0 + 1) 0) ∧ Below w.heap.size w wr ∧ wr.heap.size = w.heap.size + 1 + n) := by
            refine ⟨hM.congr fun r hr c hc => ?_, hb, hsz⟩
            unfold prodTo
            by_cases e : r = r0
            · subst e; simp
            · by_cases h2 : r < r0
              · rw [if_pos h2, if_pos (by omega)]
              · rw [if_neg h2, if_neg e, if_neg (by omega)]
                by_cases h3 : r = r0 + 1
                · rw [if_pos h3]; rfl
                · rw [if_neg h3]
          clear hM hb hsz
          go_wp2
          go_roundw
          case rel => exact ⟨r0 + 1, by omega, by go_num, HF.out⟩
          case measure => simp [intOf]; omega
    · have hrn : r0 = n := by omega
      subst hrn
      have HF : Hid (MatAt wr w.heap.size r0 m (fun r => w.heap.size + 1 + r) (fun r c => gdot (A r) (fun t => B t c) k) ∧ Below w.heap.size w wr ∧ wr.heap.size = w.heap.size + 1 + r0) :=
        ⟨hM.congr fun r hr c hc => by simp [prodTo, hr], hb, hsz⟩
      clear hM hb hsz
      go_wp2
      go_ret
      exact ⟨rfl, HF.out⟩
end Go.Proofs.Qxb6500697aDoor
