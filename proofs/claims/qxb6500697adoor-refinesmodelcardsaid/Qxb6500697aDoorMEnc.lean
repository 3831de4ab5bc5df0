/-
  THE MODEL's Encode.
-/
import Derived.Test.Qxb6500697aDoorMWei
import Derived.Test.Qxb6500697aDoorKEnc
import Derived.Test.Qxb6500697aDoorKHome
import Derived.Test.Qxb6500697aDoorKSplit
import Derived.Test.Qxb6500697aDoorKChoose
namespace Go.Proofs.Qxb6500697aDoor
open Go.RowKit

set_option maxRecDepth 100000 in
set_option maxHeartbeats 1000000 in
theorem mencode_gen (k m : Int) (g n oc : Nat) (oa : Option Addr) (w : World) (hg : g < 256) (hb : genOk g = false) :
    Calls Tryd.prog 43 #[.int .i64 k, .int .i64 m, .int .u8 g, .slice oa n oc] w fun r w' => r = .returned (.tuple #[.slice none 0 0, .int .u8 2]) ∧ w' = w := by
  have HG : Hid _ := goodGen_any g w hg
  rw [hb] at HG
  clear hb
  go_enter Tryd.func43, Tryd.ntmps43
  go_wp2_with fail
  refine Calls.mono HG.out ?_
  rintro r w' ⟨rfl, hw⟩
  have hw := hw.symm; subst hw
  clear HG
  go_wp2
  go_ret2
  exact ⟨rfl, rfl⟩

set_option maxRecDepth 100000 in
set_option maxHeartbeats 1000000 in
theorem mencode_long (k m : Int) (g n oc : Nat) (oa : Option Addr) (w : World) (hg : g < 256) (hb : genOk g = true) (hn : 256 < n) (hn2 : n ≤ 140737488355328) :
    Calls Tryd.prog 43 #[.int .i64 k, .int .i64 m, .int .u8 g, .slice oa n oc] w fun r w' => r = .returned (.tuple #[.slice none 0 0, .int .u8 3]) ∧ w' = w := by
  have HG : Hid _ := goodGen_any g w hg
  have hn' : (256 : Int) < (n : Int) := by omega
  rw [hb] at HG
  clear hb
  go_enter Tryd.func43, Tryd.ntmps43
  go_wp2_with fail
  refine Calls.mono HG.out ?_
  rintro r w' ⟨rfl, hw⟩
  have hw := hw.symm; subst hw
  clear HG
  go_wp2
  go_ret2
  exact ⟨rfl, rfl⟩

/-- What shard i holds, the first p bytes of the object dealt. -/
def encR (g k u p : Nat) (f : Nat → Nat) (i c : Nat) : Nat := gdot (genr g k i) (fun j => sprd k u p f j c) k
theorem encR_lt (g k u p : Nat) (f : Nat → Nat) (i c : Nat) : encR g k u p f i c < 256 := gdot_lt _ _ _
theorem encR_zero (g k u : Nat) (f : Nat → Nat) (i c : Nat) : encR g k u 0 f i c = 0 := gdot_zero_right _ _ _ (fun t _ => by unfold sprd; rw [if_neg (by omega)])

theorem gdot_one (u v v' : Nat → Nat) (k j : Nat) (hj : j < k) (h : ∀ t, t < k → t ≠ j → v' t = v t) (h0 : v j = 0) : gdot u v' k = gdot u v k ^^^ gmul (u j) (v' j) := by
  induction k with
  | zero => omega
  | succ k ih =>
    rw [gdot, gdot]
    by_cases e : j = k
    · have h1 : gdot u v' k = gdot u v k := gdot_congr (fun _ _ => rfl) (fun t ht => h t (by omega) (by omega))
      rw [h1, ← e, h0, gmul_zero_right, Nat.xor_zero]
    · rw [ih (by omega) (fun t ht hne => h t (by omega) hne), h k (by omega) (fun h => e h.symm), Nat.xor_assoc, Nat.xor_assoc, Nat.xor_comm (gmul (u j) (v' j))]

/-- One byte more. -/
theorem encR_step (g k u p : Nat) (f : Nat → Nat) (i c : Nat) (hk : 1 ≤ k) (hu : 0 < u) :
    encR g k u (p + 1) f i c = if c = p / u / k * u + p % u then encR g k u p f i c ^^^ gmul (genr g k i (p / u % k)) (f p) else encR g k u p f i c := by
  have hpos : pos k u (p / u % k) (p / u / k * u + p % u) = p := by
    rw [pos_of_turn k u (p / u) (p % u) (Nat.mod_lt _ hu), Nat.mul_comm]; exact Nat.div_add_mod p u
  unfold encR
  by_cases e : c = p / u / k * u + p % u
  · rw [if_pos e]
    have hjk : p / u % k < k := Nat.mod_lt _ (by omega)
    rw [gdot_one (genr g k i) (fun j => sprd k u p f j c) (fun j => sprd k u (p + 1) f j c) k (p / u % k) hjk ?_ ?_]
    · congr 2
      show sprd k u (p + 1) f (p / u % k) c = f p
      unfold sprd
      rw [e, hpos, if_pos (by omega)]
    · intro t ht hne
      show sprd k u (p + 1) f t c = sprd k u p f t c
      unfold sprd
      by_cases h1 : pos k u t c < p
      · rw [if_pos h1, if_pos (by omega)]
      · rw [if_neg h1]
        by_cases h2 : pos k u t c = p
        · exact absurd (pos_turn k u t c (p / u) hu ht (by rw [h2])).1 hne
        · rw [if_neg (by omega)]
    · show sprd k u p f (p / u % k) c = 0
      unfold sprd
      rw [e, hpos, if_neg (by omega)]
  · rw [if_neg e]
    refine gdot_congr (fun _ _ => rfl) (fun t ht => ?_)
    show sprd k u (p + 1) f t c = sprd k u p f t c
    unfold sprd
    by_cases h1 : pos k u t c < p
    · rw [if_pos h1, if_pos (by omega)]
    · rw [if_neg h1]
      by_cases h2 : pos k u t c = p
      · exfalso
        have h3 := (pos_turn k u t c (p / u) hu ht (by rw [h2])).2
        rw [h2] at h3
        exact e h3
      · rw [if_neg (by omega)]

theorem encR_pay (g k n : Nat) (f : Nat → Nat) (i c : Nat) (hk : k ≤ 16) (hf : ∀ p, p < n → f p < 256) : encR g k (punit g k n) n f i c = pay g k n f i c := by
  unfold pay encR
  split
  · rename_i h
    refine genr_top g k i hk h (fun j => sprd k (punit g k n) n f j c) (fun t _ => ?_)
    show sprd k (punit g k n) n f t c < 256
    unfold sprd
    split
    · exact hf _ (by assumption)
    · decide
  · rfl

/-- Where byte p goes lies within the payload. -/
theorem home_lt (k u r n p : Nat) (hk : 1 ≤ k) (hu : 0 < u) (hn : n ≤ k * (r * u)) (hp : p < n) : p / u / k * u + p % u < r * u := by
  have h1 : p / u < k * r := by
    rw [Nat.div_lt_iff_lt_mul hu, Nat.mul_assoc]; omega
  have h2 : p / u / k < r := by
    rw [Nat.div_lt_iff_lt_mul (by omega), Nat.mul_comm]; exact h1
  have h3 := Nat.mod_lt p hu
  have h4 : (p / u / k + 1) * u ≤ r * u := Nat.mul_le_mul_right u h2
  rw [Nat.succ_mul] at h4
  omega

theorem hunit_punit (g k n : Nat) : hunit g (psize g k n) = punit g k n := by
  unfold hunit punit psize
  split
  · rfl
  · rfl

/-- The shards in the making: header block HS, payload i alone in block B + i. -/
structure ERel (w0 w : World) (HS B N g n size : Nat) (A : Nat → Nat → Nat) : Prop where
  hdr : w.rowIs HS 60 (4 * N) (shc g n size (fun i => B + i) (fun _ => 0))
  row : ∀ i, i < N → Row w (B + i) size (A i)
  off : HS < B
  bel : Below w0.heap.size w0 w
  hs : w0.heap.size ≤ HS
theorem ERel.blocks {w0 w w' : World} {HS B N g n size : Nat} {A : Nat → Nat → Nat} (h : ERel w0 w HS B N g n size A) (hb : Below w.heap.size w w') : ERel w0 w' HS B N g n size A :=
  ⟨h.hdr.of_block (hb.block _ h.hdr.lt), fun i hi => (h.row i hi).below hb, h.off, h.bel.trans (hb.mono h.bel.size), h.hs⟩
theorem ERel.congr {w0 w : World} {HS B N g n size : Nat} {A A' : Nat → Nat → Nat} (h : ERel w0 w HS B N g n size A) (e : ∀ i, i < N → ∀ c, c < size → A i c = A' i c) : ERel w0 w HS B N g n size A' :=
  ⟨h.hdr, fun i hi => (h.row i hi).congr (e i hi), h.off, h.bel, h.hs⟩
theorem ERel.set {w0 w : World} {HS B N g n size i c x : Nat} {A : Nat → Nat → Nat} (h : ERel w0 w HS B N g n size A) (hi : i < N) (hx : x < 256) : ERel w0 (w.setCell ⟨B + i, c, none⟩ (.int .u8 (x : Int))) HS B N g n size (fun i' c' => if i' = i ∧ c' = c then x else A i' c') := by
  have hO : Only (B + i) w (w.setCell ⟨B + i, c, none⟩ (.int .u8 (x : Int))) := (Only.refl _ _).setCell _ _
  have h1 := h.off
  have h2 := h.hs
  refine ⟨h.hdr.of_block (hO.block _ (by omega)), fun i' hi' => ?_, h.off, h.bel.trans (hO.below (by omega)), h.hs⟩
  by_cases e : i' = i
  · subst e
    exact ((h.row i' hi').set c x hx).congr (fun c' _ => by simp)
  · exact ((h.row i' hi').only hO (by omega)).congr (fun c' _ => by simp [e])

/-- The shards' headers. -/
def msd (g n size B : Nat) (i : Nat) : Sd := ⟨g, (i : Int), (n : Int), some ⟨B + i, 0, none⟩, size, size, fun _ => 0⟩
theorem sdc_msd (g n size B p : Nat) : sdc (msd g n size B) p = shc g n size (fun i => B + i) (fun _ => 0) p := rfl

/-- The first loop: j shards laid. -/
structure E1 (w1 wr : World) (HS B N g n size j : Nat) : Prop where
  hdr : wr.rowIs HS 60 (4 * N) (fun p => if p < 4 * j then sdc (msd g n size B) p else shz p)
  row : ∀ i, i < j → Row wr (B + i) size (fun _ => 0)
  bel : Below w1.heap.size w1 wr
  sz : wr.heap.size = B + j
theorem E1.step {w1 wr : World} {HS B N g n size j : Nat} (h : E1 w1 wr HS B N g n size j) (h1 : w1.heap.size ≤ HS) (h2 : HS < B) : E1 w1 (sdPut (wr.alloc (.cells (madeCells #[.int .u8 0] size) 5)) HS j (msd g n size B j)) HS B N g n size (j + 1) := by
  have hb : Below wr.heap.size wr (wr.alloc (.cells (madeCells #[.int .u8 0] size) 5)) := (Below.refl _ _).alloc (Nat.le_refl _) _
  have hO := sdPut_only (wr.alloc (.cells (madeCells #[.int .u8 0] size) 5)) HS j (msd g n size B j)
  have hsz := h.sz
  have hbs := h.bel.size
  have hnew : Row (wr.alloc (.cells (madeCells #[.int .u8 0] size) 5)) (B + j) size (fun _ => 0) := by
    refine ⟨fun _ _ => (by decide : (0 : Nat) < 256), ?_⟩
    have h := World.rowIs_made wr (.int .u8 0) size 5
    rw [hsz] at h
    exact h
  refine ⟨sd_row (h.hdr.of_block (hb.block _ h.hdr.lt)), fun i hi => ?_, (h.bel.trans (hb.mono hbs)).trans (hO.below h1), ?_⟩
  · by_cases e : i = j
    · subst e; exact hnew.only hO (by omega)
    · exact ((h.row i (by omega)).below hb).only hO (by omega)
  · rw [hO.size]; simp; omega

/-- The second loop, inside: byte p of the object added to the shards below i. -/
def encM (g k u p : Nat) (f : Nat → Nat) (i0 i c : Nat) : Nat := if i < i0 then encR g k u (p + 1) f i c else encR g k u p f i c

/-- What Encode answers. -/
def EPost (w : World) (k N g n : Nat) (f : Nat → Nat) (r : Ending) (w' : World) : Prop := ∃ HS B, r = .returned (.tuple #[.slice (some ⟨HS, 0, none⟩) N N, .int .u8 0]) ∧ ERel w w' HS B N g n (psize g k n) (pay g k n f)

set_option maxRecDepth 100000 in
set_option maxHeartbeats 4000000 in
theorem mencode_ok (k m g n oc : Nat) (oa : Option Addr) (f : Nat → Nat) (w : World) (hk : 1 ≤ k) (hm : 1 ≤ m) (hkm : k + m ≤ 16) (hO : FRow w oa n f) (hg : g = 1 ∨ g = 2 ∨ g = 3) (hn : n ≤ 256) (hoc : n ≤ oc) (hoc2 : oc ≤ 9223372036854775807) :
    Calls Tryd.prog 43 #[.int .i64 k, .int .i64 m, .int .u8 g, .slice oa n oc] w (EPost w k (k + m) g n f) := by
  have hps := psize_le g k n hk hn
  obtain ⟨hp1, hp2, hp3⟩ := plan_fits g k n hk
  have hun := hunit_punit g k n
  have HGG : Hid _ := goodGen_any g w (by omega)
  rw [show genOk g = true from decide_eq_true hg] at HGG
  have hg256 : g < 256 := by omega
  have HSL : Hid _ := mshardLen_any g k n w hg256 hk (by omega) hn
  have HWe : Hid _ := weights_any g k m w hg256 hk hkm
  have HPay : Hid (∀ i c, encR g k (punit g k n) n f i c = pay g k n f i c) := fun i c => encR_pay g k n f i c (by omega) (fun p hp => hO.1 p hp)
  obtain ⟨size, hsize⟩ : ∃ s, psize g k n = s := ⟨_, rfl⟩
  obtain ⟨u, hu⟩ : ∃ u, punit g k n = u := ⟨_, rfl⟩
  rw [hsize] at hps hp2 hp3 hun HSL
  have HSZ : Hid (psize g k n = size) := hsize
  rw [hu] at hp1 hp2 hun HPay
  obtain ⟨N, hN⟩ : ∃ N, k + m = N := ⟨_, rfl⟩
  rw [hN] at hkm HWe ⊢
  have HFi : Hid (∀ p, p < n → f p < 256) := hO.1
  have HOb : Hid (FRow w oa n f) := hO
  have HP1 : Hid (0 < n → 0 < u) := hp1
  have HP2 : Hid (∃ r, size = r * u) := hp2
  have HP3 : Hid (n ≤ k * size) := hp3
  have HUn : Hid (hunit g size = u) := hun
  have hNi : (k : Int) + (m : Int) = (N : Int) := by omega
  have hkN : k ≤ N := by omega
  have hn' : ¬ (256 : Int) < (n : Int) := by omega
  clear hO hp1 hp2 hp3 hun hsize hu hN hg
  go_enter Tryd.func43, Tryd.ntmps43
  go_wp2_with fail
  refine Calls.mono HGG.out ?_
  rintro r w' ⟨rfl, hw⟩
  have hw := hw.symm; subst hw
  clear HGG
  go_wp2_with fail
  refine Calls.mono HSL.out ?_
  rintro r w' ⟨rfl, hw⟩
  have hw := hw.symm; subst hw
  clear HSL
  go_wp2_with fail
  refine Calls.mono HWe.out ?_
  rintro r w1 ⟨hb1, rfl, hM1⟩
  have HM1 : Hid (MatAt w1 w.heap.size N k (fun r => w.heap.size + 1 + r) (genr g k)) := hM1
  have HB1 : Hid (Below w.heap.size w w1) := hb1
  clear HWe hb1 hM1
  obtain ⟨HW, hHW⟩ : ∃ HW, w.heap.size = HW := ⟨_, rfl⟩
  rw [hHW] at HM1 ⊢
  have HHW : Hid (w.heap.size = HW) := hHW
  clear hHW
  have hmk := make_shards N (by omega)
  have HE0 : Hid (E1 w1 (w1.alloc (.cells (madeCells #[.int .u8 0, .int .i64 0, .int .i64 0, .slice none 0 0] (N * 4)) 60)) w1.heap.size (w1.heap.size + 1) N g n size 0) :=
    ⟨(made_shz w1 N).congr (fun p _ => by simp), fun i hi => by omega, (Below.refl _ _).alloc (Nat.le_refl _) _, by simp⟩
  obtain ⟨HS, hHS⟩ : ∃ HS, w1.heap.size = HS := ⟨_, rfl⟩
  rw [hHS] at HE0
  have HHS : Hid (w1.heap.size = HS) := hHS
  go_wp2
  clear hmk hHS
  go_loopw [40] (fun i wr => ∃ j : Nat, j ≤ N ∧ i = .int .i64 j ∧ E1 w1 wr HS (HS + 1) N g n size j) (fun i _ => N - (intOf i).toNat)
  case atStart => exact ⟨0, Nat.zero_le _, rfl, HE0.out⟩
  case round =>
    obtain ⟨j, hj, rfl, hE⟩ := hrel
    clear HE0
    by_cases hlt : j < N
    · have hlt' : (j : Int) < (N : Int) := by omega
      have HF : Hid _ := hE.step (by rw [HHS.out]; exact Nat.le_refl _) (Nat.lt_succ_self HS)
      have hmk := run_make_row' (P := Tryd.prog) 30 5 (.int .u8 0) 1 Tryd.underlying30 Tryd.info5 rfl .i64 .i64 size (by omega) (by omega)
      have hsz := hE.sz
      have hrow := hE.hdr.alloc (.cells (madeCells #[.int .u8 0] size) 5)
      have o0 := hrow.cell (i := j * 4) (by omega)
      have o1 := hrow.cell (i := j * 4 + 1) (by omega)
      have o2 := hrow.cell (i := j * 4 + 2) (by omega)
      have o3 := hrow.cell (i := j * 4 + 3) (by omega)
      have f0 := hrow.frozen (j * 4)
      have f1 := hrow.frozen (j * 4 + 1)
      have f2 := hrow.frozen (j * 4 + 2)
      have f3 := hrow.frozen (j * 4 + 3)
      rw [if_neg (by omega)] at o0 o1 o2 o3
      unfold shz at o0 o1 o2 o3
      rw [if_pos (by omega)] at o0
      rw [if_neg (by omega), if_pos (by omega)] at o1
      rw [if_neg (by omega), if_neg (by omega), if_pos (by omega)] at o2
      rw [if_neg (by omega), if_neg (by omega), if_neg (by omega)] at o3
      clear hE hrow
      unfold sdPut msd at HF
      have HSz : Hid (wr.heap.size = HS + 1 + j) := hsz
      clear hsz
      go_wp2
      rw [HSz.out]
      go_roundw
      case rel => exact ⟨j + 1, by omega, by go_num, HF.out⟩
      case measure => simp [intOf]; omega
    · have hjN : j = N := by omega
      have hlt' : ¬ (j : Int) < (N : Int) := by omega
      subst hjN
      have HE : Hid (ERel w wr HS (HS + 1) j g n size (encR g k u 0 f)) := by
        have h1 := HB1.out
        have h2 := hE.bel
        refine ⟨hE.hdr.congr (fun p hp => by rw [if_pos hp]; rfl), fun i hi => (hE.row i hi).congr (fun c _ => (encR_zero g k u f i c).symm), Nat.lt_succ_self _, h1.trans (h2.mono h1.size), ?_⟩
        rw [← HHS.out]; exact h1.size
      have HBr : Hid (Below w1.heap.size w1 wr) := hE.bel
      clear hE
      go_wp2
      go_loopw [56] (fun i wr => ∃ p : Nat, p ≤ n ∧ i = .int .i64 p ∧ ERel w wr HS (HS + 1) j g n size (encR g k u p f) ∧ Below w1.heap.size w1 wr) (fun i _ => n - (intOf i).toNat)
      case atStart => exact ⟨0, Nat.zero_le _, rfl, HE.out, HBr.out⟩
      case round =>
        obtain ⟨p, hp, rfl, hE, hbr⟩ := hrel
        clear HE HBr
        by_cases hlp : p < n
        · have hlp' : (p : Int) < (n : Int) := by omega
          have hu0 := HP1.out (by omega)
          obtain ⟨rr, hrr⟩ := HP2.out
          have hoff := home_lt k u rr n p hk hu0 (by rw [← hrr]; exact HP3.out) hlp
          rw [← hrr] at hoff
          have hjj : p / u % k < k := Nat.mod_lt _ (by omega)
          have HHo : Hid _ := home_any g k size p wr hk (by omega) (by omega) hps (Nat.lt_of_lt_of_le hlp HP3.out)
          rw [HUn.out] at HHo
          have HStp : Hid (∀ i c, encR g k u (p + 1) f i c = if c = p / u / k * u + p % u then encR g k u p f i c ^^^ gmul (genr g k i (p / u % k)) (f p) else encR g k u p f i c) := fun i c => encR_step g k u p f i c hk hu0
          obtain ⟨off, hof⟩ : ∃ off, p / u / k * u + p % u = off := ⟨_, rfl⟩
          obtain ⟨jj, hjje⟩ : ∃ jj, p / u % k = jj := ⟨_, rfl⟩
          rw [hof] at hoff HHo HStp
          rw [hjje] at hjj HHo HStp
          have hob := (HOb.out.below HB1.out).below hbr
          obtain ⟨ob, oo, rfl, hoc0⟩ := hob.2 (by omega)
          have cp := hoc0 p hlp
          have hfp := HFi.out p hlp
          have HE : Hid (ERel w wr HS (HS + 1) j g n size (encR g k u p f)) := hE
          have HBr : Hid (Below w1.heap.size w1 wr) := hbr
          clear hE hbr hob hoc0 hrr hof hjje
          go_wp2_with fail
          refine Calls.mono HHo.out ?_
          rintro r w3 ⟨rfl, q3, hw3⟩
          have hb3 : Below wr.heap.size wr w3 := by rw [hw3]; exact drewN_below _ _ _
          have HE3 : Hid (ERel w w3 HS (HS + 1) j g n size (encM g k u p f 0)) := (HE.out.blocks hb3).congr (fun i _ c _ => by unfold encM; rw [if_neg (by omega)])
          have HB3 : Hid (Below w1.heap.size w1 w3) := HBr.out.trans (hb3.mono HBr.out.size)
          clear hw3 hb3 HE HBr HHo cp
          obtain ⟨fp, hfpe⟩ : ∃ fp, f p = fp := ⟨_, rfl⟩
          rw [hfpe] at hfp HStp ⊢
          clear hfpe
          go_wp2
          go_loopw [71] (fun i wr => ∃ i0 : Nat, i0 ≤ j ∧ i = .int .i64 i0 ∧ ERel w wr HS (HS + 1) j g n size (encM g k u p f i0) ∧ Below w1.heap.size w1 wr) (fun i _ => j - (intOf i).toNat)
          case atStart => exact ⟨0, Nat.zero_le _, rfl, HE3.out, HB3.out⟩
          case round =>
            obtain ⟨i0, hi0, rfl, hE, hbr⟩ := hrel
            clear HE3 HB3
            by_cases hli : i0 < j
            · have hli' : (i0 : Int) < (j : Int) := by omega
              have hM := HM1.out.below hbr
              have d1 := hM.hdr.cell hli
              have d2 := (hM.row i0 hli).cell hjj
              have d3 := hE.hdr.cell (i := i0 * 4 + 3) (by omega)
              have d4 := (hE.row i0 hli).cell hoff
              have fr := (hE.row i0 hli).2.frozen off
              have e3 : shc g n size (fun i => HS + 1 + i) (fun _ => 0) (i0 * 4 + 3) = .slice (some ⟨HS + 1 + i0, 0, none⟩) size size := by
                unfold shc
                rw [if_neg (by omega), if_neg (by omega), if_neg (by omega), show (i0 * 4 + 3) / 4 = i0 by omega]
              rw [e3] at d3
              have hx1 := encR_lt g k u p f i0 off
              have e4 : encM g k u p f i0 i0 off = encR g k u p f i0 off := by unfold encM; rw [if_neg (by omega)]
              rw [e4] at d4
              have hge := genr_lt g k i0 jj
              have HMu : Hid (∀ V, Calls Tryd.prog 62 #[.int .u8 ((genr g k i0 jj : Nat) : Int), .int .u8 (fp : Int)] V fun r w' => r = .returned (.int .u8 ((gmul (genr g k i0 jj) fp : Nat) : Int)) ∧ w' = V) := fun V => mul_any (genr g k i0 jj) fp V hge hfp
              have hgm := gmul_lt (genr g k i0 jj) fp
              have HNew : Hid (encR g k u (p + 1) f i0 off = encR g k u p f i0 off ^^^ gmul (genr g k i0 jj) fp) := by
                show encR g k u (p + 1) f i0 off = _
                rw [HStp.out i0 off, if_pos rfl]
              have hxx : bits .xor .u8 ((encR g k u p f i0 off : Nat) : Int) ((gmul (genr g k i0 jj) fp : Nat) : Int) = ((encR g k u (p + 1) f i0 off : Nat) : Int) := by
                rw [HNew.out]; exact u8_xor_nat _ _ hx1 hgm
              have hx2 := encR_lt g k u (p + 1) f i0 off
              have HF : Hid (∀ q, ERel w ((wr.setCell ⟨HS + 1 + i0, off, none⟩ (.int .u8 ((encR g k u (p + 1) f i0 off : Nat) : Int))).drewN q) HS (HS + 1) j g n size (encM g k u p f (i0 + 1)) ∧ Below w1.heap.size w1 ((wr.setCell ⟨HS + 1 + i0, off, none⟩ (.int .u8 ((encR g k u (p + 1) f i0 off : Nat) : Int))).drewN q)) := by
                intro q
                have hO : Only (HS + 1 + i0) wr (wr.setCell ⟨HS + 1 + i0, off, none⟩ (.int .u8 ((encR g k u (p + 1) f i0 off : Nat) : Int))) := (Only.refl _ _).setCell _ _
                refine ⟨((hE.set (c := off) hli hx2).congr (fun i hi c hc => ?_)).blocks (drewN_below _ _ _), (hbr.trans (hO.below (by have := HHS.out; omega))).trans (drewN_below _ _ _)⟩
                unfold encM
                by_cases e1 : i = i0
                · subst e1
                  rw [if_pos (Nat.lt_succ_self _), if_neg (Nat.lt_irrefl _)]
                  by_cases e2 : c = off
                  · rw [if_pos ⟨rfl, e2⟩, e2]
                  · rw [if_neg (fun h => e2 h.2), HStp.out i c, if_neg e2]
                · rw [if_neg (fun h => e1 h.1)]
                  by_cases e2 : i < i0
                  · rw [if_pos e2, if_pos (by omega)]
                  · rw [if_neg e2, if_neg (by omega)]
              have hHS1 : HS + 1 + i0 < wr.heap.size := (hE.row i0 hli).lt
              clear hE hbr hM e3 e4 HNew hx1 HM1
              generalize encR g k u (p + 1) f i0 off = xn at *
              generalize encR g k u p f i0 off = xo at *
              generalize gmul (genr g k i0 jj) fp = gm at *
              generalize genr g k i0 jj = ge at *
              go_upto_region 19 with fail
              refine region_last (C := fun w' => ∃ n, w' = wr.drewN n) 19 #[true, true, true, true, true, true, true, true, true, true, true, true, true, true, true, true, true, true, true, false] (by kernel_rfl) (by kernel_rfl) ⟨1, rfl⟩ ?_
              simp only [List.take_succ_cons, List.take_zero]
              repeat (go_big_quiet_step (first | (go_at_call 62; with_reducible exact Calls.quiet_of_same (HMu.out _))))
              refine wpQuiet_nil ?_
              rintro w' ⟨nq, rfl⟩
              refine ⟨_, rfl, rfl, ?_⟩
              refine wp_of_run_skip1 (w' := (wr.drewN nq).setCell ⟨HS + 1 + i0, off, none⟩ (.int .u8 (xn : Int))) (by go_simp) ?_
              go_wp2_with fail
              go_roundw
              case rel => exact ⟨i0 + 1, by omega, by go_num, HF.out nq⟩
              case measure => simp [intOf]; omega
            · have hij : i0 = j := by omega
              have hli' : ¬ (i0 : Int) < (j : Int) := by omega
              have HF : Hid (ERel w wr HS (HS + 1) j g n size (encR g k u (p + 1) f) ∧ Below w1.heap.size w1 wr) := ⟨hE.congr (fun i hi c _ => by unfold encM; rw [if_pos (by omega)]), hbr⟩
              clear hE hbr
              go_wp2
              go_roundw
              case rel => exact ⟨p + 1, by omega, by go_num, HF.out⟩
              case measure => simp [intOf]; omega
        · have hpn : p = n := by omega
          have hlp' : ¬ (p : Int) < (n : Int) := by omega
          subst hpn
          have HF : Hid (ERel w wr HS (HS + 1) j g p size (pay g k p f)) := hE.congr (fun i _ c _ => HPay.out i c)
          clear hE hbr
          go_wp2
          go_ret2
          exact ⟨HS, HS + 1, rfl, by rw [HSZ.out]; exact HF.out⟩
end Go.Proofs.Qxb6500697aDoor
