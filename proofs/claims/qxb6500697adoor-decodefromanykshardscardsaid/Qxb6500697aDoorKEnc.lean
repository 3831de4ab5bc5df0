/-
  SHARDS IN MEMORY; THE WALK OF Encode.
-/
import Derived.Test.Qxb6500697aDoorKSpread
import Derived.Test.Qxb6500697aDoorKComb
namespace Go.Proofs.Qxb6500697aDoor
open Go.RowKit

/-- The cells of a list of shards, flat. -/
def shc (g n size : Nat) (pb po : Nat → Nat) (p : Nat) : Value :=
  if p % 4 = 0 then .int .u8 g else if p % 4 = 1 then .int .i64 ((p / 4 : Nat) : Int) else if p % 4 = 2 then .int .i64 n else .slice (some ⟨pb (p / 4), po (p / 4), none⟩) size size
def shz (p : Nat) : Value := if p % 4 = 0 then .int .u8 0 else if p % 4 = 1 then .int .i64 0 else if p % 4 = 2 then .int .i64 0 else .slice none 0 0

/-- The generator of a family. -/
def genr (g k : Nat) : Nat → Nat → Nat := if g = 1 then vand k else cauchy k
/-- What shard i of an object holds at c. -/
def pay (g k n : Nat) (f : Nat → Nat) (i c : Nat) : Nat := if i < k then sprd k (punit g k n) n f i c else gdot (genr g k i) (fun j => sprd k (punit g k n) n f j c) k

/-- N shards of generation g and of an object of n bytes, in block HS; shard i's payload P i lies at (pb i, po i). -/
structure ShardsAt (w : World) (HS N g n size : Nat) (pb po : Nat → Nat) (P : Nat → Nat → Nat) : Prop where
  row : w.rowIs HS 60 (4 * N) (shc g n size pb po)
  pay : ∀ i, i < N → FRow w (some ⟨pb i, po i, none⟩) size (P i)
  off : ∀ i, i < N → pb i ≠ HS

theorem Tryd.info60 : (Tryd.prog.info? 60).map (fun i => (i.zero, i.size, i.bytes)) = some (some (.agg #[.int .u8 0, .int .i64 0, .int .i64 0, .slice none 0 0]), 4, 48) := by kernel_rfl

theorem make_shards (n : Nat) (hn : n ≤ 4096) (w : World) : (Instr.makeSlice 36 (.int .i64 (n : Int)) (.int .i64 (n : Int))).run Tryd.prog w = .ok (.slice (some ⟨w.heap.size, 0, none⟩) n n) (w.alloc (.cells (madeCells #[.int .u8 0, .int .i64 0, .int .i64 0, .slice none 0 0] (n * 4)) 60)) := by
  obtain ⟨i0, hi, hzz⟩ := Option.map_eq_some_iff.1 Tryd.info60
  simp only [Prod.mk.injEq] at hzz
  obtain ⟨hz0, hz1, hz2⟩ := hzz
  have h := run_make (P := Tryd.prog) w 36 60 i0 _ Tryd.underlying36 hi hz0 .i64 .i64 (n : Int) (n : Int) (by omega) (by omega) (by rw [hz2]; omega) (by omega)
  rw [hz1, Int.toNat_natCast] at h
  exact h

theorem made_shz (w : World) (n : Nat) : (w.alloc (.cells (madeCells #[.int .u8 0, .int .i64 0, .int .i64 0, .slice none 0 0] (n * 4)) 60)).rowIs w.heap.size 60 (4 * n) shz := by
  refine ⟨_, heap_alloc_new w _, by rw [size_madeCells, Nat.mul_comm], fun i hi => ?_⟩
  have hi' : i < n * 4 := by omega
  simp only [madeCells, Array.getElem?_map, Array.getElem?_range, hi', if_true, Option.map_some]
  unfold shz
  congr 1
  have h4 := Nat.mod_lt i (show 0 < 4 by decide)
  show (#[Value.int .u8 0, .int .i64 0, .int .i64 0, .slice none 0 0])[i % 4]! = _
  generalize i % 4 = r at *
  match r, h4 with
  | 0, _ => rfl
  | 1, _ => rfl
  | 2, _ => rfl
  | 3, _ => rfl

theorem flat_sprd (k u size n : Nat) (f : Nat → Nat) (j c : Nat) (hc : c < size) : flat k u size n f (j * size + c) = sprd k u n f j c := by
  have h1 : (j * size + c) / size = j := by rw [Nat.mul_comm, Nat.mul_add_div (by omega), Nat.div_eq_of_lt hc, Nat.add_zero]
  have h2 : (j * size + c) % size = c := by rw [Nat.mul_comm, Nat.mul_add_mod, Nat.mod_eq_of_lt hc]
  unfold flat sprd
  rw [h1, h2]

theorem ceil_spec (a b : Nat) (hb : 0 < b) : a ≤ ceil a b * b := by
  unfold ceil
  have h := Nat.div_add_mod (a + b - 1) b
  have h2 := Nat.mod_lt (a + b - 1) hb
  rw [Nat.mul_comm] at h
  omega

/-- The plan fits the object. -/
theorem plan_fits (g k n : Nat) (hk : 1 ≤ k) : (0 < n → 0 < punit g k n) ∧ (∃ r, psize g k n = r * punit g k n) ∧ n ≤ k * psize g k n := by
  unfold psize punit
  have hc := ceil_spec n k (by omega)
  by_cases e : g = 3
  · simp only [if_pos e]
    refine ⟨fun _ => by omega, ⟨_, rfl⟩, ?_⟩
    have h1 := ceil_spec n 8 (by omega)
    have h2 := ceil_spec (ceil n 8) k (by omega)
    have h3 := Nat.mul_le_mul_right 8 h2
    have h4 : k * (ceil (ceil n 8) k * 8) = ceil (ceil n 8) k * k * 8 := by rw [← Nat.mul_assoc, Nat.mul_comm k]
    omega
  · simp only [if_neg e]
    refine ⟨fun h => ?_, ⟨1, by rw [Nat.one_mul]⟩, by rw [Nat.mul_comm]; exact hc⟩
    rcases Nat.eq_zero_or_pos (ceil n k) with h0 | h0
    · rw [h0, Nat.zero_mul] at hc; omega
    · exact h0

/-- A shard's three numbers written, its payload still nil. -/
def shPut (w : World) (HS i0 g n : Nat) : World := (((w.setCell ⟨HS, i0 * 4, none⟩ (.int .u8 (g : Int))).setCell ⟨HS, i0 * 4 + 1, none⟩ (.int .i64 (i0 : Int))).setCell ⟨HS, i0 * 4 + 2, none⟩ (.int .i64 (n : Int))).setCell ⟨HS, i0 * 4 + 3, none⟩ (.slice none 0 0)

theorem shPut_only (w : World) (HS i0 g n : Nat) : Only HS w (shPut w HS i0 g n) := ((((Only.refl _ _).setCell _ _).setCell _ _).setCell _ _).setCell _ _

theorem mid_row {w : World} {HS N g n size i0 : Nat} {pb po : Nat → Nat} (h : w.rowIs HS 60 (4 * N) (fun p => if p < 4 * i0 then shc g n size pb po p else shz p)) :
    (shPut w HS i0 g n).rowIs HS 60 (4 * N) (fun p => if p < 4 * i0 + 3 then shc g n size pb po p else shz p) := by
  refine ((((h.set (i0 * 4) _).set (i0 * 4 + 1) _).set (i0 * 4 + 2) _).set (i0 * 4 + 3) _).congr (fun p hp => ?_)
  by_cases e3 : p = i0 * 4 + 3
  · rw [if_pos e3, if_neg (by omega), e3]
    unfold shz
    rw [if_neg (by omega), if_neg (by omega), if_neg (by omega)]
  · rw [if_neg e3]
    by_cases e2 : p = i0 * 4 + 2
    · rw [if_pos e2, if_pos (by omega), e2]
      unfold shc
      rw [if_neg (by omega), if_neg (by omega), if_pos (by omega)]
    · rw [if_neg e2]
      by_cases e1 : p = i0 * 4 + 1
      · rw [if_pos e1, if_pos (by omega), e1]
        unfold shc
        rw [if_neg (by omega), if_pos (by omega), show (i0 * 4 + 1) / 4 = i0 by omega]
      · rw [if_neg e1]
        by_cases e0 : p = i0 * 4
        · rw [if_pos e0, if_pos (by omega), e0]
          unfold shc
          rw [if_pos (by omega)]
        · rw [if_neg e0]
          by_cases h2 : p < 4 * i0
          · rw [if_pos h2, if_pos (by omega)]
          · rw [if_neg h2, if_neg (by omega)]

theorem fin_row {w : World} {HS N g n size i0 b o : Nat} {pb po : Nat → Nat} (h : w.rowIs HS 60 (4 * N) (fun p => if p < 4 * i0 + 3 then shc g n size pb po p else shz p)) :
    (w.setCell ⟨HS, i0 * 4 + 3, none⟩ (.slice (some ⟨b, o, none⟩) size size)).rowIs HS 60 (4 * N) (fun p => if p < 4 * (i0 + 1) then shc g n size (fun i => if i = i0 then b else pb i) (fun i => if i = i0 then o else po i) p else shz p) := by
  refine (h.set (i0 * 4 + 3) _).congr (fun p hp => ?_)
  by_cases e3 : p = i0 * 4 + 3
  · rw [if_pos e3, if_pos (by omega), e3]
    unfold shc
    rw [if_neg (by omega), if_neg (by omega), if_neg (by omega), show (i0 * 4 + 3) / 4 = i0 by omega]
    simp only [if_true]
  · rw [if_neg e3]
    by_cases h2 : p < 4 * i0 + 3
    · rw [if_pos h2, if_pos (by omega)]
      unfold shc
      by_cases h4 : p / 4 = i0
      · have : p % 4 < 3 := by omega
        by_cases a0 : p % 4 = 0
        · rw [if_pos a0, if_pos a0]
        · by_cases a1 : p % 4 = 1
          · rw [if_neg a0, if_neg a0, if_pos a1, if_pos a1]
          · rw [if_neg a0, if_neg a0, if_neg a1, if_neg a1, if_pos (by omega), if_pos (by omega)]
      · simp only [if_neg h4]
    · rw [if_neg h2, if_neg (by omega)]

/-- What the loop of Encode keeps. -/
structure EncRel (w w2 wr : World) (Hd N g n size i0 : Nat) (P : Nat → Nat → Nat) (pb po : Nat → Nat) : Prop where
  row : wr.rowIs (Hd + 1) 60 (4 * N) (fun p => if p < 4 * i0 then shc g n size pb po p else shz p)
  pay : ∀ i, i < i0 → FRow wr (some ⟨pb i, po i, none⟩) size (P i)
  pb : ∀ i, i < i0 → w.heap.size ≤ pb i ∧ pb i ≠ Hd + 1 ∧ pb i < wr.heap.size
  bel : Below (Hd + 1) w2 wr
  sz : Hd + 2 ≤ wr.heap.size

/-- The step: the numbers are written, other memory may be made, then the payload is laid. -/
theorem EncRel.step {w w2 wr wq : World} {Hd N g n size i0 b o : Nat} {P : Nat → Nat → Nat} {pb po : Nat → Nat} (h : EncRel w w2 wr Hd N g n size i0 P pb po) (hb : Below (shPut wr (Hd + 1) i0 g n).heap.size (shPut wr (Hd + 1) i0 g n) wq)
    (hp : FRow wq (some ⟨b, o, none⟩) size (P i0)) (hbw : w.heap.size ≤ b) (hbh : b ≠ Hd + 1) (hbl : b < wq.heap.size) :
    EncRel w w2 (wq.setCell ⟨Hd + 1, i0 * 4 + 3, none⟩ (.slice (some ⟨b, o, none⟩) size size)) Hd N g n size (i0 + 1) P (fun i => if i = i0 then b else pb i) (fun i => if i = i0 then o else po i) := by
  have hO1 := shPut_only wr (Hd + 1) i0 g n
  have hO2 : Only (Hd + 1) wq (wq.setCell ⟨Hd + 1, i0 * 4 + 3, none⟩ (.slice (some ⟨b, o, none⟩) size size)) := (Only.refl _ _).setCell _ _
  have hs1 := hO1.size
  have hs2 := hb.size
  have hs3 := hO2.size
  have hz := h.sz
  have hm := mid_row h.row
  have hm2 := hm.of_block (hb.block (Hd + 1) hm.lt)
  refine ⟨fin_row hm2, fun i hi => ?_, fun i hi => ?_, ((h.bel.trans (hO1.below (Nat.le_refl _))).trans (hb.mono (by omega))).trans (hO2.below (Nat.le_refl _)), by omega⟩
  · by_cases e : i = i0
    · subst e
      simp only [if_true]
      exact hp.only hO2 (fun _ b' o' he => by have : b = b' := congrArg (fun x : Option Addr => (x.getD ⟨0, 0, none⟩).block) he; omega)
    · simp only [if_neg e]
      have hpi := h.pb i (by omega)
      have h1 := (h.pay i (by omega)).only hO1 (fun _ b' o' he => by have : pb i = b' := congrArg (fun x : Option Addr => (x.getD ⟨0, 0, none⟩).block) he; omega)
      exact (h1.below hb).only hO2 (fun _ b' o' he => by have : pb i = b' := congrArg (fun x : Option Addr => (x.getD ⟨0, 0, none⟩).block) he; omega)
  · by_cases e : i = i0
    · simp only [if_pos e]; exact ⟨hbw, hbh, by omega⟩
    · simp only [if_neg e]
      have hpi := h.pb i (by omega)
      exact ⟨hpi.1, hpi.2.1, by omega⟩

set_option maxRecDepth 100000 in
set_option maxHeartbeats 4000000 in
theorem encode_ok (w : World) (F : Nat → Prop) (cb mb k m g n oc : Nat) (oa : Option Addr) (f : Nat → Nat) (hC : CodecAt w F cb mb k m) (hO : FRow w oa n f) (hg : g = 1 ∨ g = 2 ∨ g = 3) (hn : n ≤ 256) (hoc : n ≤ oc) (hoc2 : oc ≤ 9223372036854775807) :
    Calls Tryd.prog 18 #[.pointer (some ⟨cb, 0, none⟩), .int .u8 g, .slice oa n oc] w fun e w' => ∃ HS pb po, e = .returned (.tuple #[.slice (some ⟨HS, 0, none⟩) ((k + m : Nat)) ((k + m : Nat)), .nilIface]) ∧ w.heap.size ≤ HS ∧ (∀ i, i < k + m → w.heap.size ≤ pb i) ∧ ShardsAt w' HS (k + m) g n (psize g k n) pb po (pay g k n f) ∧ Below w.heap.size w w' := by
  have hI : Tryd.prog.isIface 48 = true := by kernel_rfl
  have hk := hC.hk
  have hm := hC.hm
  have hkn := hC.hn
  obtain ⟨hp1, hp2, hp3⟩ := plan_fits g k n hk
  have hps := psize_le g k n hk hn
  have HC : Hid (CodecAt w F cb mb k m) := hC
  have HO : Hid (FRow w oa n f) := hO
  have HP : Hid _ := plan_ok w F cb mb k m g n hC hg hn
  have HPV : Hid (planV g k n = .agg #[.int .u8 ((pfam g : Nat) : Int), .int .i64 ((psize g k n : Nat) : Int), .int .i64 ((punit g k n : Nat) : Int)]) := rfl
  rw [HPV.out] at HP
  have HPay : Hid (∀ i c, pay g k n f i c = if i < k then sprd k (punit g k n) n f i c else gdot (genr g k i) (fun j => sprd k (punit g k n) n f j c) k) := fun _ _ => rfl
  have hfam : pfam g = 0 ∧ genr g k = vand k ∨ pfam g = 1 ∧ genr g k = cauchy k := by
    unfold pfam genr
    by_cases e : g = 1
    · simp [e]
    · simp [e]
  generalize pay g k n f = P at *
  generalize psize g k n = size at *
  generalize punit g k n = u at *
  generalize genr g k = G at *
  generalize pfam g = fam at *
  clear hC hO HPV
  go_enter Tryd.func18, Tryd.ntmps18
  go_wp2_with fail
  refine Calls.mono HP.out ?_
  rintro r w1 ⟨rfl, hb1⟩
  obtain ⟨W1, hW1⟩ : ∃ W1, w1.alloc (.cells #[.int .u8 fam, .int .i64 size, .int .i64 u] 95) = W1 := ⟨_, rfl⟩
  have hx0 : W1.cell? ⟨w1.heap.size, 0, none⟩ = some (.int .u8 fam) := by rw [← hW1]; simp
  have hx1 : W1.cell? ⟨w1.heap.size, 1, none⟩ = some (.int .i64 size) := by rw [← hW1]; simp
  have hx2 : W1.cell? ⟨w1.heap.size, 2, none⟩ = some (.int .i64 u) := by rw [← hW1]; simp
  have hb1' : Below w.heap.size w W1 := by rw [← hW1]; exact hb1.alloc hb1.size _
  have HB1 : Hid (Below w.heap.size w W1) := hb1'
  have HSp : Hid _ := spread_any W1 F cb mb k m fam size u n oc oa f (HC.out.below hb1') (HO.out.below hb1') hn hoc hoc2 hps hp1 hp2 hp3
  have hs1 := hb1.size
  have hs1' : W1.heap.size = w1.heap.size + 1 := by rw [← hW1]; simp
  clear hb1 hb1' HP
  go_wp2_with fail
  refine Calls.mono HSp.out ?_
  rintro r w2 ⟨rfl, hb2, hrow2, hhdr2, hsz2⟩
  have y0 : w2.cell? ⟨w1.heap.size, 0, none⟩ = some (.int .u8 fam) := (hb2.cell (p := ⟨w1.heap.size, 0, none⟩) (by show w1.heap.size < W1.heap.size; omega)).trans hx0
  have y1 : w2.cell? ⟨w1.heap.size, 1, none⟩ = some (.int .i64 size) := (hb2.cell (p := ⟨w1.heap.size, 1, none⟩) (by show w1.heap.size < W1.heap.size; omega)).trans hx1
  have HB2 : Hid (Below w.heap.size w w2) := HB1.out.trans (hb2.mono HB1.out.size)
  have hwS : w.heap.size ≤ W1.heap.size := HB1.out.size
  obtain ⟨Bk, hBk⟩ : ∃ x, W1.heap.size + 1 = x := ⟨_, rfl⟩
  obtain ⟨Hd, hHd⟩ : ∃ x, W1.heap.size + 2 = x := ⟨_, rfl⟩
  have hsz3 : w2.heap.size = Hd + 1 := by omega
  have hq1 : w1.heap.size < Bk := by omega
  have hq2 : Bk < Hd := by omega
  rw [hBk] at hrow2 hhdr2
  rw [hHd] at hhdr2 ⊢
  have HR2 : Hid (Row w2 Bk (k * size) (flat k u size n f)) := hrow2
  have HH2 : Hid (w2.rowIs Hd 30 k (fun j => .slice (some ⟨Bk, j * size, none⟩) size size)) := hhdr2
  clear hb2 hrow2 hhdr2 hx0 hx1 hx2 hW1 hsz2 HSp HB1 hBk hHd hs1' hwS
  have HNn : Hid _ := codecN_drew w2 F cb mb k m (HC.out.below HB2.out)
  go_wp2_with fail
  refine Calls.mono HNn.out ?_
  rintro r w3 ⟨rfl, hw⟩
  subst hw
  obtain ⟨N, hN⟩ : ∃ N, k + m = N := ⟨_, rfl⟩
  rw [hN]
  have hmk := make_shards N (by omega)
  clear HNn
  go_wp2
  clear hmk
  obtain ⟨Wm, hWm⟩ : ∃ Wm, (w2.alloc (.cells (madeCells #[.int .u8 0, .int .i64 0, .int .i64 0, .slice none 0 0] (N * 4)) 60)).drew = Wm := ⟨_, rfl⟩
  rw [hWm]
  have HM0 : Hid (Wm.rowIs (Hd + 1) 60 (4 * N) shz) := by
    have h : Wm.rowIs (Hd + 1) 60 (4 * N) shz := by rw [← hWm, ← hsz3]; exact (made_shz w2 N).drew
    exact h
  have HBm : Hid (Below (Hd + 1) w2 Wm) := by
    have h : Below (Hd + 1) w2 Wm := by rw [← hWm]; exact ((Below.refl _ _).alloc (by omega) _).drew
    exact h
  have hszm : Hd + 2 ≤ Wm.heap.size := by rw [← hWm]; show Hd + 2 ≤ (w2.alloc _).heap.size; simp; omega
  clear hWm
  go_loopw [33] (fun i wr => ∃ (i0 : Nat) (pb po : Nat → Nat), i0 ≤ N ∧ i = .int .i64 i0 ∧ EncRel w w2 wr Hd N g n size i0 P pb po) (fun i _ => N - (intOf i).toNat)
  case atStart => exact ⟨0, fun _ => 0, fun _ => 0, Nat.zero_le _, rfl, World.rowIs.congr HM0.out (fun p _ => by simp), fun i hi => by omega, fun i hi => by omega, HBm.out, hszm⟩
  case round =>
    obtain ⟨i0, pb, po, hi0, rfl, hR⟩ := hrel
    have hrow := hR.row
    have hbel := hR.bel
    have hsz4 := hR.sz
    have HR : Hid (EncRel w w2 wr Hd N g n size i0 P pb po) := hR
    clear hR
    clear HM0 HBm
    by_cases hlt : i0 < N
    · have hlt' : (i0 : Int) < (N : Int) := by omega
      have e0 := hrow.cell (i := i0 * 4) (by omega)
      have e1 := hrow.cell (i := i0 * 4 + 1) (by omega)
      have e2 := hrow.cell (i := i0 * 4 + 2) (by omega)
      have e3 := hrow.cell (i := i0 * 4 + 3) (by omega)
      have fr0 := hrow.frozen (i0 * 4)
      have fr1 := hrow.frozen (i0 * 4 + 1)
      have fr2 := hrow.frozen (i0 * 4 + 2)
      have fr3 := hrow.frozen (i0 * 4 + 3)
      simp only [show ¬ i0 * 4 < 4 * i0 by omega, show ¬ i0 * 4 + 1 < 4 * i0 by omega, show ¬ i0 * 4 + 2 < 4 * i0 by omega, show ¬ i0 * 4 + 3 < 4 * i0 by omega, if_false] at e0 e1 e2 e3
      have hcb := HC.out.lt
      have hsw := HB2.out.size
      have c0 : wr.cell? ⟨cb, 0, none⟩ = some (.int .i64 k) := (hbel.cell (p := ⟨cb, 0, none⟩) (by show cb < Hd + 1; omega)).trans ((HB2.out.cell (p := ⟨cb, 0, none⟩) hcb).trans HC.out.c0)
      have y0r : wr.cell? ⟨w1.heap.size, 0, none⟩ = some (.int .u8 fam) := (hbel.cell (p := ⟨w1.heap.size, 0, none⟩) (by show w1.heap.size < Hd + 1; omega)).trans y0
      have y1r : wr.cell? ⟨w1.heap.size, 1, none⟩ = some (.int .i64 size) := (hbel.cell (p := ⟨w1.heap.size, 1, none⟩) (by show w1.heap.size < Hd + 1; omega)).trans y1
      by_cases hik : i0 < k
      · have hik' : (i0 : Int) < (k : Int) := by omega
        have hh : wr.cell? ⟨Hd, i0, none⟩ = some (.slice (some ⟨Bk, i0 * size, none⟩) size size) := (hbel.cell (p := ⟨Hd, i0, none⟩) (by show Hd < Hd + 1; omega)).trans (HH2.out.cell hik)
        have HF : Hid (EncRel w w2 ((shPut wr (Hd + 1) i0 g n).setCell ⟨Hd + 1, i0 * 4 + 3, none⟩ (.slice (some ⟨Bk, i0 * size, none⟩) size size)) Hd N g n size (i0 + 1) P (fun i => if i = i0 then Bk else pb i) (fun i => if i = i0 then i0 * size else po i)) := by
          have hO1 := shPut_only wr (Hd + 1) i0 g n
          have hs1 := hO1.size
          have hBl : Below (Hd + 1) w2 (shPut wr (Hd + 1) i0 g n) := hbel.trans (hO1.below (Nat.le_refl _))
          refine HR.out.step (Below.refl _ _) ⟨fun c hc => ?_, fun h0 => ⟨Bk, i0 * size, rfl, fun c hc => ?_⟩⟩ (by omega) (by omega) (by omega)
          · rw [HPay.out, if_pos hik, ← flat_sprd k u size n f i0 c hc]
            exact HR2.out.1 _ (by have h1 := Nat.mul_le_mul_right size (show i0 + 1 ≤ k by omega); rw [Nat.succ_mul] at h1; omega)
          · rw [HPay.out, if_pos hik, ← flat_sprd k u size n f i0 c hc]
            exact (hBl.cell (p := ⟨Bk, i0 * size + c, none⟩) (by show Bk < Hd + 1; omega)).trans (HR2.out.cell (by have h1 := Nat.mul_le_mul_right size (show i0 + 1 ≤ k by omega); rw [Nat.succ_mul] at h1; omega))
        clear hrow hbel
        go_wp2
        exact ⟨⟨i0 + 1, _, _, by omega, by go_num, HF.out⟩, by simp [intOf]; omega⟩
      · have hik' : ¬ (i0 : Int) < (k : Int) := by omega
        go_wp2
        have hO1 := shPut_only wr (Hd + 1) i0 g n
        have hm := mid_row HR.out.row
        obtain ⟨W9, hW9⟩ : ∃ W9, shPut wr (Hd + 1) i0 g n = W9 := ⟨_, rfl⟩
        have hsp : (((wr.setCell ⟨Hd + 1, i0 * 4, none⟩ (.int .u8 (g : Int))).setCell ⟨Hd + 1, i0 * 4 + 1, none⟩ (.int .i64 (i0 : Int))).setCell ⟨Hd + 1, i0 * 4 + 2, none⟩ (.int .i64 (n : Int))).setCell ⟨Hd + 1, i0 * 4 + 3, none⟩ (.slice none 0 0) = W9 := hW9
        rw [hsp]
        rw [hW9] at hO1 hm
        have hs9 := hO1.size
        have hBl : Below (Hd + 1) w2 W9 := hbel.trans (hO1.below (Nat.le_refl _))
        have f3 : W9.cell? ⟨Hd + 1, i0 * 4 + 3, none⟩ = some (.slice none 0 0) := by
          have h := hm.cell (i := i0 * 4 + 3) (by omega)
          rw [h, if_neg (by omega)]
          unfold shz
          rw [if_neg (by omega), if_neg (by omega), if_neg (by omega)]
        have ff3 := hm.frozen (i0 * 4 + 3)
        have y0w : W9.cell? ⟨w1.heap.size, 0, none⟩ = some (.int .u8 fam) := (hBl.cell (p := ⟨w1.heap.size, 0, none⟩) (by show w1.heap.size < Hd + 1; omega)).trans y0
        have y1w : W9.cell? ⟨w1.heap.size, 1, none⟩ = some (.int .i64 size) := (hBl.cell (p := ⟨w1.heap.size, 1, none⟩) (by show w1.heap.size < Hd + 1; omega)).trans y1
        have hDr : RMat W9 (some ⟨Hd, 0, none⟩) k size (fun j c => sprd k u n f j c) := fun _ => ⟨Hd, 0, rfl, fun r hr => ⟨_, size, by rw [Nat.zero_add]; exact (hBl.cell (p := ⟨Hd, r, none⟩) (by show Hd < Hd + 1; omega)).trans (HH2.out.cell hr), Nat.le_refl _, by omega, ⟨fun c hc => by
            show sprd k u n f r c < 256
            rw [← flat_sprd k u size n f r c hc]
            exact HR2.out.1 _ (by have h1 := Nat.mul_le_mul_right size (show r + 1 ≤ k by omega); rw [Nat.succ_mul] at h1; omega), fun _ => ⟨Bk, r * size, rfl, fun c hc => by
            show W9.cell? ⟨Bk, r * size + c, none⟩ = some (.int .u8 ((sprd k u n f r c : Nat) : Int))
            rw [← flat_sprd k u size n f r c hc]
            exact (hBl.cell (p := ⟨Bk, r * size + c, none⟩) (by show Bk < Hd + 1; omega)).trans (HR2.out.cell (by have h1 := Nat.mul_le_mul_right size (show r + 1 ≤ k by omega); rw [Nat.succ_mul] at h1; omega))⟩⟩⟩⟩
        have HCmF : ∀ so scp, FRow W9 so k (G i0) → ∀ W, (W = W9 ∨ W = W9.drew) → Calls Tryd.prog 51 #[.slice so k scp, .slice (some ⟨Hd, 0, none⟩) k k, .int .i64 size] W fun e w' => e = .returned (.slice (some ⟨W9.heap.size, 0, none⟩) size size) ∧ FRow w' (some ⟨W9.heap.size, 0, none⟩) size (P i0) ∧ Below W9.heap.size W9 w' ∧ w'.heap.size = W9.heap.size + 1 := by
          intro so scp hso W hW
          have hb : Below W9.heap.size W9 W := by rcases hW with rfl | rfl; exact Below.refl _ _; exact (Below.refl _ _).drew
          have hsz : W.heap.size = W9.heap.size := by rcases hW with rfl | rfl <;> rfl
          refine (combine_any so (some ⟨Hd, 0, none⟩) scp k k size (G i0) (fun j c => sprd k u n f j c) W (hso.below hb) (hDr.below hb) (by omega) (by omega)).mono ?_
          rintro e w' ⟨h1, h2, h3, h4⟩
          rw [hsz] at h1 h2 h3 h4
          refine ⟨h1, (Row.congr h2 (fun c _ => ?_)).frow, hb.trans h3, h4⟩
          rw [HPay.out, if_neg hik]
        have HSt : Hid (∀ wq, FRow wq (some ⟨W9.heap.size, 0, none⟩) size (P i0) → Below W9.heap.size W9 wq → wq.heap.size = W9.heap.size + 1 → EncRel w w2 (wq.setCell ⟨Hd + 1, i0 * 4 + 3, none⟩ (.slice (some ⟨W9.heap.size, 0, none⟩) size size)) Hd N g n size (i0 + 1) P (fun i => if i = i0 then W9.heap.size else pb i) (fun i => if i = i0 then 0 else po i) ∧ True) := by
          intro wq h1 h2 h3
          refine ⟨HR.out.step (by rw [hW9]; exact h2) h1 (by omega) (by omega) (by omega), trivial⟩
        clear hrow hbel hsp hO1 hm hDr e0 e1 e2 e3 fr0 fr1 fr2 fr3 y0r y1r c0
        have hz9 : Hd + 2 ≤ W9.heap.size := by omega
        clear hs9
        rcases hfam with ⟨hfe, hGe⟩ | ⟨hfe, hGe⟩
        all_goals
          rw [hfe] at y0w
          clear hfe
        · obtain ⟨H, gc, hg1, hg2, hg3, hg4⟩ := (HC.out.below HB2.out).g0
          obtain ⟨hb', ho', hbe, hrr⟩ := (hg4.rmat) (by omega)
          obtain ⟨rfl, rfl⟩ : H = hb' ∧ 0 = ho' := by simpa using hbe
          obtain ⟨so, scp, r1, r2, r3, r4⟩ := hrr i0 (by omega)
          rw [Nat.zero_add] at r1
          have hHb : H < Hd + 1 := by have := cell_lt r1; omega
          have gcell : W9.cell? ⟨cb, 2, none⟩ = some (.slice (some ⟨H, 0, none⟩) N gc) := (hBl.cell (p := ⟨cb, 2, none⟩) (by show cb < Hd + 1; omega)).trans (by rw [hg1, hN])
          have hcell : W9.cell? ⟨H, i0, none⟩ = some (.slice so k scp) := (hBl.cell (p := ⟨H, i0, none⟩) hHb).trans r1
          have r5 : FRow W9 so k (G i0) := by
            rw [hGe]
            exact r4.below (by rw [hsz3]; exact hBl)
          have HCm := HCmF so scp r5
          clear hg1 hg4 hrr r1 r4 r5 hbe HCmF
          go_region_with (go_at_call 51; refine (HCm _ (by first | exact .inl rfl | exact .inr rfl)).mono ?_; rintro e wq ⟨rfl, q1, q2, q3⟩; have z3 : wq.cell? ⟨Hd + 1, i0 * 4 + 3, none⟩ = some (.slice none 0 0) := (q2.cell (p := ⟨Hd + 1, i0 * 4 + 3, none⟩) (by show Hd + 1 < W9.heap.size; omega)).trans f3; have zf : wq.frozen? ⟨Hd + 1, i0 * 4 + 3, none⟩ = false := (q2.frozen (p := ⟨Hd + 1, i0 * 4 + 3, none⟩) (by show Hd + 1 < W9.heap.size; omega)).trans ff3; have HQ : Hid _ := HSt.out wq q1 q2 q3; clear q1 q2 q3)
          all_goals
            go_wp2
            go_roundw
            case rel => exact ⟨i0 + 1, _, _, by omega, by go_num, HQ.out.1⟩
            case measure => simp [intOf]; omega
        · obtain ⟨H, gc, hg1, hg2, hg3, hg4⟩ := (HC.out.below HB2.out).g1
          obtain ⟨hb', ho', hbe, hrr⟩ := (hg4.rmat) (by omega)
          obtain ⟨rfl, rfl⟩ : H = hb' ∧ 0 = ho' := by simpa using hbe
          obtain ⟨so, scp, r1, r2, r3, r4⟩ := hrr i0 (by omega)
          rw [Nat.zero_add] at r1
          have hHb : H < Hd + 1 := by have := cell_lt r1; omega
          have gcell : W9.cell? ⟨cb, 3, none⟩ = some (.slice (some ⟨H, 0, none⟩) N gc) := (hBl.cell (p := ⟨cb, 3, none⟩) (by show cb < Hd + 1; omega)).trans (by rw [hg1, hN])
          have hcell : W9.cell? ⟨H, i0, none⟩ = some (.slice so k scp) := (hBl.cell (p := ⟨H, i0, none⟩) hHb).trans r1
          have r5 : FRow W9 so k (G i0) := by
            rw [hGe]
            exact r4.below (by rw [hsz3]; exact hBl)
          have HCm := HCmF so scp r5
          clear hg1 hg4 hrr r1 r4 r5 hbe HCmF
          go_region_with (go_at_call 51; refine (HCm _ (by first | exact .inl rfl | exact .inr rfl)).mono ?_; rintro e wq ⟨rfl, q1, q2, q3⟩; have z3 : wq.cell? ⟨Hd + 1, i0 * 4 + 3, none⟩ = some (.slice none 0 0) := (q2.cell (p := ⟨Hd + 1, i0 * 4 + 3, none⟩) (by show Hd + 1 < W9.heap.size; omega)).trans f3; have zf : wq.frozen? ⟨Hd + 1, i0 * 4 + 3, none⟩ = false := (q2.frozen (p := ⟨Hd + 1, i0 * 4 + 3, none⟩) (by show Hd + 1 < W9.heap.size; omega)).trans ff3; have HQ : Hid _ := HSt.out wq q1 q2 q3; clear q1 q2 q3)
          all_goals
            go_wp2
            go_roundw
            case rel => exact ⟨i0 + 1, _, _, by omega, by go_num, HQ.out.1⟩
            case measure => simp [intOf]; omega
    · have hiN : i0 = N := by omega
      subst hiN
      have HF : Hid (EncRel w w2 wr Hd i0 g n size i0 P pb po) := HR.out
      clear hrow hbel HR
      go_wp2
      go_ret2
      have hsw := HB2.out.size
      refine ⟨Hd + 1, pb, po, ?_, by omega, ?_, ?_, HB2.out.trans (HF.out.bel.mono (by omega))⟩
      · rw [hN]; rfl
      · rw [hN]; exact fun i hi => (HF.out.pb i hi).1
      · rw [hN]; exact ⟨HF.out.row.congr (fun p hp => by rw [if_pos hp]), HF.out.pay, fun i hi => (HF.out.pb i hi).2.1⟩
end Go.Proofs.Qxb6500697aDoor
