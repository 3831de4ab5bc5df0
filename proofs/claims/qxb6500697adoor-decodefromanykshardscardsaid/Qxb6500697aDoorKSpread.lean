/-
  THE WALK OF spread.
-/
import Derived.Test.Qxb6500697aDoorKPlan
import Derived.Deep.RegionHeld3
import Derived.Deep.RegionLaw
namespace Go.Proofs.Qxb6500697aDoor
open Go.RowKit

/-- The place in the object of the byte c of data shard j: k shards, units of u bytes. -/
def pos (k u j c : Nat) : Nat := ((c / u) * k + j) * u + c % u
/-- What data shard j holds at c. -/
def sprd (k u n : Nat) (f : Nat → Nat) (j c : Nat) : Nat := if pos k u j c < n then f (pos k u j c) else 0
/-- The flat row of all shards, the first q bytes of the object dealt. -/
def flat (k u size q : Nat) (f : Nat → Nat) (p : Nat) : Nat := if pos k u (p / size) (p % size) < q then f (pos k u (p / size) (p % size)) else 0

theorem pos_div (k u j c : Nat) (hu : 0 < u) : pos k u j c / u = (c / u) * k + j := by
  unfold pos
  rw [Nat.mul_comm, Nat.mul_add_div hu, Nat.div_eq_of_lt (Nat.mod_lt _ hu), Nat.add_zero]
theorem pos_mod (k u j c : Nat) (hu : 0 < u) : pos k u j c % u = c % u := by
  unfold pos
  rw [Nat.mul_comm, Nat.mul_add_mod, Nat.mod_eq_of_lt (Nat.mod_lt _ hu)]

/-- A place of turn t lies in shard t % k, in round t / k. -/
theorem pos_turn (k u j c t : Nat) (hu : 0 < u) (hj : j < k) (h : pos k u j c / u = t) : j = t % k ∧ c = t / k * u + pos k u j c % u := by
  rw [pos_div k u j c hu] at h
  have h1 : t % k = j := by rw [← h, Nat.mul_comm, Nat.mul_add_mod, Nat.mod_eq_of_lt hj]
  have h2 : t / k = c / u := by rw [← h, Nat.mul_comm, Nat.mul_add_div (by omega), Nat.div_eq_of_lt hj, Nat.add_zero]
  refine ⟨h1.symm, ?_⟩
  rw [pos_mod k u j c hu, h2, Nat.mul_comm]
  exact (Nat.div_add_mod c u).symm

theorem pos_of_turn (k u t i : Nat) (hi : i < u) : pos k u (t % k) (t / k * u + i) = t * u + i := by
  unfold pos
  have hu : 0 < u := by omega
  have h1 : (t / k * u + i) / u = t / k := by rw [Nat.mul_comm, Nat.mul_add_div hu, Nat.div_eq_of_lt hi, Nat.add_zero]
  have h2 : (t / k * u + i) % u = i := by rw [Nat.mul_comm, Nat.mul_add_mod, Nat.mod_eq_of_lt hi]
  rw [h1, h2]
  congr 2
  rw [Nat.mul_comm]; exact Nat.div_add_mod t k

/-- One turn dealt. -/
theorem flat_step (k u size t l : Nat) (f : Nat → Nat) (hu : 0 < u) (hfit : t / k * u + u ≤ size) (hl : l ≤ u) (p : Nat) (hp : p < k * size) :
    (if t % k * size + t / k * u ≤ p ∧ p < t % k * size + t / k * u + l then f (t * u + (p - (t % k * size + t / k * u))) else flat k u size (t * u) f p) = flat k u size (t * u + l) f p := by
  have hs : 0 < size := by omega
  have hj : p / size < k := (Nat.div_lt_iff_lt_mul hs).2 hp
  have hpd := Nat.div_add_mod p size
  have hpm := Nat.mod_lt p hs
  unfold flat
  generalize hJ : p / size = J at *
  generalize hCc : p % size = C at *
  by_cases h : t % k * size + t / k * u ≤ p ∧ p < t % k * size + t / k * u + l
  · rw [if_pos h]
    have hJt : J = t % k := by
      have e1 : p = size * (t % k) + (p - t % k * size) := by rw [Nat.mul_comm]; omega
      rw [← hJ, e1, Nat.mul_add_div hs, Nat.div_eq_of_lt (by omega), Nat.add_zero]
    have hCt : C = t / k * u + (p - (t % k * size + t / k * u)) := by
      rw [hJt, Nat.mul_comm] at hpd
      omega
    have e := pos_of_turn k u t (p - (t % k * size + t / k * u)) (by omega)
    rw [hJt, hCt, e, if_pos (by omega)]
  · rw [if_neg h]
    by_cases h2 : pos k u J C < t * u
    · rw [if_pos h2, if_pos (by omega)]
    · rw [if_neg h2]
      by_cases h3 : pos k u J C < t * u + l
      · exfalso
        have hdiv : pos k u J C / u = t := Nat.div_eq_of_lt_le (by omega) (by rw [Nat.succ_mul]; omega)
        obtain ⟨a1, a2⟩ := pos_turn k u J C t hu hj hdiv
        have h6 : pos k u J C % u = pos k u J C - t * u := by
          have h4 := Nat.div_add_mod (pos k u J C) u
          rw [hdiv, Nat.mul_comm] at h4
          omega
        apply h
        rw [a1, Nat.mul_comm] at hpd
        omega
      · rw [if_neg h3]

/-- The three blocks that spread works on. -/
structure Spr (w wr : World) (fam size u KS k : Nat) (h : Nat → Value) (f : Nat → Nat) : Prop where
  box : wr.heap[w.heap.size]? = some (.cells #[.int .u8 fam, .int .i64 size, .int .i64 u] 95 (0, 0))
  row : Row wr (w.heap.size + 1) KS f
  hdr : wr.rowIs (w.heap.size + 2) 30 k h
  bel : Below w.heap.size w wr
  sz : wr.heap.size = w.heap.size + 3
section
variable {w wr : World} {fam size u KS k : Nat} {h : Nat → Value} {f : Nat → Nat}
theorem Spr.p1 (s : Spr w wr fam size u KS k h f) : wr.cell? ⟨w.heap.size, 1, none⟩ = some (.int .i64 size) := by simp [World.cell?, s.box]
theorem Spr.p2 (s : Spr w wr fam size u KS k h f) : wr.cell? ⟨w.heap.size, 2, none⟩ = some (.int .i64 u) := by simp [World.cell?, s.box]
theorem Spr.setH (s : Spr w wr fam size u KS k h f) (i : Nat) (v : Value) : Spr w (wr.setCell ⟨w.heap.size + 2, i, none⟩ v) fam size u KS k (fun j => if j = i then v else h j) f := by
  have hO : Only (w.heap.size + 2) wr (wr.setCell ⟨w.heap.size + 2, i, none⟩ v) := (Only.refl _ _).setCell _ _
  exact ⟨(hO.block _ (by omega)).trans s.box, s.row.only hO (by omega), s.hdr.set i v, s.bel.trans (hO.below (by omega)), hO.size.trans s.sz⟩
theorem Spr.rowTo {wr' : World} {f' : Nat → Nat} (s : Spr w wr fam size u KS k h f) (hO : Only (w.heap.size + 1) wr wr') (hr : Row wr' (w.heap.size + 1) KS f') : Spr w wr' fam size u KS k h f' :=
  ⟨(hO.block _ (by omega)).trans s.box, hr, s.hdr.of_block (hO.block _ (by omega)), s.bel.trans (hO.below (by omega)), hO.size.trans s.sz⟩
theorem Spr.congrH {h' : Nat → Value} (s : Spr w wr fam size u KS k h f) (e : ∀ j, j < k → h j = h' j) : Spr w wr fam size u KS k h' f := ⟨s.box, s.row, s.hdr.congr e, s.bel, s.sz⟩
theorem Spr.congrR {f' : Nat → Nat} (s : Spr w wr fam size u KS k h f) (e : ∀ j, j < KS → f j = f' j) : Spr w wr fam size u KS k h f' := ⟨s.box, s.row.congr e, s.hdr, s.bel, s.sz⟩
theorem Spr.drewN (s : Spr w wr fam size u KS k h f) (q : Nat) : Spr w (wr.drewN q) fam size u KS k h f :=
  ⟨by rw [(World.drewN_alike wr q).1]; exact s.box, s.row.below (drewN_below _ _ _), s.hdr.of_block (by rw [(World.drewN_alike wr q).1]), s.bel.trans (drewN_below _ _ _), by rw [(World.drewN_alike wr q).1]; exact s.sz⟩
end

theorem frow_drop {w : World} {sb sbo L q : Nat} {f : Nat → Nat} (h : FRow w (some ⟨sb, sbo, none⟩) L (fun i => f (q + i))) (l oc : Nat) (hoc : L ≤ oc) :
    FRow w (if oc = l then some ⟨sb, sbo, none⟩ else some ⟨sb, sbo + l, none⟩) (L - l) (fun i => f (q + l + i)) := by
  refine ⟨fun i hi => ?_, fun h0 => ?_⟩
  · have := h.1 (l + i) (by omega)
    show f (q + l + i) < 256
    rw [Nat.add_assoc]; exact this
  · obtain ⟨b, o, hb, hc⟩ := h.2 (by omega)
    obtain ⟨rfl, rfl⟩ : sb = b ∧ sbo = o := by simpa using hb
    refine ⟨sb, sbo + l, by rw [if_neg (by omega)], fun i hi => ?_⟩
    have := hc (l + i) (by omega)
    show w.cell? ⟨sb, sbo + l + i, none⟩ = some (.int .u8 ((f (q + l + i) : Nat) : Int))
    rw [Nat.add_assoc, Nat.add_assoc q]
    exact this

theorem pos_start (k u size : Nat) (f : Nat → Nat) (p : Nat) : flat k u size 0 f p = 0 := by unfold flat; rw [if_neg (by omega)]

set_option maxRecDepth 100000 in
set_option maxHeartbeats 2000000 in
theorem spread_any (w : World) (F : Nat → Prop) (cb mb k m fam size u n oc : Nat) (oa : Option Addr) (f : Nat → Nat) (hC : CodecAt w F cb mb k m) (hO : FRow w oa n f) (hn : n ≤ 256) (hoc : n ≤ oc) (hoc2 : oc ≤ 9223372036854775807)
    (hsize : size ≤ 4096) (hu0 : 0 < n → 0 < u) (hdvd : ∃ r, size = r * u) (hfull : n ≤ k * size) :
    Calls Tryd.prog 50 #[.pointer (some ⟨cb, 0, none⟩), .slice oa n oc, .agg #[.int .u8 fam, .int .i64 size, .int .i64 u]] w fun e w' => e = .returned (.slice (some ⟨w.heap.size + 2, 0, none⟩) k k) ∧ Below w.heap.size w w' ∧
      Row w' (w.heap.size + 1) (k * size) (flat k u size n f) ∧ w'.rowIs (w.heap.size + 2) 30 k (fun j => .slice (some ⟨w.heap.size + 1, j * size, none⟩) size size) ∧ w'.heap.size = w.heap.size + 3 := by
  have c0 := hC.c0
  have hk := hC.hk
  have hkn := hC.hn
  have hcb := hC.lt
  have HO : Hid (FRow w oa n f) := hO
  have hks : k * size ≤ 65536 := Nat.le_trans (Nat.mul_le_mul (show k ≤ 16 by omega) hsize) (by decide)
  obtain ⟨KS, hKS⟩ : ∃ KS, k * size = KS := ⟨_, rfl⟩
  have hksi : ((k : Int) * (size : Int)) = (KS : Int) := by rw [← hKS, Int.natCast_mul]
  rw [hKS] at hks hfull
  have HKS : Hid (k * size = KS) := hKS
  have hmk1 := run_make_row' (P := Tryd.prog) 30 5 (.int .u8 0) 1 Tryd.underlying30 Tryd.info5 rfl .i64 .i64 KS (by omega) (by omega)
  have hmk2 := run_make_row' (P := Tryd.prog) 98 30 (.slice none 0 0) 24 Tryd.underlying98 Tryd.info30 rfl .i64 .i64 k (by omega) (by omega)
  have HC0 : Hid (w.cell? ⟨cb, 0, none⟩ = some (.int .i64 k)) := c0
  clear hC hO hKS
  rw [HKS.out]
  go_enter Tryd.func50, Tryd.ntmps50
  go_wp2
  go_region
  go_wp2
  clear hmk1 hmk2
  obtain ⟨W0, hW0⟩ : ∃ W0, (((w.alloc (.cells #[.int .u8 fam, .int .i64 size, .int .i64 u] 95)).alloc (.cells (madeCells #[.int .u8 0] KS) 5)).alloc (.cells (madeCells #[.slice none 0 0] k) 30)).drew = W0 := ⟨_, rfl⟩
  rw [hW0]
  have HS0 : Hid (Spr w W0 fam size u KS k (fun _ => .slice none 0 0) (fun _ => 0)) := by
    have h : Spr w W0 fam size u KS k (fun _ => .slice none 0 0) (fun _ => 0) := by
      rw [← hW0]
      have hb : Below w.heap.size w ((w.alloc (.cells #[.int .u8 fam, .int .i64 size, .int .i64 u] 95)).alloc (.cells (madeCells #[.int .u8 0] KS) 5)) := ((Below.refl _ _).alloc (Nat.le_refl _) _).alloc (by simp) _
      refine ⟨?_, ⟨fun _ _ => (by decide : (0 : Nat) < 256), ?_⟩, ?_, (hb.alloc (by simp; omega) _).drew, by simp⟩
      · show (((w.alloc (.cells #[.int .u8 fam, .int .i64 size, .int .i64 u] 95)).alloc (.cells (madeCells #[.int .u8 0] KS) 5)).alloc (.cells (madeCells #[.slice none 0 0] k) 30)).heap[w.heap.size]? = _
        rw [Below.heap_alloc _ _ _ (by simp; omega), Below.heap_alloc _ _ _ (by simp)]
        exact heap_alloc_new w _
      · have h1 := World.rowIs_made (w.alloc (.cells #[.int .u8 fam, .int .i64 size, .int .i64 u] 95)) (.int .u8 0) KS 5
        have h2 := (h1.alloc (.cells (madeCells #[.slice none 0 0] k) 30)).drew
        simpa using h2
      · have h1 := World.rowIs_made ((w.alloc (.cells #[.int .u8 fam, .int .i64 size, .int .i64 u] 95)).alloc (.cells (madeCells #[.int .u8 0] KS) 5)) (.slice none 0 0) k 30
        simpa using h1.drew
    exact h
  clear hW0 c0
  go_loopw [27] (fun i wr => ∃ j : Nat, j ≤ k ∧ i = .int .i64 j ∧ Spr w wr fam size u KS k (fun r => if r < j then .slice (some ⟨w.heap.size + 1, r * size, none⟩) size size else .slice none 0 0) (fun _ => 0)) (fun i _ => k - (intOf i).toNat)
  case atStart => exact ⟨0, Nat.zero_le _, rfl, Spr.congrH HS0.out (fun r _ => by simp)⟩
  case round =>
    obtain ⟨j, hj, rfl, hS⟩ := hrel
    clear HS0
    by_cases hlt : j < k
    · have hlt' : (j : Int) < (k : Int) := by omega
      have p1 := hS.p1
      have ch := hS.hdr.cell hlt
      simp only [if_neg (Nat.lt_irrefl j)] at ch
      have fr := hS.hdr.frozen j
      obtain ⟨a, ha⟩ : ∃ a, j * size = a := ⟨_, rfl⟩
      have hai : (j : Int) * (size : Int) = (a : Int) := by rw [← ha, Int.natCast_mul]
      have hbi : ((j : Int) + 1) * (size : Int) = (a : Int) + (size : Int) := by rw [Int.add_mul, hai, Int.one_mul]
      have hle : a + size ≤ KS := by
        have h1 := Nat.mul_le_mul_right size (show j + 1 ≤ k by omega)
        rw [Nat.succ_mul, ha, HKS.out] at h1
        exact h1
      have hle' : (a : Int) + (size : Int) ≤ (KS : Int) := by omega
      have hif : (if size = 0 then (some ⟨w.heap.size + 1, 0, none⟩ : Option Addr) else some ⟨w.heap.size + 1, a, none⟩) = some ⟨w.heap.size + 1, a, none⟩ := by
        split
        · rename_i h0
          rw [h0, Nat.mul_zero] at ha
          rw [← ha]
        · rfl
      have HF : Hid (Spr w (wr.setCell ⟨w.heap.size + 1 + 1, j, none⟩ (.slice (if size = 0 then some ⟨w.heap.size + 1, 0, none⟩ else some ⟨w.heap.size + 1, a, none⟩) size size)) fam size u KS k (fun r => if r < j + 1 then .slice (some ⟨w.heap.size + 1, r * size, none⟩) size size else .slice none 0 0) (fun _ => 0)) := by
        rw [hif]
        refine (hS.setH j (.slice (some ⟨w.heap.size + 1, a, none⟩) size size)).congrH (fun r _ => ?_)
        by_cases e : r = j
        · subst e; rw [if_pos rfl, if_pos (by omega), ha]
        · rw [if_neg e]
          by_cases h2 : r < j
          · rw [if_pos h2, if_pos (by omega)]
          · rw [if_neg h2, if_neg (by omega)]
      clear hS hif ha
      go_wp2
      exact ⟨⟨j + 1, by omega, by go_num, HF.out⟩, by simp [intOf]; omega⟩
    · have hjk : j = k := by omega
      subst hjk
      have HS : Hid (Spr w wr fam size u KS j (fun r => .slice (some ⟨w.heap.size + 1, r * size, none⟩) size size) (flat j u size 0 f)) :=
        (hS.congrH (fun r hr => by rw [if_pos hr])).congrR (fun p _ => (pos_start j u size f p).symm)
      clear hS hlt hj
      go_wp2
      go_loopw [1, 10] (fun ov tv wr => ∃ (t q oc' : Nat) (oa' : Option Addr), q = min n (t * u) ∧ tv = .int .i64 t ∧ t ≤ 256 ∧ ov = .slice oa' (n - q) oc' ∧ n - q ≤ oc' ∧ oc' ≤ 9223372036854775807 ∧ FRow w oa' (n - q) (fun i => f (q + i)) ∧ Spr w wr fam size u KS j (fun r => .slice (some ⟨w.heap.size + 1, r * size, none⟩) size size) (flat j u size q f)) (fun ov _ _ => match ov with | .slice _ l _ => l | _ => 0)
      case atStart => exact ⟨0, 0, oc, oa, by simp, rfl, by omega, rfl, hoc, hoc2, by simpa using HO.out, HS.out⟩
      case round =>
        obtain ⟨t, q, oc', oa', hq, rfl, ht, rfl, hoc1, hoc3, hO, hS⟩ := hrel
        clear HS
        by_cases hrem : 0 < n - q
        · have hqt : q = t * u := by omega
          have hu : 0 < u := hu0 (by omega)
          obtain ⟨rr, hrr⟩ := hdvd
          obtain ⟨L, hL⟩ : ∃ L, n - q = L := ⟨_, rfl⟩
          rw [hL] at hrem hoc1 hO ⊢
          have hrem' : (0 : Int) < (L : Int) := by omega
          obtain ⟨tk, htk⟩ : ∃ tk, t / j = tk := ⟨_, rfl⟩
          obtain ⟨tm, htm⟩ : ∃ tm, t % j = tm := ⟨_, rfl⟩
          have htm2 : tm < j := by rw [← htm]; exact Nat.mod_lt _ (by omega)
          obtain ⟨at_, hat⟩ : ∃ a, tk * u = a := ⟨_, rfl⟩
          obtain ⟨cq, hcq⟩ : ∃ a, tm * size = a := ⟨_, rfl⟩
          have hfit : at_ + u ≤ size := by
            have h1 : t * u < j * (rr * u) := by have h2 : n ≤ j * size := by rw [HKS.out]; exact hfull
                                                 rw [hrr] at h2; omega
            have h3 : t < j * rr := by
              rw [← Nat.mul_assoc] at h1
              exact Nat.lt_of_mul_lt_mul_right h1
            have h4 : tk < rr := by rw [← htk]; exact Nat.div_lt_of_lt_mul h3
            have h5 := Nat.mul_le_mul_right u (show tk + 1 ≤ rr by omega)
            rw [Nat.succ_mul, hat, ← hrr] at h5
            exact h5
          have hle2 : cq + size ≤ KS := by
            have h1 := Nat.mul_le_mul_right size (show tm + 1 ≤ j by omega)
            rw [Nat.succ_mul, hcq, HKS.out] at h1
            exact h1
          have d1 : (t : Int).tdiv (j : Int) = (tk : Int) := by rw [← htk]; rfl
          have d2 : (t : Int) / (j : Int) = (tk : Int) := by rw [← htk, Int.natCast_ediv]
          have d3 : (t : Int).tmod (j : Int) = (tm : Int) := by rw [← htm]; exact (Int.ofNat_tmod t j).symm
          have d4 : (t : Int) % (j : Int) = (tm : Int) := by rw [← htm, Int.natCast_emod]
          have d5 : (tk : Int) * (u : Int) = (at_ : Int) := by rw [← hat, Int.natCast_mul]
          have hj0 : ¬ (j : Int) = 0 := by omega
          have hjb : ((j : Int) == 0) = false := by simp; omega
          have hjp : (0 : Int) < (j : Int) := by omega
          have hjn : ¬ j = 0 := by omega
          have htp : (0 : Int) ≤ (t : Int) := by omega
          have hwtm : IntKind.i64.wrap (tm : Int) = (tm : Int) := by simp [IntKind.wrap, IntKind.bits, IntKind.signed]; omega
          have hwtm2 : IntKind.i64.wrap ((t : Int).tmod (j : Int)) = (tm : Int) := by rw [d3]; exact hwtm
          have htk2 : tk ≤ 256 := by rw [← htk]; exact Nat.le_trans (Nat.div_le_self _ _) ht
          have hus : u ≤ 4096 := by omega
          obtain ⟨e_, he_⟩ : ∃ e_, at_ + u = e_ := ⟨_, rfl⟩
          have hwau : IntKind.i64.wrap ((at_ : Int) + (u : Int)) = (e_ : Int) := by simp [IntKind.wrap, IntKind.bits, IntKind.signed]; omega
          have hwau2 : (at_ : Int) + (u : Int) = (e_ : Int) := by omega
          have hwe : IntKind.i64.wrap (e_ : Int) = (e_ : Int) := by simp [IntKind.wrap, IntKind.bits, IntKind.signed]; omega
          have he1 : at_ ≤ e_ := by omega
          have he2 : e_ ≤ size := by omega
          have he3 : e_ - at_ = u := by omega
          have he4 : ¬ size = at_ := by omega
          have he5 : (e_ : Int) ≤ (size : Int) := by omega
          clear he_
          have hat2 : at_ ≤ 4096 := by omega
          have htl : t < 256 := by
            have h1 : t * 1 ≤ t * u := Nat.mul_le_mul_left t hu
            omega
          obtain ⟨sb, sbo, rfl, hsc⟩ := hO.2 (by omega)
          have HFS : Hid (∀ p, p < KS → (if cq + at_ ≤ p ∧ p < cq + at_ + Nat.min L u then f (q + (p - (cq + at_))) else flat j u size q f p) = flat j u size (q + Nat.min L u) f p) := by
            intro p hp
            have h := flat_step j u size t (Nat.min L u) f hu (by rw [htk, hat]; exact hfit) (Nat.min_le_right _ _) p (by rw [HKS.out]; exact hp)
            rw [htk, htm, hat, hcq, ← hqt] at h
            exact h
          have HQ2 : Hid (q + Nat.min L u = min n ((t + 1) * u)) := by
            show q + Nat.min L u = min n ((t + 1) * u)
            rw [Nat.succ_mul, ← hqt]
            show q + min L u = _
            omega
          have HOw : Hid (FRow w (some ⟨sb, sbo, none⟩) L (fun i => f (q + i))) := hO
          have HSp : Hid (Spr w wr fam size u KS j (fun r => .slice (some ⟨w.heap.size + 1, r * size, none⟩) size size) (flat j u size q f)) := hS
          have c0r : wr.cell? ⟨cb, 0, none⟩ = some (.int .i64 j) := (hS.bel.cell (p := ⟨cb, 0, none⟩) hcb).trans HC0.out
          have p2 := hS.p2
          have ch := hS.hdr.cell htm2
          rw [hcq] at ch
          have hmin1 : Nat.min L u ≤ L := Nat.min_le_left _ _
          have hmin2 : 0 < Nat.min L u := by show 0 < min L u; omega
          clear hO hS hsc hq hqt htk htm hat hcq hrr
          go_wp2
          go_quiet (fail)
          obtain ⟨W1, hW1⟩ : ∃ W1, wr.drewN nq = W1 := ⟨_, rfl⟩
          rw [hW1]
          have HS1 : Hid (Spr w W1 fam size u KS j (fun r => .slice (some ⟨w.heap.size + 1, r * size, none⟩) size size) (flat j u size q f)) := by
            have h := HSp.out.drewN nq
            rw [hW1] at h
            exact h
          have c0w : W1.cell? ⟨cb, 0, none⟩ = some (.int .i64 j) := by rw [← hW1, drewN_cell]; exact c0r
          have p2w : W1.cell? ⟨w.heap.size, 2, none⟩ = some (.int .i64 u) := by rw [← hW1, drewN_cell]; exact p2
          have chw : W1.cell? ⟨w.heap.size + 2, tm, none⟩ = some (.slice (some ⟨w.heap.size + 1, cq, none⟩) size size) := by rw [← hW1, drewN_cell]; exact ch
          clear hW1 c0r p2 ch HSp
          have HR1 : Hid (Row W1.drew (w.heap.size + 1) KS (flat j u size q f)) := HS1.out.row.of_block rfl
          have HO1 : Hid (FRow W1.drew (some ⟨sb, sbo, none⟩) L (fun i => f (q + i))) := HOw.out.below (HS1.out.bel.drew)
          go_wp2
          go_region_law (refine step_copy_frow _ (by rfl) _ _ (by rfl) (w.heap.size + 1) KS (cq + at_) u (size - at_) (flat j u size q f) (by rfl) HR1.out (by omega) (some ⟨sb, sbo, none⟩) L oc' (fun i => f (q + i)) (by rfl) HO1.out ?_; intro w3 h1 h2; have H1 : Hid _ := h1; have H2 : Hid (Only (w.heap.size + 1) W1.drew w3) := h2; clear h1 h2)
          all_goals
            have HF : Hid (Spr w w3 fam size u KS j (fun r => .slice (some ⟨w.heap.size + 1, r * size, none⟩) size size) (flat j u size (q + Nat.min L u) f)) :=
              (HS1.out.drewN 1).rowTo H2.out (Row.congr H1.out HFS.out)
            have HO2 : Hid (FRow w (if oc' = Nat.min L u then some ⟨sb, sbo, none⟩ else some ⟨sb, sbo + Nat.min L u, none⟩) (L - Nat.min L u) (fun i => f (q + Nat.min L u + i))) := frow_drop HOw.out (Nat.min L u) oc' hoc1
            generalize Nat.min L u = l at *
            clear HS1 H1 H2 HR1 HO1 HOw HFS c0w p2w chw
            go_wp2
            go_roundw
            case rel => exact ⟨t + 1, q + l, oc' - l, _, HQ2.out, by go_num, by omega, by rw [show n - (q + l) = L - l by omega], by omega, by omega, by rw [show n - (q + l) = L - l by omega]; exact HO2.out, HF.out⟩
            case measure => simp; omega
        · have hrem' : ¬ (0 : Int) < ((n - q : Nat) : Int) := by omega
          have HF : Hid (Spr w wr fam size u KS j (fun r => .slice (some ⟨w.heap.size + 1, r * size, none⟩) size size) (flat j u size n f)) := by
            have e : q = n := by omega
            rw [e] at hS
            exact hS
          clear hS hO
          go_wp2
          go_ret
          exact ⟨rfl, HF.out.bel, HF.out.row, HF.out.hdr, HF.out.sz⟩
end Go.Proofs.Qxb6500697aDoor
