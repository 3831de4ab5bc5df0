/-
  THE WALK OF collect.
-/
import Derived.Test.Qxb6500697aDoorKStr
import Derived.Test.Qxb6500697aDoorKSpread
import Derived.BigQuiet
namespace Go.Proofs.Qxb6500697aDoor
open Go.RowKit

/-- The byte p of the padded object, out of the data rows. -/
def col (k u : Nat) (D : Nat → Nat → Nat) (p : Nat) : Nat := D (p / u % k) (p / u / k * u + p % u)

/-- What collect answers. -/
def CPost (w : World) (k size u n : Nat) (D : Nat → Nat → Nat) (e : Ending) (w' : World) : Prop := Below w.heap.size w w' ∧
  (((∃ p, n ≤ p ∧ p < k * size ∧ col k u D p ≠ 0) ∧ e = .returned (.tuple #[.slice none 0 0, .bool false])) ∨
   ((∀ p, n ≤ p → p < k * size → col k u D p = 0) ∧ e = .returned (.tuple #[.slice (some ⟨w.heap.size + 1, 0, none⟩) n n, .bool true]) ∧ Row w' (w.heap.size + 1) (k * size) (col k u D)))

theorem col_turn (k u t i : Nat) (D : Nat → Nat → Nat) (hi : i < u) : col k u D (t * u + i) = D (t % k) (t / k * u + i) := by
  unfold col
  have h1 : (t * u + i) / u = t := by rw [Nat.mul_comm, Nat.mul_add_div (by omega), Nat.div_eq_of_lt hi, Nat.add_zero]
  have h2 : (t * u + i) % u = i := by rw [Nat.mul_comm, Nat.mul_add_mod, Nat.mod_eq_of_lt hi]
  rw [h1, h2]

set_option maxRecDepth 100000 in
set_option maxHeartbeats 4000000 in
theorem collect_any (w : World) (F : Nat → Prop) (cb mb k m fam size u n rc : Nat) (ra : Option Addr) (D : Nat → Nat → Nat) (hC : CodecAt w F cb mb k m) (hD : RMat w ra k size D) (hsize : size ≤ 4096) (hdvd : ∃ r, size = r * u) (hfull : n ≤ k * size) :
    Calls Tryd.prog 70 #[.pointer (some ⟨cb, 0, none⟩), .slice ra k rc, .agg #[.int .u8 fam, .int .i64 size, .int .i64 u], .int .i64 n] w (CPost w k size u n D) := by
  have c0 := hC.c0
  have hk := hC.hk
  have hkn := hC.hn
  have hcb := hC.lt
  have HD : Hid (RMat w ra k size D) := hD
  have hks : k * size ≤ 65536 := Nat.le_trans (Nat.mul_le_mul (show k ≤ 16 by omega) hsize) (by decide)
  obtain ⟨KS, hKS⟩ : ∃ KS, k * size = KS := ⟨_, rfl⟩
  have hksi : ((k : Int) * (size : Int)) = (KS : Int) := by rw [← hKS, Int.natCast_mul]
  rw [hKS] at hks hfull
  have HKS : Hid (k * size = KS) := hKS
  have HPost : Hid (∀ e w', CPost w k size u n D e w' ↔ (Below w.heap.size w w' ∧ (((∃ p, n ≤ p ∧ p < KS ∧ col k u D p ≠ 0) ∧ e = .returned (.tuple #[.slice none 0 0, .bool false])) ∨ ((∀ p, n ≤ p → p < KS → col k u D p = 0) ∧ e = .returned (.tuple #[.slice (some ⟨w.heap.size + 1, 0, none⟩) n n, .bool true]) ∧ Row w' (w.heap.size + 1) KS (col k u D))))) := by
    intro e w'; unfold CPost; rw [hKS]
  obtain ⟨i0, hi, hzz⟩ := Option.map_eq_some_iff.1 Tryd.info5
  simp only [Prod.mk.injEq] at hzz
  obtain ⟨hz0, hz1, hz2⟩ := hzz
  have hmk : ∀ w : World, (Instr.makeSlice 30 (.int .i64 0) (.int .i64 (KS : Int))).run Tryd.prog w = .ok (.slice (some ⟨w.heap.size, 0, none⟩) 0 KS) (w.alloc (.cells (madeCells #[.int .u8 0] KS) 5)) := by
    intro w
    have h := run_make (P := Tryd.prog) w 30 5 i0 _ Tryd.underlying30 hi hz0 .i64 .i64 (0 : Int) (KS : Int) (by omega) (by omega) (by rw [hz2]; omega) (by omega)
    rw [hz1, Int.toNat_natCast, Nat.mul_one] at h
    exact h
  have HI0 : Hid (Tryd.prog.info? 5 = some i0 ∧ i0.size = 1) := ⟨hi, hz1⟩
  have HC0 : Hid (w.cell? ⟨cb, 0, none⟩ = some (.int .i64 k)) := c0
  clear hC hD hKS hi hz0 hz1 hz2
  go_enter Tryd.func70, Tryd.ntmps70
  go_wp2
  go_region
  go_wp2
  clear hmk
  obtain ⟨W0, hW0⟩ : ∃ W0, ((w.alloc (.cells #[.int .u8 fam, .int .i64 size, .int .i64 u] 95)).alloc (.cells (madeCells #[.int .u8 0] KS) 5)).drew = W0 := ⟨_, rfl⟩
  rw [hW0]
  have HB0 : Hid (Below w.heap.size w W0) := by
    have h : Below w.heap.size w W0 := by rw [← hW0]; exact (((Below.refl _ _).alloc (Nat.le_refl _) _).alloc (by simp) _).drew
    exact h
  have p1 : W0.cell? ⟨w.heap.size, 1, none⟩ = some (.int .i64 size) := by
    rw [← hW0]
    show ((w.alloc (.cells #[.int .u8 fam, .int .i64 size, .int .i64 u] 95)).alloc (.cells (madeCells #[.int .u8 0] KS) 5)).cell? ⟨w.heap.size, 1, none⟩ = _
    rw [World.cell?_of_block (Below.heap_alloc _ _ _ (by simp))]; simp
  have p2 : W0.cell? ⟨w.heap.size, 2, none⟩ = some (.int .i64 u) := by
    rw [← hW0]
    show ((w.alloc (.cells #[.int .u8 fam, .int .i64 size, .int .i64 u] 95)).alloc (.cells (madeCells #[.int .u8 0] KS) 5)).cell? ⟨w.heap.size, 2, none⟩ = _
    rw [World.cell?_of_block (Below.heap_alloc _ _ _ (by simp))]; simp
  have HR0 : Hid (Row W0 (w.heap.size + 1) KS (fun _ => 0)) := by
    refine ⟨fun _ _ => (by decide : (0 : Nat) < 256), ?_⟩
    have h1 := (World.rowIs_made (w.alloc (.cells #[.int .u8 fam, .int .i64 size, .int .i64 u] 95)) (.int .u8 0) KS 5).drew
    rw [hW0] at h1
    simpa using h1
  have hz0 : w.heap.size + 2 ≤ W0.heap.size := by rw [← hW0]; show w.heap.size + 2 ≤ ((w.alloc _).alloc _).heap.size; simp
  clear hW0 c0
  go_loopw [10, 11] (fun v i wr => ∃ t : Nat, v = .slice (some ⟨w.heap.size + 1, 0, none⟩) (t * u) KS ∧ i = .int .i64 t ∧ t * u ≤ KS ∧ t ≤ 65536 ∧ Row wr (w.heap.size + 1) KS (fun p => if p < t * u then col k u D p else 0) ∧ Only (w.heap.size + 1) W0 wr) (fun v _ _ => match v with | .slice _ l _ => KS - l | _ => 0)
  case atStart => exact ⟨0, by simp, rfl, by simp, by omega, Row.congr HR0.out (fun p _ => by simp), Only.refl _ _⟩
  case round =>
    obtain ⟨t, rfl, rfl, htu, ht, hR, hO⟩ := hrel
    clear HR0
    obtain ⟨q, hq⟩ : ∃ q, t * u = q := ⟨_, rfl⟩
    rw [hq] at htu hR ⊢
    have hbr : Below w.heap.size w wr := HB0.out.trans (hO.below (by omega))
    have c0r : wr.cell? ⟨cb, 0, none⟩ = some (.int .i64 k) := (hbr.cell (p := ⟨cb, 0, none⟩) hcb).trans HC0.out
    have p1r : wr.cell? ⟨w.heap.size, 1, none⟩ = some (.int .i64 size) := (hO.cell (by omega)).trans p1
    have p2r : wr.cell? ⟨w.heap.size, 2, none⟩ = some (.int .i64 u) := (hO.cell (by omega)).trans p2
    have HR : Hid (Row wr (w.heap.size + 1) KS (fun p => if p < q then col k u D p else 0)) := hR
    have HO : Hid (Only (w.heap.size + 1) W0 wr) := hO
    have HB : Hid (Below w.heap.size w wr) := hbr
    have Hq : Hid (t * u = q) := hq
    by_cases hlt : q < KS
    · have hlt' : (q : Int) < (KS : Int) := by omega
      obtain ⟨rr, hrr⟩ := hdvd
      have hu : 0 < u := by
        rcases Nat.eq_zero_or_pos u with h0 | h0
        · rw [h0, Nat.mul_zero] at hrr
          have h1 := HKS.out
          rw [hrr, Nat.mul_zero] at h1
          omega
        · exact h0
      obtain ⟨tk, htk⟩ : ∃ tk, t / k = tk := ⟨_, rfl⟩
      obtain ⟨tm, htm⟩ : ∃ tm, t % k = tm := ⟨_, rfl⟩
      have htm2 : tm < k := by rw [← htm]; exact Nat.mod_lt _ (by omega)
      obtain ⟨at_, hat⟩ : ∃ a, tk * u = a := ⟨_, rfl⟩
      have h3 : t < k * rr := by
        have h1 : t * u < k * (rr * u) := by rw [← hrr, HKS.out, hq]; exact hlt
        rw [← Nat.mul_assoc] at h1
        exact Nat.lt_of_mul_lt_mul_right h1
      have hfit : at_ + u ≤ size := by
        have h4 : tk < rr := by rw [← htk]; exact Nat.div_lt_of_lt_mul h3
        have h5 := Nat.mul_le_mul_right u (show tk + 1 ≤ rr by omega)
        rw [Nat.succ_mul, hat, ← hrr] at h5
        exact h5
      have hqu : q + u ≤ KS := by
        have h5 := Nat.mul_le_mul_right u (show t + 1 ≤ k * rr by omega)
        rw [Nat.succ_mul, hq, Nat.mul_assoc, ← hrr, HKS.out] at h5
        exact h5
      have ht1 : t + 1 ≤ 65536 := by
        have h5 : (t + 1) * 1 ≤ (t + 1) * u := Nat.mul_le_mul_left _ hu
        rw [Nat.succ_mul t u, hq] at h5
        omega
      have d1 : (t : Int).tdiv (k : Int) = (tk : Int) := by rw [← htk]; rfl
      have d2 : (t : Int) / (k : Int) = (tk : Int) := by rw [← htk, Int.natCast_ediv]
      have d3 : (t : Int).tmod (k : Int) = (tm : Int) := by rw [← htm]; exact (Int.ofNat_tmod t k).symm
      have d4 : (t : Int) % (k : Int) = (tm : Int) := by rw [← htm, Int.natCast_emod]
      have d5 : (tk : Int) * (u : Int) = (at_ : Int) := by rw [← hat, Int.natCast_mul]
      have hj0 : ¬ (k : Int) = 0 := by omega
      have hjb : ((k : Int) == 0) = false := by simp; omega
      have hjp : (0 : Int) < (k : Int) := by omega
      have hjn : ¬ k = 0 := by omega
      have htp : (0 : Int) ≤ (t : Int) := by omega
      have hwtm : IntKind.i64.wrap (tm : Int) = (tm : Int) := by simp [IntKind.wrap, IntKind.bits, IntKind.signed]; omega
      have hwtm2 : IntKind.i64.wrap ((t : Int).tmod (k : Int)) = (tm : Int) := by rw [d3]; exact hwtm
      have htk2 : tk ≤ 65536 := by rw [← htk]; exact Nat.le_trans (Nat.div_le_self _ _) ht
      have hus : u ≤ 4096 := by omega
      obtain ⟨e_, he_⟩ : ∃ e_, at_ + u = e_ := ⟨_, rfl⟩
      have hwau : IntKind.i64.wrap ((at_ : Int) + (u : Int)) = (e_ : Int) := by simp [IntKind.wrap, IntKind.bits, IntKind.signed]; omega
      have hwau2 : (at_ : Int) + (u : Int) = (e_ : Int) := by omega
      have hwe : IntKind.i64.wrap (e_ : Int) = (e_ : Int) := by simp [IntKind.wrap, IntKind.bits, IntKind.signed]; omega
      have he1 : at_ ≤ e_ := by omega
      have he2 : e_ ≤ size := by omega
      have he3 : e_ - at_ = u := by omega
      have he5 : (e_ : Int) ≤ (size : Int) := by omega
      clear he_
      have hat2 : at_ ≤ 4096 := by omega
      obtain ⟨rb, ro, rfl, hrows⟩ := HD.out (by omega)
      obtain ⟨so, sc, r1, r2, r3, r4⟩ := hrows tm htm2
      obtain ⟨sb, sbo, rfl, hsc⟩ := r4.2 (by omega)
      have he4 : ¬ sc = at_ := by omega
      have he6 : (e_ : Int) ≤ (sc : Int) := by omega
      have ch : wr.cell? ⟨rb, ro + tm, none⟩ = some (.slice (some ⟨sb, sbo, none⟩) size sc) := (hbr.cell (p := ⟨rb, ro + tm, none⟩) (cell_lt r1)).trans r1
      obtain ⟨ss, hss⟩ : ∃ ss : List Nat, ss = (List.range u).map (fun i => D tm (at_ + i)) := ⟨_, rfl⟩
      have hsl : ss.length = u := by rw [hss]; simp
      have hs8 : ∀ x ∈ ss, x < 256 := by
        intro x hx
        rw [hss] at hx
        obtain ⟨i, hi, rfl⟩ := List.mem_map.1 hx
        exact r4.1 _ (by have := List.mem_range.1 hi; omega)
      have HNew : Hid (∀ V, Below w.heap.size w V → ∀ j y, (ss.map fun y => Value.int .u8 ((y : Nat) : Int))[j]? = some y → V.cell? ((⟨sb, sbo + at_, none⟩ : Addr).add j) = some y) := by
        intro V hV j y hj
        have hj' : j < u := by have := (List.getElem?_eq_some_iff.1 hj).1; simpa [hsl] using this
        have e : (⟨sb, sbo + at_, none⟩ : Addr).add j = ⟨sb, sbo + at_ + j, none⟩ := by unfold Addr.add; split <;> simp_all
        have hcc := hsc (at_ + j) (by omega)
        rw [e, Nat.add_assoc, (hV.cell (p := ⟨sb, sbo + (at_ + j), none⟩) (cell_lt hcc)), hcc]
        rw [hss] at hj
        simp [hj'] at hj
        rw [hj]
      have HStep : Hid (∀ V, Row V (w.heap.size + 1) KS (fun p => if p < q then col k u D p else 0) → Row (V.setCells (w.heap.size + 1) (0 + q * 1) (ss.map fun y => Value.int .u8 ((y : Nat) : Int))) (w.heap.size + 1) KS (fun p => if p < q + u then col k u D p else 0)) := by
        intro V hV
        rw [Nat.zero_add, Nat.mul_one]
        refine (Row.setCells ss q hV hs8).congr (fun p hp => ?_)
        rw [hsl]
        by_cases h2 : q ≤ p ∧ p < q + u
        · rw [if_pos h2, if_pos (by omega)]
          have e1 : p = t * u + (p - q) := by omega
          have e2 : ss.getD (p - q) 0 = D tm (at_ + (p - q)) := by
            rw [hss, List.getD_eq_getElem?_getD]
            simp [show p - q < u by omega]
          rw [e2]
          conv => rhs; rw [e1]
          rw [col_turn k u t (p - q) D (by omega), htm, htk, hat]
        · rw [if_neg h2]
          by_cases h4 : p < q
          · rw [if_pos h4, if_pos (by omega)]
          · rw [if_neg h4, if_neg (by omega)]
      have hRf := hR.2.frozen
      have HRf : Hid (∀ j, j < KS → (wr.cell? ⟨w.heap.size + 1, j, none⟩).isSome = true ∧ wr.frozen? ⟨w.heap.size + 1, j, none⟩ = false) := fun j hj => ⟨by rw [hR.cell hj]; rfl, hR.2.frozen j⟩
      have HNl : Hid ((ss.map fun y => Value.int .u8 ((y : Nat) : Int)).length = u * 1 ∧ ∀ y ∈ (ss.map fun y => Value.int .u8 ((y : Nat) : Int)), y.oneCell' = true) := ⟨by rw [List.length_map, hsl, Nat.mul_one], bytes_oneCell ss⟩
      clear hR hO hbr htk htm hat hrr h3 hrows r1 r4 hsc hss hsl hs8 hq hRf
      go_wp2
      go_quiet (fail)
      obtain ⟨W1, hW1⟩ : ∃ W1, wr.drewN nq = W1 := ⟨_, rfl⟩
      rw [hW1]
      have HB1 : Hid (Below w.heap.size w W1) := by rw [← hW1]; exact HB.out.trans (drewN_below _ _ _)
      have c0a : W1.cell? ⟨cb, 0, none⟩ = some (.int .i64 k) := by rw [← hW1, drewN_cell]; exact c0r
      have p2a : W1.cell? ⟨w.heap.size, 2, none⟩ = some (.int .i64 u) := by rw [← hW1, drewN_cell]; exact p2r
      have cha : W1.cell? ⟨rb, ro + tm, none⟩ = some (.slice (some ⟨sb, sbo, none⟩) size sc) := by rw [← hW1, drewN_cell]; exact ch
      have HR1 : Hid (Row W1 (w.heap.size + 1) KS (fun p => if p < q then col k u D p else 0)) := by rw [← hW1]; exact Row.of_block HR.out (by rw [(World.drewN_alike _ _).1])
      have HO1 : Hid (Only (w.heap.size + 1) W0 W1) := by rw [← hW1]; exact HO.out.drewN nq
      clear hW1 c0r p1r p2r ch HR HO HB HRf
      go_wp2
      go_quiet (fail)
      obtain ⟨W2, hW2⟩ : ∃ W2, W1.drewN nq = W2 := ⟨_, rfl⟩
      rw [hW2]
      have hB2 : Below w.heap.size w W2 := by rw [← hW2]; exact HB1.out.trans (drewN_below _ _ _)
      have c0b : W2.cell? ⟨cb, 0, none⟩ = some (.int .i64 k) := by rw [← hW2, drewN_cell]; exact c0a
      have p2b : W2.cell? ⟨w.heap.size, 2, none⟩ = some (.int .i64 u) := by rw [← hW2, drewN_cell]; exact p2a
      have chb : W2.cell? ⟨rb, ro + tm, none⟩ = some (.slice (some ⟨sb, sbo, none⟩) size sc) := by rw [← hW2, drewN_cell]; exact cha
      have HR2 : Hid (Row W2 (w.heap.size + 1) KS (fun p => if p < q then col k u D p else 0)) := by rw [← hW2]; exact Row.of_block HR1.out (by rw [(World.drewN_alike _ _).1])
      have HO2 : Hid (Only (w.heap.size + 1) W0 W2) := by rw [← hW2]; exact HO1.out.drewN nq
      have HB2 : Hid (Below w.heap.size w W2) := hB2
      have HRf : Hid (∀ V, (V = W2 ∨ V = W2.drew) → ∀ j, j < KS → (V.cell? ⟨w.heap.size + 1, j, none⟩).isSome = true ∧ V.frozen? ⟨w.heap.size + 1, j, none⟩ = false) := by
        intro V hV j hj
        have hr : Row V (w.heap.size + 1) KS (fun p => if p < q then col k u D p else 0) := by rcases hV with rfl | rfl; exact HR2.out; exact Row.of_block HR2.out rfl
        exact ⟨by rw [hr.cell hj]; rfl, hr.2.frozen j⟩
      have HNw : Hid (∀ V, (V = W2 ∨ V = W2.drew) → ∀ j y, (ss.map fun y => Value.int .u8 ((y : Nat) : Int))[j]? = some y → V.cell? ((⟨sb, sbo + at_, none⟩ : Addr).add j) = some y) := by
        intro V hV
        exact HNew.out V (by rcases hV with rfl | rfl; exact HB2.out; exact HB2.out.drew)
      have HFin : Hid (∀ V, (V = W2 ∨ V = W2.drew) → Row (V.setCells (w.heap.size + 1) (0 + q * 1) (ss.map fun y => Value.int .u8 ((y : Nat) : Int))) (w.heap.size + 1) KS (fun p => if p < q + u then col k u D p else 0) ∧ Only (w.heap.size + 1) W0 (V.setCells (w.heap.size + 1) (0 + q * 1) (ss.map fun y => Value.int .u8 ((y : Nat) : Int)))) := by
        intro V hV
        refine ⟨HStep.out V (by rcases hV with rfl | rfl; exact HR2.out; exact Row.of_block HR2.out rfl), Only.setCells _ _ ?_⟩
        rcases hV with rfl | rfl
        · exact HO2.out
        · exact HO2.out.drew
      have HT1 : Hid (q + u = (t + 1) * u) := by
        show q + u = (t + 1) * u
        rw [Nat.succ_mul, Hq.out]
      simp only [Nat.zero_add, Nat.mul_one] at HFin
      clear hW2 c0a p2a cha HR1 HO1 HB1 hB2 HNew HStep
      obtain ⟨hi0, hi1⟩ := HI0.out
      go_wp2
      go_region_law (refine step_append_room (by rfl) _ _ 30 (by rfl) 5 i0 1 Tryd.underlying30 hi0 hi1 (w.heap.size + 1) 0 q KS (by rfl) ⟨sb, sbo + at_, none⟩ u (sc - at_) (ss.map fun y => Value.int .u8 ((y : Nat) : Int)) (by rfl) HNl.out.1 (HNw.out _ (by first | exact .inl rfl | exact .inr rfl)) HNl.out.2 hqu (fun j hj => by rw [Nat.zero_add, Nat.mul_one]; exact HRf.out _ (by first | exact .inl rfl | exact .inr rfl) _ (by have := HNl.out.1; omega)) ?_)
      all_goals
        go_wp2
        go_roundw
        case rel =>
          refine ⟨t + 1, by rw [HT1.out], by go_num, by rw [← HT1.out]; exact hqu, ht1, ?_⟩
          rw [← HT1.out]
          first
            | exact HFin.out W2 (.inl rfl)
            | exact HFin.out W2.drew (.inr rfl)
        case measure => simp; omega
    · have hlt' : ¬ (q : Int) < (KS : Int) := by omega
      have hqK : q = KS := by omega
      rw [hqK] at HR ⊢
      have HRc : Hid (Row wr (w.heap.size + 1) KS (col k u D)) := Row.congr HR.out (fun p hp => by rw [if_pos hp])
      have hKK : ¬ (KS : Int) < (KS : Int) := by omega
      clear hR hO hbr HR hlt' hlt hq Hq hqK htu
      go_wp2
      go_quiet (fail)
      obtain ⟨W1, hW1⟩ : ∃ W1, wr.drewN nq = W1 := ⟨_, rfl⟩
      rw [hW1]
      have HB1 : Hid (Below w.heap.size w W1) := by rw [← hW1]; exact HB.out.trans (drewN_below _ _ _)
      have HR1 : Hid (Row W1 (w.heap.size + 1) KS (col k u D)) := by rw [← hW1]; exact Row.of_block HRc.out (by rw [(World.drewN_alike _ _).1])
      clear hW1 HRc HB HO c0r p1r p2r p1 p2 HB0 hz0
      have hnK : (n : Int) ≤ (KS : Int) := by omega
      obtain ⟨M, hM⟩ : ∃ M, KS - n = M := ⟨_, rfl⟩
      have hMi : (KS : Int) - (n : Int) = (M : Int) := by omega
      by_cases hn : KS = n
      · have HF : Hid (∀ p, n ≤ p → p < KS → col k u D p = 0) := fun p h1 h2 => by omega
        have hM0 : M = 0 := by omega
        subst hn
        clear hM hMi hM0
        go_wp2
        go_loopw [65] (fun i wq => ∃ z : Nat, z = 0 ∧ i = .int .i64 z ∧ wq = W1) (fun i _ => 1)
        case atStart => exact ⟨0, rfl, rfl, rfl⟩
        case round =>
          obtain ⟨z, rfl, rfl, rfl⟩ := hrel
          go_wp2
          go_ret2
          exact (HPost.out _ _).2 ⟨HB1.out, .inr ⟨HF.out, rfl, HR1.out⟩⟩
      · have hn2 : ¬ KS = n := hn
        go_wp2
        go_loopw [65] (fun i wq => ∃ z : Nat, z ≤ M ∧ i = .int .i64 z ∧ wq = W1 ∧ ∀ p, n ≤ p → p < n + z → col k u D p = 0) (fun i _ => M - (intOf i).toNat)
        case atStart => exact ⟨0, Nat.zero_le _, rfl, rfl, fun p h1 h2 => by omega⟩
        case round =>
          obtain ⟨z, hz, rfl, rfl, hall⟩ := hrel
          by_cases hzM : z < M
          · have hzM' : (z : Int) < (M : Int) := by omega
            have hcell := HR1.out.cell (i := n + z) (by omega)
            by_cases h0 : col k u D (n + z) = 0
            · rw [h0] at hcell
              have HF : Hid (∀ p, n ≤ p → p < n + (z + 1) → col k u D p = 0) := by
                intro p h1 h2
                by_cases e : p = n + z
                · rw [e]; exact h0
                · exact hall p h1 (by omega)
              clear hall h0
              go_wp2
              go_roundw
              case rel => exact ⟨z + 1, by omega, by go_num, by trivial, HF.out⟩
              case measure => simp [intOf]; omega
            · have HF : Hid (∃ p, n ≤ p ∧ p < KS ∧ col k u D p ≠ 0) := ⟨n + z, by omega, by omega, h0⟩
              obtain ⟨y, hy⟩ : ∃ y, col k u D (n + z) = y := ⟨_, rfl⟩
              rw [hy] at hcell h0
              have hyb : ((y : Int) != 0) = true := by simp; omega
              have hy0 : ¬ (y : Int) = 0 := by omega
              clear hall hy h0
              go_wp2
              go_ret2
              exact (HPost.out _ _).2 ⟨HB1.out, .inl ⟨HF.out, rfl⟩⟩
          · have hzM' : ¬ (z : Int) < (M : Int) := by omega
            have HF : Hid (∀ p, n ≤ p → p < KS → col k u D p = 0) := fun p h1 h2 => hall p h1 (by omega)
            clear hall
            go_wp2
            go_ret2
            exact (HPost.out _ _).2 ⟨HB1.out, .inr ⟨HF.out, rfl, HR1.out⟩⟩
end Go.Proofs.Qxb6500697aDoor
