/-
  THE STEPS OF THE MODEL: KPatch.
-/
import Derived.Test.Qxb6500698aGreatDoorZN1
import Derived.Test.Qxb6500698aGreatDoorZPc
import Derived.Deep.RegionHeld3
import Derived.Deep.RegionLaw
namespace Go.Proofs.Qxb6500698aGreatDoor
open Go.RowKit

theorem zwr_self {s : ZSt} : zwr s (s.O, s.oe) = s := rfl
theorem zpatch_cf {O : List Nat} {off : Int} {x i : Nat} {n : Int} (h : cf x n = some i) : zpatch O none off x n = (O, some i) := by unfold zpatch; rw [if_pos rfl, h]
theorem zpatch_neg {O : List Nat} {off : Int} {x : Nat} {n : Int} (h : cf x n = none) (h1 : off < 0) : zpatch O none off x n = (O, some 2) := by unfold zpatch; rw [if_pos rfl, h]; exact if_pos h1
theorem zpatch_far {O : List Nat} {off : Int} {x : Nat} {n : Int} (h : cf x n = none) (h1 : ¬ off < 0) (h2 : (O.length : Int) < off + n) : zpatch O none off x n = (O, some 0) := by unfold zpatch; rw [if_pos rfl, h]; show (if _ then _ else _) = _; rw [if_neg h1, if_pos h2]
theorem zpatch_ok {O : List Nat} {off : Int} {x : Nat} {n : Int} (h : cf x n = none) (h1 : ¬ off < 0) (h2 : ¬ (O.length : Int) < off + n) : zpatch O none off x n = (pt O off.toNat x n.toNat, none) := by unfold zpatch; rw [if_pos rfl, h]; show (if _ then _ else _) = _; rw [if_neg h1, if_neg h2]
theorem wp_gen {P : Program} {c : Code} {Q : Exit → Act → World → Prop} {a : Act} {w : World} {p : World → Prop} (hp : p w) (h : ∀ V, p V → c.wp P Q a V) : c.wp P Q a w := h w hp
theorem own_some {w : World} {B n oc : Nat} {oa : Option Addr} {O : List Nat} (h : OwnB w B (.slice oa n oc) O) (hne : O ≠ []) : ∃ g, oa = some ⟨g, 0, none⟩ := by
  have hg : w.ownsRow B 5 1 (.slice oa n oc) O.length (O.map fun y => Value.int .u8 ((y : Nat) : Int)) := h
  rcases hg.2 with ⟨_, h0⟩ | ⟨g, cap, cur, hv, _⟩
  · exact absurd (List.length_eq_zero_iff.1 h0) hne
  · injection hv with e1 _ _
    exact ⟨g, e1⟩
theorem cf_okW {x : Nat} {n : Int} (h : cf x n = none) : okW n = true := by
  unfold cf at h
  split at h
  · assumption
  · cases h

set_option maxRecDepth 100000 in
set_option maxHeartbeats 2000000 in
theorem zm7 {B : Nat} {w : World} {l : Ml} {s : ZSt} {o : OpD} (h : InN B w l s o) (h0 : o.kind = 7) :
    Calls Tryz.prog 9 #[.pointer (some ⟨l.sb, 0, none⟩), opV o] w (StM B w l s o) := by
  obtain ⟨W, hW⟩ : ∃ W, (w.alloc (opB o)).alloc ans0 = W := ⟨_, rfl⟩
  have hP := proM h hW
  have c0 : W.cell? ⟨w.heap.size, 0, none⟩ = some (.int .u8 (o.kind : Int)) := hP.cell 0
  have c3 : W.cell? ⟨w.heap.size, 3, none⟩ = some (.int .i64 o.n) := hP.cell 3
  have c4 : W.cell? ⟨w.heap.size, 4, none⟩ = some (.int .u64 (o.v : Int)) := hP.cell 4
  have c5 : W.cell? ⟨w.heap.size, 5, none⟩ = some (.int .i64 o.width) := hP.cell 5
  have m1 : W.cell? ⟨l.sb, 1, none⟩ = some (.slice l.oa s.O.length l.oc) := hP.zm.cell 1
  have mf1 := hP.zm.fr 1
  have m3 : W.cell? ⟨l.sb, 3, none⟩ = some (.int .u8 (errCode s.oe : Int)) := hP.zm.cell 3
  have mf3 := hP.zm.fr 3
  have b0 : ((o.kind : Int) == 0) = false := by simp; omega
  have b1 : ((o.kind : Int) == 1) = false := by simp; omega
  have b2 : ((o.kind : Int) == 2) = false := by simp; omega
  have b3 : ((o.kind : Int) == 3) = false := by simp; omega
  have b4 : ((o.kind : Int) == 4) = false := by simp; omega
  have b5 : ((o.kind : Int) == 5) = false := by simp; omega
  have b6 : ((o.kind : Int) == 6) = false := by simp; omega
  have b7 : ((o.kind : Int) == 7) = true := by simp; omega
  have HP : Hid (ProM B w W l s o) := hP
  have hbd : Below W.heap.size W W.drew := (Below.refl _ _).drew
  have hBW : B ≤ W.heap.size := by have h1 := hP.Bw; have h2 := hP.sz; omega
  have hz : zstep s o = (zwr s (zpatch s.O s.oe o.n o.v o.width), wroteA (zwr s (zpatch s.O s.oe o.n o.v o.width))) := by
    unfold zstep
    rw [if_neg (by omega), if_neg (by omega), if_neg (by omega), if_neg (by omega), if_neg (by omega), if_neg (by omega), if_neg (by omega), if_pos h0]
  obtain ⟨S1, hS1e⟩ : ∃ S1, zwr s (zpatch s.O s.oe o.n o.v o.width) = S1 := ⟨_, rfl⟩
  rw [hS1e] at hz
  have HZS : Hid (zstep s o = (S1, wroteA S1)) := hz
  have hz0 := errCode_zero (x := s.oe)
  by_cases hoe : s.oe = none
  · rw [decide_eq_true hoe] at hz0
    rw [hoe] at hS1e
    have HFi : Hid (Calls Tryz.prog 41 #[.int .u64 o.v, .int .i64 o.width] W fun r w' => ∃ a c, r = .returned (.tuple #[.slice a (fld o.v o.width).length c, .int .u8 (errCode (cf o.v o.width) : Int)]) ∧ BRow w' a (fld o.v o.width) ∧ (fld o.v o.width).length ≤ c ∧ (∀ b o, a = some ⟨b, o, none⟩ → W.heap.size ≤ b) ∧ Below W.heap.size W w') := field_any o.v o.width W h.op.hw.1 h.op.hw.2 h.op.hv
    have HSt : Hid (∀ V a, BRow V a (fld o.v o.width) → (∀ b o, a = some ⟨b, o, none⟩ → W.heap.size ≤ b) → Below W.heap.size W V → V.cell? ⟨l.sb, 3, none⟩ = some (.int .u8 (errCode s.oe : Int)) ∧ V.frozen? ⟨l.sb, 3, none⟩ = false ∧ MSt B W (V.setCell ⟨l.sb, 3, none⟩ (.int .u8 (errCode (cf o.v o.width) : Int))) l l s { s with oe := cf o.v o.width } ∧ BRow (V.setCell ⟨l.sb, 3, none⟩ (.int .u8 (errCode (cf o.v o.width) : Int))) a (fld o.v o.width)) := fun V a h1 h2 h3 => by
      have hZ := hP.zm.below h3
      have hS := (MSt.start hP.zm h3).trans (hZ.oe (cf o.v o.width))
      have hO : Only l.sb V (V.setCell ⟨l.sb, 3, none⟩ (.int .u8 (errCode (cf o.v o.width) : Int))) := (Only.refl _ _).setCell _ _
      have hlt := hP.zm.lt
      exact ⟨hZ.cell 3, hZ.fr 3, hS, brow_keep h1 (fun h0 b o he => hO.block b (by have := h2 b o he; omega))⟩
    have Hoe : Hid (s.oe = none) := hoe
    have HS1e : Hid (zwr s (zpatch s.O none o.n o.v o.width) = S1) := hS1e
    have HWd : Hid (cf o.v o.width = none → ∃ k : Nat, o.width = (k : Int) ∧ (k = 1 ∨ k = 2 ∨ k = 4 ∨ k = 8)) := fun hc => okW_nat (cf_okW hc)
    have hno := h.op.hn
    generalize hec0 : errCode s.oe = ec0 at *
    generalize hec1 : errCode (cf o.v o.width) = ec1 at *
    generalize hfl : (fld o.v o.width).length = fl at *
    have Hec1 : Hid (errCode (cf o.v o.width) = ec1) := hec1
    have Hfl : Hid ((fld o.v o.width).length = fl) := hfl
    clear hz hbd hS1e hBW hoe hec0 hec1 hfl
    unfold opB ans0 at hW
    unfold opV
    clear h hP h0
    go_enter Tryz.func9, Tryz.ntmps9
    go_wp2_with fail
    refine Calls.mono HFi.out ?_
    rintro r V0 ⟨a, c, rfl, h1, _, h2, h3⟩
    obtain ⟨k1, k2, k3, k4⟩ := HSt.out V0 a h1 h2 h3
    have HS0 : Hid (MSt B W (V0.setCell ⟨l.sb, 3, none⟩ (.int .u8 (ec1 : Int))) l l s { s with oe := cf o.v o.width }) := k3
    have HRw : Hid (BRow (V0.setCell ⟨l.sb, 3, none⟩ (.int .u8 (ec1 : Int))) a (fld o.v o.width)) := k4
    clear k3 k4 h1 h2 h3 HSt HFi hW m3 mf3 c0 c3 c4 c5 m1 mf1
    go_upto_region 31 with fail
    clear k1 k2
    obtain ⟨V1, hV1⟩ : ∃ V1, V0.setCell ⟨l.sb, 3, none⟩ (.int .u8 (ec1 : Int)) = V1 := ⟨_, rfl⟩
    rw [hV1] at HS0 HRw
    (try rw [hV1])
    clear hV1
    have hS0 := HS0.out
    have m3 : V1.cell? ⟨l.sb, 3, none⟩ = some (.int .u8 (ec1 : Int)) := by rw [← Hec1.out]; exact hS0.zm.cell 3
    have mf3 := hS0.zm.fr 3
    have m1 : V1.cell? ⟨l.sb, 1, none⟩ = some (.slice l.oa s.O.length l.oc) := hS0.zm.cell 1
    have c3 : V1.cell? ⟨w.heap.size, 3, none⟩ = some (.int .i64 o.n) := hS0.opc HP.out 3
    have c5 : V1.cell? ⟨w.heap.size, 5, none⟩ = some (.int .i64 o.width) := hS0.opc HP.out 5
    have hz1 := errCode_zero (x := cf o.v o.width)
    rw [Hec1.out] at hz1
    cases hcf : cf o.v o.width with
    | some i =>
      rw [hcf] at hz1
      have hz2 : ((ec1 : Int) != 0) = true := by rw [bne, hz1]; rfl
      have HS00 : Hid (MSt B W V1 l l s S1) := by
        show MSt B W V1 l l s S1
        rw [← HS1e.out, zpatch_cf hcf]
        rw [hcf] at hS0
        exact hS0
      clear hS0 hcf HS0 HRw Hec1 Hfl HWd HS1e Hoe hz1
      go_upto_region 68 with fail
      have hS1 := HS00.out
      clear HS00 m3 mf3 m1 c3 c5
      obtain ⟨q, hq⟩ : ∃ q, (S1).O.length = q := ⟨_, rfl⟩
      obtain ⟨ec, hec⟩ : ∃ ec, errCode (S1).oe = ec := ⟨_, rfl⟩
      have hql : q ≤ 1024 := by have h1 := hS1.zm.ol; have h2 := hS1.zm.lim; omega
      have hwq : IntKind.u64.wrap (q : Int) = (q : Int) := by simp [IntKind.wrap, IntKind.bits, IntKind.signed]; omega
      have HKm : Hid (∀ V, Below V1.heap.size V1 V → V.cell? ⟨l.sb, 1, none⟩ = some (.slice l.oa q l.oc) ∧ V.cell? ⟨l.sb, 3, none⟩ = some (.int .u8 (ec : Int))) := fun V hV => ⟨by rw [← hq]; exact (hS1.zm.below hV).cell 1, by rw [← hec]; exact (hS1.zm.below hV).cell 3⟩
      have hlt := HP.out.z0.lt
      have HKs : Hid (∀ p q0 r t u x, (ansW V1 (w.heap.size + 1) p q0 r t u x).drew.cell? ⟨l.sb, 1, none⟩ = some (.slice l.oa q l.oc) ∧ (ansW V1 (w.heap.size + 1) p q0 r t u x).drew.cell? ⟨l.sb, 3, none⟩ = some (.int .u8 (ec : Int))) := fun p q0 r t u x => (by
        have hV := HKm.out V1 (Below.refl _ _)
        have hA := ansW_only V1 (w.heap.size + 1) p q0 r t u x
        generalize ansW V1 (w.heap.size + 1) p q0 r t u x = Y at hA
        exact ⟨(Only.cell hA (by omega)).trans hV.1, (Only.cell hA (by omega)).trans hV.2⟩)
      unfold ansW at HKs
      have hbd1 : Below V1.heap.size V1 V1.drew := (Below.refl _ _).drew
      have HB0 : Hid (Below V1.heap.size V1 V1.drew) := hbd1
      have hres := hS1.res HP.out
      have HRes : Hid (Res V1 (w.heap.size + 1)) := hres
      have HF : Hid (StM B w l s o (.returned (ansV 0 0 q 0 none 0 0 ec)) (ansW V1 (w.heap.size + 1) (.int .u32 ((0 : Nat) : Int)) (.int .u32 ((0 : Nat) : Int)) (.int .u64 (q : Int)) (.int .u64 ((0 : Nat) : Int)) (.slice none 0 0) (.int .u8 (ec : Int))).drew) := (StM.mk0 hS1 HP.out (by rw [HZS.out, ← hq, ← hec]; rfl)).drew
      obtain ⟨r0, r1, r2, r3, r4, r5, rf⟩ := (hS1.res HP.out).cells
      clear hres hbd1 hS1 hlt hql hq hec HZS
      go_upto_region 68 with fail
      go_region_held3 (fun w' => w'.cell? ⟨l.sb, 1, none⟩ = some (.slice l.oa q l.oc) ∧ w'.cell? ⟨l.sb, 3, none⟩ = some (.int .u8 (ec : Int)))
        (first | with_reducible exact HKm.out _ HB0.out | with_reducible exact HKs.out _ _ _ _ _ _)
        (fail)
      go_wp2
      exact retStepMd rfl rfl HRes.out HF.out
    | none =>
      rw [hcf] at hz1
      have hz2 : ((ec1 : Int) != 0) = false := by rw [bne, hz1]; rfl
      have he1 : ec1 = 0 := by rw [← Hec1.out, hcf]; rfl
      have HS00 : Hid (MSt B W V1 l l s s) := by
        show MSt B W V1 l l s s
        have h9 := hS0
        rw [hcf, ← Hoe.out] at h9
        exact h9
      clear hS0 HS0 hz1
      have hS0 := HS00.out
      by_cases hneg : o.n < 0
      · have HS01 : Hid (MSt B W (V1.setCell ⟨l.sb, 3, none⟩ (.int .u8 3)) l l s S1) := by
          show MSt B W (V1.setCell ⟨l.sb, 3, none⟩ (.int .u8 3)) l l s S1
          rw [← HS1e.out, zpatch_neg hcf hneg]
          exact hS0.trans (hS0.zm.oe (some 2))
        clear hS0 hcf HRw Hec1 Hfl HWd HS1e Hoe HS00
        go_upto_region 68 with fail
        obtain ⟨V2, hV2⟩ : ∃ V2, V1.setCell ⟨l.sb, 3, none⟩ (.int .u8 3) = V2 := ⟨_, rfl⟩
        have hS1 := HS01.out
        rw [hV2] at hS1
        (try rw [hV2])
        clear HS01 m3 mf3 m1 c3 c5 hV2 V1
        obtain ⟨V1, hV1⟩ : ∃ V1, V1 = V2 := ⟨_, rfl⟩
        rw [← hV1] at hS1 ⊢
        clear hV1
        obtain ⟨q, hq⟩ : ∃ q, (S1).O.length = q := ⟨_, rfl⟩
        obtain ⟨ec, hec⟩ : ∃ ec, errCode (S1).oe = ec := ⟨_, rfl⟩
        have hql : q ≤ 1024 := by have h1 := hS1.zm.ol; have h2 := hS1.zm.lim; omega
        have hwq : IntKind.u64.wrap (q : Int) = (q : Int) := by simp [IntKind.wrap, IntKind.bits, IntKind.signed]; omega
        have HKm : Hid (∀ V, Below V1.heap.size V1 V → V.cell? ⟨l.sb, 1, none⟩ = some (.slice l.oa q l.oc) ∧ V.cell? ⟨l.sb, 3, none⟩ = some (.int .u8 (ec : Int))) := fun V hV => ⟨by rw [← hq]; exact (hS1.zm.below hV).cell 1, by rw [← hec]; exact (hS1.zm.below hV).cell 3⟩
        have hlt := HP.out.z0.lt
        have HKs : Hid (∀ p q0 r t u x, (ansW V1 (w.heap.size + 1) p q0 r t u x).drew.cell? ⟨l.sb, 1, none⟩ = some (.slice l.oa q l.oc) ∧ (ansW V1 (w.heap.size + 1) p q0 r t u x).drew.cell? ⟨l.sb, 3, none⟩ = some (.int .u8 (ec : Int))) := fun p q0 r t u x => (by
          have hV := HKm.out V1 (Below.refl _ _)
          have hA := ansW_only V1 (w.heap.size + 1) p q0 r t u x
          generalize ansW V1 (w.heap.size + 1) p q0 r t u x = Y at hA
          exact ⟨(Only.cell hA (by omega)).trans hV.1, (Only.cell hA (by omega)).trans hV.2⟩)
        unfold ansW at HKs
        have hbd1 : Below V1.heap.size V1 V1.drew := (Below.refl _ _).drew
        have HB0 : Hid (Below V1.heap.size V1 V1.drew) := hbd1
        have hres := hS1.res HP.out
        have HRes : Hid (Res V1 (w.heap.size + 1)) := hres
        have HF : Hid (StM B w l s o (.returned (ansV 0 0 q 0 none 0 0 ec)) (ansW V1 (w.heap.size + 1) (.int .u32 ((0 : Nat) : Int)) (.int .u32 ((0 : Nat) : Int)) (.int .u64 (q : Int)) (.int .u64 ((0 : Nat) : Int)) (.slice none 0 0) (.int .u8 (ec : Int))).drew) := (StM.mk0 hS1 HP.out (by rw [HZS.out, ← hq, ← hec]; rfl)).drew
        obtain ⟨r0, r1, r2, r3, r4, r5, rf⟩ := (hS1.res HP.out).cells
        clear hres hbd1 hS1 hlt hql hq hec HZS
        go_upto_region 68 with fail
        go_region_held3 (fun w' => w'.cell? ⟨l.sb, 1, none⟩ = some (.slice l.oa q l.oc) ∧ w'.cell? ⟨l.sb, 3, none⟩ = some (.int .u8 (ec : Int)))
          (first | with_reducible exact HKm.out _ HB0.out | with_reducible exact HKs.out _ _ _ _ _ _)
          (fail)
        go_wp2
        exact retStepMd rfl rfl HRes.out HF.out
      · obtain ⟨q0, hq0⟩ : ∃ q0 : Nat, o.n = (q0 : Int) := ⟨o.n.toNat, by omega⟩
        obtain ⟨k, hk, hk4⟩ := HWd.out hcf
        have hol : s.O.length ≤ 1024 := by have h8 := hS0.zm.ol; have h9 := hS0.zm.lim; omega
        have hneg' : ¬ (q0 : Int) < 0 := by omega
        have hq63 : q0 ≤ 9223372036854775807 := by omega
        by_cases hfar : (s.O.length : Int) < o.n + o.width
        · have HS01 : Hid (∀ m, MSt B W ((V1.drewN m).setCell ⟨l.sb, 3, none⟩ (.int .u8 1)) l l s S1) := fun m => by
            rw [← HS1e.out, zpatch_far hcf hneg hfar]
            have h8 := hS0.below (drewN_below V1 m _)
            exact h8.trans (h8.zm.oe (some 0))
          rw [hq0] at c3 hfar
          rw [hk] at c5 hfar
          by_cases hbig : (s.O.length : Int) < (q0 : Int)
          · generalize s.O.length = ol at *
            clear hS0 hcf HRw Hec1 Hfl HWd HS1e Hoe HS00 hk hq0
            go_upto_region 34 with fail
            go_quiet (fail)
            go_upto_region 68 with fail
            refine wp_gen (p := fun V => MSt B W V l l s S1) (HS01.out _) ?_
            clear m3 mf3 m1 c3 c5 HS01
            intro V1 hS1
            obtain ⟨q, hq⟩ : ∃ q, (S1).O.length = q := ⟨_, rfl⟩
            obtain ⟨ec, hec⟩ : ∃ ec, errCode (S1).oe = ec := ⟨_, rfl⟩
            have hql : q ≤ 1024 := by have h1 := hS1.zm.ol; have h2 := hS1.zm.lim; omega
            have hwq : IntKind.u64.wrap (q : Int) = (q : Int) := by simp [IntKind.wrap, IntKind.bits, IntKind.signed]; omega
            have HKm : Hid (∀ V, Below V1.heap.size V1 V → V.cell? ⟨l.sb, 1, none⟩ = some (.slice l.oa q l.oc) ∧ V.cell? ⟨l.sb, 3, none⟩ = some (.int .u8 (ec : Int))) := fun V hV => ⟨by rw [← hq]; exact (hS1.zm.below hV).cell 1, by rw [← hec]; exact (hS1.zm.below hV).cell 3⟩
            have hlt := HP.out.z0.lt
            have HKs : Hid (∀ p q0 r t u x, (ansW V1 (w.heap.size + 1) p q0 r t u x).drew.cell? ⟨l.sb, 1, none⟩ = some (.slice l.oa q l.oc) ∧ (ansW V1 (w.heap.size + 1) p q0 r t u x).drew.cell? ⟨l.sb, 3, none⟩ = some (.int .u8 (ec : Int))) := fun p q0 r t u x => (by
              have hV := HKm.out V1 (Below.refl _ _)
              have hA := ansW_only V1 (w.heap.size + 1) p q0 r t u x
              generalize ansW V1 (w.heap.size + 1) p q0 r t u x = Y at hA
              exact ⟨(Only.cell hA (by omega)).trans hV.1, (Only.cell hA (by omega)).trans hV.2⟩)
            unfold ansW at HKs
            have hbd1 : Below V1.heap.size V1 V1.drew := (Below.refl _ _).drew
            have HB0 : Hid (Below V1.heap.size V1 V1.drew) := hbd1
            have hres := hS1.res HP.out
            have HRes : Hid (Res V1 (w.heap.size + 1)) := hres
            have HF : Hid (StM B w l s o (.returned (ansV 0 0 q 0 none 0 0 ec)) (ansW V1 (w.heap.size + 1) (.int .u32 ((0 : Nat) : Int)) (.int .u32 ((0 : Nat) : Int)) (.int .u64 (q : Int)) (.int .u64 ((0 : Nat) : Int)) (.slice none 0 0) (.int .u8 (ec : Int))).drew) := (StM.mk0 hS1 HP.out (by rw [HZS.out, ← hq, ← hec]; rfl)).drew
            obtain ⟨r0, r1, r2, r3, r4, r5, rf⟩ := (hS1.res HP.out).cells
            clear hres hbd1 hS1 hlt hql hq hec HZS
            go_upto_region 68 with fail
            go_region_held3 (fun w' => w'.cell? ⟨l.sb, 1, none⟩ = some (.slice l.oa q l.oc) ∧ w'.cell? ⟨l.sb, 3, none⟩ = some (.int .u8 (ec : Int)))
              (first | with_reducible exact HKm.out _ HB0.out | with_reducible exact HKs.out _ _ _ _ _ _)
              (fail)
            go_wp2
            exact retStepMd rfl rfl HRes.out HF.out
          · generalize s.O.length = ol at *
            have hwp : IntKind.i64.wrap ((q0 : Int) + (k : Int)) = (q0 : Int) + (k : Int) := by simp [IntKind.wrap, IntKind.bits, IntKind.signed]; omega
            clear hS0 hcf HRw Hec1 Hfl HWd HS1e Hoe HS00 hk hq0
            go_upto_region 34 with fail
            go_quiet (fail)
            go_upto_region 68 with fail
            refine wp_gen (p := fun V => MSt B W V l l s S1) (HS01.out _) ?_
            clear m3 mf3 m1 c3 c5 HS01
            intro V1 hS1
            obtain ⟨q, hq⟩ : ∃ q, (S1).O.length = q := ⟨_, rfl⟩
            obtain ⟨ec, hec⟩ : ∃ ec, errCode (S1).oe = ec := ⟨_, rfl⟩
            have hql : q ≤ 1024 := by have h1 := hS1.zm.ol; have h2 := hS1.zm.lim; omega
            have hwq : IntKind.u64.wrap (q : Int) = (q : Int) := by simp [IntKind.wrap, IntKind.bits, IntKind.signed]; omega
            have HKm : Hid (∀ V, Below V1.heap.size V1 V → V.cell? ⟨l.sb, 1, none⟩ = some (.slice l.oa q l.oc) ∧ V.cell? ⟨l.sb, 3, none⟩ = some (.int .u8 (ec : Int))) := fun V hV => ⟨by rw [← hq]; exact (hS1.zm.below hV).cell 1, by rw [← hec]; exact (hS1.zm.below hV).cell 3⟩
            have hlt := HP.out.z0.lt
            have HKs : Hid (∀ p q0 r t u x, (ansW V1 (w.heap.size + 1) p q0 r t u x).drew.cell? ⟨l.sb, 1, none⟩ = some (.slice l.oa q l.oc) ∧ (ansW V1 (w.heap.size + 1) p q0 r t u x).drew.cell? ⟨l.sb, 3, none⟩ = some (.int .u8 (ec : Int))) := fun p q0 r t u x => (by
              have hV := HKm.out V1 (Below.refl _ _)
              have hA := ansW_only V1 (w.heap.size + 1) p q0 r t u x
              generalize ansW V1 (w.heap.size + 1) p q0 r t u x = Y at hA
              exact ⟨(Only.cell hA (by omega)).trans hV.1, (Only.cell hA (by omega)).trans hV.2⟩)
            unfold ansW at HKs
            have hbd1 : Below V1.heap.size V1 V1.drew := (Below.refl _ _).drew
            have HB0 : Hid (Below V1.heap.size V1 V1.drew) := hbd1
            have hres := hS1.res HP.out
            have HRes : Hid (Res V1 (w.heap.size + 1)) := hres
            have HF : Hid (StM B w l s o (.returned (ansV 0 0 q 0 none 0 0 ec)) (ansW V1 (w.heap.size + 1) (.int .u32 ((0 : Nat) : Int)) (.int .u32 ((0 : Nat) : Int)) (.int .u64 (q : Int)) (.int .u64 ((0 : Nat) : Int)) (.slice none 0 0) (.int .u8 (ec : Int))).drew) := (StM.mk0 hS1 HP.out (by rw [HZS.out, ← hq, ← hec]; rfl)).drew
            obtain ⟨r0, r1, r2, r3, r4, r5, rf⟩ := (hS1.res HP.out).cells
            clear hres hbd1 hS1 hlt hql hq hec HZS
            go_upto_region 68 with fail
            go_region_held3 (fun w' => w'.cell? ⟨l.sb, 1, none⟩ = some (.slice l.oa q l.oc) ∧ w'.cell? ⟨l.sb, 3, none⟩ = some (.int .u8 (ec : Int)))
              (first | with_reducible exact HKm.out _ HB0.out | with_reducible exact HKs.out _ _ _ _ _ _)
              (fail)
            go_wp2
            exact retStepMd rfl rfl HRes.out HF.out
        · have hfld : fld o.v o.width = dig o.v k := by unfold fld; rw [if_pos hcf, hk]; rfl
          have hflk : k = fl := by rw [← Hfl.out, hfld, dig_length]
          subst hflk
          have hfar' : ¬ (s.O.length : Int) < (q0 : Int) + (k : Int) := by rw [hq0, hk] at hfar; exact hfar
          have hbig : ¬ (s.O.length : Int) < (q0 : Int) := by omega
          have hne : s.O ≠ [] := by intro h9; rw [h9] at hfar'; simp at hfar'; omega
          obtain ⟨g, hoa⟩ := own_some hS0.zm.ownO hne
          have hcap := hS0.zm.rowO.2.1
          have HS01 : Hid (∀ V w', MSt B W V l l s s → OwnB w' B (.slice (some ⟨g, 0, none⟩) s.O.length l.oc) (lays s.O q0 (dig o.v k)) → Only g V.drew w' → MSt B W w' l l s S1) := fun V w' g1 g2 g3 => by
            have h8 := g1.below ((Below.refl _ _).drew)
            rw [lays_pt (by omega), ← hoa] at g2
            have h9 := h8.trans (h8.zm.patched (by rw [hoa]; rfl) g2 g3 (pt_len (by omega)) (pt_lt h8.zm.ob))
            have e9 : S1 = { s with O := pt s.O q0 o.v k } := by
              rw [← HS1e.out, zpatch_ok hcf hneg hfar, hq0, hk]
              show (⟨s.F, pt s.O q0 o.v k, s.I, s.lim, none, s.ie⟩ : ZSt) = ⟨s.F, pt s.O q0 o.v k, s.I, s.lim, s.oe, s.ie⟩
              rw [Hoe.out]
            rw [e9]
            exact h9
          have HAp : Hid (∀ V, MSt B W V l l s s → BRow V a (dig o.v k) → CpB B V.drew g s.O.length l.oc s.O q0 a (dig o.v k)) := fun V g1 g2 => ⟨by rw [← hoa]; exact (g1.zm.below ((Below.refl _ _).drew)).ownO, g2.below ((Below.refl _ _).drew), by rw [dig_length]; omega, by intro h9; have h7 : (dig o.v k).length = k := dig_length _ _; rw [h9] at h7; simp at h7; omega⟩
          have Hdk : Hid ((dig o.v k).length = k) := dig_length _ _
          have HK0 : Hid (∀ m, MSt B W (V1.drewN m) l l s s ∧ BRow (V1.drewN m) a (dig o.v k)) := fun m => by
            have h8 := HRw.out
            rw [hfld] at h8
            exact ⟨hS0.below (drewN_below V1 m _), h8.below (drewN_below V1 m _)⟩
          have HKc : Hid (∀ V, MSt B W V l l s s → V.cell? ⟨l.sb, 1, none⟩ = some (.slice (some ⟨g, 0, none⟩) s.O.length l.oc) ∧ V.cell? ⟨w.heap.size, 3, none⟩ = some (.int .i64 q0)) := fun V g1 => ⟨by rw [← hoa]; exact g1.zm.cell 1, by rw [← hq0]; exact g1.opc HP.out 3⟩
          have Hkl : Hid (k ≤ s.O.length - q0) := by show k ≤ s.O.length - q0; omega
          rw [hq0] at c3
          rw [hk] at c5
          generalize s.O.length = ol at *
          have hwp : IntKind.i64.wrap ((q0 : Int) + (k : Int)) = (q0 : Int) + (k : Int) := by simp [IntKind.wrap, IntKind.bits, IntKind.signed]; omega
          have hle1 : (q0 : Int) ≤ (ol : Int) := by omega
          have hle2 : (ol : Int) ≤ (l.oc : Int) := by omega
          have hle3 : (q0 : Int) ≤ (l.oc : Int) := by omega
          have hne1 : ¬ ol = q0 := by omega
          have hne2 : ¬ l.oc = q0 := by omega
          clear hS0 hcf HRw Hec1 Hfl HWd HS1e Hoe HS00 hk hq0 hne hfld hoa
          go_upto_region 34 with fail
          go_quiet (fail)
          go_upto_region 30 with fail
          refine wp_gen (p := fun V => MSt B W V l l s s ∧ BRow V a (dig o.v k)) (HK0.out _) ?_
          clear m3 mf3 m1 c3 c5 HK0
          rintro V1 ⟨hS1, hR1⟩
          obtain ⟨m1, c3⟩ := HKc.out V1 hS1
          have HAq : Hid (CpB B V1.drew g ol l.oc s.O q0 a (dig o.v k)) := HAp.out V1 hS1 hR1
          have HSq : Hid (∀ w', OwnB w' B (.slice (some ⟨g, 0, none⟩) ol l.oc) (lays s.O q0 (dig o.v k)) → Only g V1.drew w' → MSt B W w' l l s S1) := fun w' => HS01.out V1 w' hS1
          clear HKc HAp HS01 hS1 hR1
          go_region_law (first
            | ((with_reducible refine step_copy_bl (C := l.oc - q0) (c := c) HAq.out Hkl.out Hdk.out ?_ ?_ ?_); rfl; rfl; intro v' w1 g1 g2; have HX : Hid (MSt B W w1 l l s S1) := HSq.out w1 g1 g2; clear g1 g2))
          all_goals
            have hS1 := HX.out
            clear HX HSq HAq Hkl Hdk m1 c3 V1
            obtain ⟨V1, hV1⟩ : ∃ V1, V1 = w1 := ⟨_, rfl⟩
            rw [← hV1] at hS1 ⊢
            clear hV1
            obtain ⟨q, hq⟩ : ∃ q, (S1).O.length = q := ⟨_, rfl⟩
            obtain ⟨ec, hec⟩ : ∃ ec, errCode (S1).oe = ec := ⟨_, rfl⟩
            have hql : q ≤ 1024 := by have h1 := hS1.zm.ol; have h2 := hS1.zm.lim; omega
            have hwq : IntKind.u64.wrap (q : Int) = (q : Int) := by simp [IntKind.wrap, IntKind.bits, IntKind.signed]; omega
            have HKm : Hid (∀ V, Below V1.heap.size V1 V → V.cell? ⟨l.sb, 1, none⟩ = some (.slice l.oa q l.oc) ∧ V.cell? ⟨l.sb, 3, none⟩ = some (.int .u8 (ec : Int))) := fun V hV => ⟨by rw [← hq]; exact (hS1.zm.below hV).cell 1, by rw [← hec]; exact (hS1.zm.below hV).cell 3⟩
            have hlt := HP.out.z0.lt
            have HKs : Hid (∀ p q0 r t u x, (ansW V1 (w.heap.size + 1) p q0 r t u x).drew.cell? ⟨l.sb, 1, none⟩ = some (.slice l.oa q l.oc) ∧ (ansW V1 (w.heap.size + 1) p q0 r t u x).drew.cell? ⟨l.sb, 3, none⟩ = some (.int .u8 (ec : Int))) := fun p q0 r t u x => (by
              have hV := HKm.out V1 (Below.refl _ _)
              have hA := ansW_only V1 (w.heap.size + 1) p q0 r t u x
              generalize ansW V1 (w.heap.size + 1) p q0 r t u x = Y at hA
              exact ⟨(Only.cell hA (by omega)).trans hV.1, (Only.cell hA (by omega)).trans hV.2⟩)
            unfold ansW at HKs
            have hbd1 : Below V1.heap.size V1 V1.drew := (Below.refl _ _).drew
            have HB0 : Hid (Below V1.heap.size V1 V1.drew) := hbd1
            have hres := hS1.res HP.out
            have HRes : Hid (Res V1 (w.heap.size + 1)) := hres
            have HF : Hid (StM B w l s o (.returned (ansV 0 0 q 0 none 0 0 ec)) (ansW V1 (w.heap.size + 1) (.int .u32 ((0 : Nat) : Int)) (.int .u32 ((0 : Nat) : Int)) (.int .u64 (q : Int)) (.int .u64 ((0 : Nat) : Int)) (.slice none 0 0) (.int .u8 (ec : Int))).drew) := (StM.mk0 hS1 HP.out (by rw [HZS.out, ← hq, ← hec]; rfl)).drew
            obtain ⟨r0, r1, r2, r3, r4, r5, rf⟩ := (hS1.res HP.out).cells
            clear hres hbd1 hS1 hlt hql hq hec HZS
            go_upto_region 68 with fail
            go_region_held3 (fun w' => w'.cell? ⟨l.sb, 1, none⟩ = some (.slice l.oa q l.oc) ∧ w'.cell? ⟨l.sb, 3, none⟩ = some (.int .u8 (ec : Int)))
              (first | with_reducible exact HKm.out _ HB0.out | with_reducible exact HKs.out _ _ _ _ _ _)
              (fail)
            go_wp2
            exact retStepMd rfl rfl HRes.out HF.out

  · rw [decide_eq_false hoe] at hz0
    have hSe : S1 = s := by rw [← hS1e]; unfold zpatch zwr; rw [if_neg hoe]
    have HS00 : Hid (MSt B W W l l s S1) := by show MSt B W W l l s S1; rw [hSe]; exact MSt.refl hP.zm
    generalize hec0 : errCode s.oe = ec0 at *
    clear hz hbd hS1e hBW hoe hec0 hSe
    unfold opB ans0 at hW
    unfold opV
    clear h hP h0
    go_enter Tryz.func9, Tryz.ntmps9
    go_upto_region 68 with fail
    have hS1 := HS00.out
    clear HS00
    obtain ⟨V1, hV1⟩ : ∃ V1, V1 = W := ⟨_, rfl⟩
    rw [← hV1]
    have hS1' : MSt B W V1 l l s S1 := by rw [hV1]; exact hS1
    clear hS1 m3 mf3 m1 mf1
    have hS1 := hS1'
    clear hS1' hV1 hW c0 c3 c4 c5
    obtain ⟨q, hq⟩ : ∃ q, (S1).O.length = q := ⟨_, rfl⟩
    obtain ⟨ec, hec⟩ : ∃ ec, errCode (S1).oe = ec := ⟨_, rfl⟩
    have hql : q ≤ 1024 := by have h1 := hS1.zm.ol; have h2 := hS1.zm.lim; omega
    have hwq : IntKind.u64.wrap (q : Int) = (q : Int) := by simp [IntKind.wrap, IntKind.bits, IntKind.signed]; omega
    have HKm : Hid (∀ V, Below V1.heap.size V1 V → V.cell? ⟨l.sb, 1, none⟩ = some (.slice l.oa q l.oc) ∧ V.cell? ⟨l.sb, 3, none⟩ = some (.int .u8 (ec : Int))) := fun V hV => ⟨by rw [← hq]; exact (hS1.zm.below hV).cell 1, by rw [← hec]; exact (hS1.zm.below hV).cell 3⟩
    have hlt := HP.out.z0.lt
    have HKs : Hid (∀ p q0 r t u x, (ansW V1 (w.heap.size + 1) p q0 r t u x).drew.cell? ⟨l.sb, 1, none⟩ = some (.slice l.oa q l.oc) ∧ (ansW V1 (w.heap.size + 1) p q0 r t u x).drew.cell? ⟨l.sb, 3, none⟩ = some (.int .u8 (ec : Int))) := fun p q0 r t u x => (by
      have hV := HKm.out V1 (Below.refl _ _)
      have hA := ansW_only V1 (w.heap.size + 1) p q0 r t u x
      generalize ansW V1 (w.heap.size + 1) p q0 r t u x = Y at hA
      exact ⟨(Only.cell hA (by omega)).trans hV.1, (Only.cell hA (by omega)).trans hV.2⟩)
    unfold ansW at HKs
    have hbd1 : Below V1.heap.size V1 V1.drew := (Below.refl _ _).drew
    have HB0 : Hid (Below V1.heap.size V1 V1.drew) := hbd1
    have hres := hS1.res HP.out
    have HRes : Hid (Res V1 (w.heap.size + 1)) := hres
    have HF : Hid (StM B w l s o (.returned (ansV 0 0 q 0 none 0 0 ec)) (ansW V1 (w.heap.size + 1) (.int .u32 ((0 : Nat) : Int)) (.int .u32 ((0 : Nat) : Int)) (.int .u64 (q : Int)) (.int .u64 ((0 : Nat) : Int)) (.slice none 0 0) (.int .u8 (ec : Int))).drew) := (StM.mk0 hS1 HP.out (by rw [HZS.out, ← hq, ← hec]; rfl)).drew
    obtain ⟨r0, r1, r2, r3, r4, r5, rf⟩ := (hS1.res HP.out).cells
    clear hres hbd1 hS1 hlt hql hq hec HZS
    go_upto_region 68 with fail
    go_region_held3 (fun w' => w'.cell? ⟨l.sb, 1, none⟩ = some (.slice l.oa q l.oc) ∧ w'.cell? ⟨l.sb, 3, none⟩ = some (.int .u8 (ec : Int)))
      (first | with_reducible exact HKm.out _ HB0.out | with_reducible exact HKs.out _ _ _ _ _ _)
      (fail)
    go_wp2
    exact retStepMd rfl rfl HRes.out HF.out
end Go.Proofs.Qxb6500698aGreatDoor
