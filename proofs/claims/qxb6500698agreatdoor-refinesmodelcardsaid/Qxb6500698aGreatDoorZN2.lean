/-
  THE STEPS OF THE MODEL: KPut, KSealCRC, KSealFletcher.
-/
import Derived.Test.Qxb6500698aGreatDoorZN1
import Derived.Deep.RegionHeld3
namespace Go.Proofs.Qxb6500698aGreatDoor
open Go.RowKit

theorem zput_fld {O : List Nat} {lim v : Nat} {n : Int} : zput O lim none v n = wwrite O lim (cf v n) (fld v n) := by
  unfold zput fld
  rw [if_pos rfl]
  cases h : cf v n with
  | none => rw [if_pos rfl]
  | some i => simp [wwrite]

set_option maxRecDepth 100000 in
set_option maxHeartbeats 2000000 in
theorem zm5 {B : Nat} {w : World} {l : Ml} {s : ZSt} {o : OpD} (h : InN B w l s o) (h0 : o.kind = 5) :
    Calls Tryz.prog 9 #[.pointer (some ⟨l.sb, 0, none⟩), opV o] w (StM B w l s o) := by
  obtain ⟨W, hW⟩ : ∃ W, (w.alloc (opB o)).alloc ans0 = W := ⟨_, rfl⟩
  have hP := proM h hW
  have c0 : W.cell? ⟨w.heap.size, 0, none⟩ = some (.int .u8 (o.kind : Int)) := hP.cell 0
  have c4 : W.cell? ⟨w.heap.size, 4, none⟩ = some (.int .u64 (o.v : Int)) := hP.cell 4
  have c5 : W.cell? ⟨w.heap.size, 5, none⟩ = some (.int .i64 o.width) := hP.cell 5
  have m3 : W.cell? ⟨l.sb, 3, none⟩ = some (.int .u8 (errCode s.oe : Int)) := hP.zm.cell 3
  have mf3 := hP.zm.fr 3
  have b0 : ((o.kind : Int) == 0) = false := by simp; omega
  have b1 : ((o.kind : Int) == 1) = false := by simp; omega
  have b2 : ((o.kind : Int) == 2) = false := by simp; omega
  have b3 : ((o.kind : Int) == 3) = false := by simp; omega
  have b4 : ((o.kind : Int) == 4) = false := by simp; omega
  have b5 : ((o.kind : Int) == 5) = true := by simp; omega
  have HP : Hid (ProM B w W l s o) := hP
  have hbd : Below W.heap.size W W.drew := (Below.refl _ _).drew
  have hBW : B ≤ W.heap.size := by have h1 := hP.Bw; have h2 := hP.sz; omega
  have hz : zstep s o = (zwr s (zput s.O s.lim s.oe o.v o.width), wroteA (zwr s (zput s.O s.lim s.oe o.v o.width))) := by
    unfold zstep
    rw [if_neg (by omega), if_neg (by omega), if_neg (by omega), if_neg (by omega), if_neg (by omega), if_pos h0]
  obtain ⟨S1, hS1e⟩ : ∃ S1, zwr s (zput s.O s.lim s.oe o.v o.width) = S1 := ⟨_, rfl⟩
  rw [hS1e] at hz
  have HZS : Hid (zstep s o = (S1, wroteA S1)) := hz
  have hz0 := errCode_zero (x := s.oe)
  by_cases hoe : s.oe = none
  · rw [decide_eq_true hoe] at hz0
    have HFi : Hid (Calls Tryz.prog 41 #[.int .u64 o.v, .int .i64 o.width] W fun r w' => ∃ a c, r = .returned (.tuple #[.slice a (fld o.v o.width).length c, .int .u8 (errCode (cf o.v o.width) : Int)]) ∧ BRow w' a (fld o.v o.width) ∧ (fld o.v o.width).length ≤ c ∧ (∀ b o, a = some ⟨b, o, none⟩ → W.heap.size ≤ b) ∧ Below W.heap.size W w') := field_any o.v o.width W h.op.hw.1 h.op.hw.2 h.op.hv
    have HWr : Hid (∀ V a c, BRow V a (fld o.v o.width) → (∀ b o, a = some ⟨b, o, none⟩ → W.heap.size ≤ b) → Below W.heap.size W V → V.cell? ⟨l.sb, 3, none⟩ = some (.int .u8 (errCode s.oe : Int)) ∧ V.frozen? ⟨l.sb, 3, none⟩ = false ∧ Calls Tryz.prog 42 #[.pointer (some ⟨l.sb, 0, none⟩), .slice a (fld o.v o.width).length c] (V.setCell ⟨l.sb, 3, none⟩ (.int .u8 (errCode (cf o.v o.width) : Int))) fun r w' => r = .returned (.tuple #[]) ∧ ∃ ya yc, MSt B W w' l { l with oa := ya, oc := yc } s S1) := fun V a c h1 h2 h3 => by
      have hZ := hP.zm.below h3
      have hS := (MSt.start hP.zm h3).trans (hZ.oe (cf o.v o.width))
      have hO : Only l.sb V (V.setCell ⟨l.sb, 3, none⟩ (.int .u8 (errCode (cf o.v o.width) : Int))) := (Only.refl _ _).setCell _ _
      have hlt := hP.zm.lt
      refine ⟨hZ.cell 3, hZ.fr 3, (mwrite_any hS.zm (Nat.le_trans hBW hS.chg.size) (brow_keep h1 (fun h0 b o he => hO.block b (by have := h2 b o he; omega))) ?_).mono ?_⟩
      · unfold fld
        split
        · rename_i hc
          rw [dig_length]
          unfold cf at hc
          split at hc
          · rename_i h4
            obtain ⟨k, hk, hk2⟩ := okW_nat h4
            omega
          · cases hc
        · exact Nat.zero_le _
      · rintro r w' ⟨h4, ya, yc, h5⟩
        refine ⟨h4, ya, yc, hS.trans ?_⟩
        rw [← hS1e, hoe, zput_fld]
        exact h5
    generalize hec0 : errCode s.oe = ec0 at *
    generalize hec1 : errCode (cf o.v o.width) = ec1 at *
    generalize hfl : (fld o.v o.width).length = fl at *
    clear hz hbd hS1e hBW hoe hec0 hec1 hfl
    unfold opB ans0 at hW
    unfold opV
    clear h hP h0
    go_enter Tryz.func9, Tryz.ntmps9
    go_wp2_with fail
    refine Calls.mono HFi.out ?_
    rintro r V0 ⟨a, c, rfl, h1, _, h2, h3⟩
    obtain ⟨k1, k2, k3⟩ := HWr.out V0 a c h1 h2 h3
    have HW1 : Hid _ := k3
    clear k3 h1 h2 h3 HWr HFi hW m3 mf3
    go_wp2_with fail
    refine Calls.mono HW1.out ?_
    rintro r V1 ⟨rfl, ya, yc, hS1⟩
    clear HW1 k1 k2
    obtain ⟨q, hq⟩ : ∃ q, (S1).O.length = q := ⟨_, rfl⟩
    obtain ⟨ec, hec⟩ : ∃ ec, errCode (S1).oe = ec := ⟨_, rfl⟩
    have hql : q ≤ 1024 := by have h1 := hS1.zm.ol; have h2 := hS1.zm.lim; omega
    have hwq : IntKind.u64.wrap (q : Int) = (q : Int) := by simp [IntKind.wrap, IntKind.bits, IntKind.signed]; omega
    have HKm : Hid (∀ V, Below V1.heap.size V1 V → V.cell? ⟨l.sb, 1, none⟩ = some (.slice ya q yc) ∧ V.cell? ⟨l.sb, 3, none⟩ = some (.int .u8 (ec : Int))) := fun V hV => ⟨by rw [← hq]; exact (hS1.zm.below hV).cell 1, by rw [← hec]; exact (hS1.zm.below hV).cell 3⟩
    have hlt := HP.out.z0.lt
    have HKs : Hid (∀ p q0 r t u x, (ansW V1 (w.heap.size + 1) p q0 r t u x).drew.cell? ⟨l.sb, 1, none⟩ = some (.slice ya q yc) ∧ (ansW V1 (w.heap.size + 1) p q0 r t u x).drew.cell? ⟨l.sb, 3, none⟩ = some (.int .u8 (ec : Int))) := fun p q0 r t u x => (by
      have hV := HKm.out V1 (Below.refl _ _)
      have hA := ansW_only V1 (w.heap.size + 1) p q0 r t u x
      generalize ansW V1 (w.heap.size + 1) p q0 r t u x = Y at hA
      exact ⟨(Only.cell hA (by omega)).trans hV.1, (Only.cell hA (by omega)).trans hV.2⟩)
    unfold ansW at HKs
    have hbd1 : Below V1.heap.size V1 V1.drew := (Below.refl _ _).drew
    have HB0 : Hid (Below V1.heap.size V1 V1.drew) := hbd1
    have hres := hS1.res HP.out
    have HRes : Hid (Res V1 (w.heap.size + 1)) := hres
    have HF : Hid (StM B w l s o (.returned (ansV 0 0 q 0 none 0 0 ec)) (ansW V1 (w.heap.size + 1) (.int .u32 ((0 : Nat) : Int)) (.int .u32 ((0 : Nat) : Int)) (.int .u64 (q : Int)) (.int .u64 ((0 : Nat) : Int)) (.slice none 0 0) (.int .u8 (ec : Int))).drew) := (StM.mk0 hS1 HP.out (by rw [HZS.out, ← hq, ← hec]; rfl)).drew
    obtain ⟨r0, r1, r2, r3, r4, r5, rf⟩ := (hS1.res HP.out).cells
    clear hres hbd1 hS1 hlt hql hq hec HZS
    go_upto_region 68 with fail
    go_region_held3 (fun w' => w'.cell? ⟨l.sb, 1, none⟩ = some (.slice ya q yc) ∧ w'.cell? ⟨l.sb, 3, none⟩ = some (.int .u8 (ec : Int)))
      (first | with_reducible exact HKm.out _ HB0.out | with_reducible exact HKs.out _ _ _ _ _ _)
      (fail)
    go_wp2
    exact retStepMd rfl rfl HRes.out HF.out

  · rw [decide_eq_false hoe] at hz0
    have hSe : S1 = s := by rw [← hS1e]; unfold zput zwr; rw [if_neg hoe]
    have HS00 : Hid (MSt B W W l l s S1) := by show MSt B W W l l s S1; rw [hSe]; exact MSt.refl hP.zm
    generalize hec0 : errCode s.oe = ec0 at *
    clear hz hbd hS1e hBW hoe hec0 hSe
    unfold opB ans0 at hW
    unfold opV
    clear h hP h0
    go_enter Tryz.func9, Tryz.ntmps9
    go_upto_region 68 with fail
    have hS1 := HS00.out
    clear HS00
    obtain ⟨V1, hV1⟩ : ∃ V1, V1 = W := ⟨_, rfl⟩
    rw [← hV1]
    have hS1' : MSt B W V1 l l s S1 := by rw [hV1]; exact hS1
    clear hS1 m3 mf3
    have hS1 := hS1'
    clear hS1' hV1 hW c0 c4 c5
    obtain ⟨q, hq⟩ : ∃ q, (S1).O.length = q := ⟨_, rfl⟩
    obtain ⟨ec, hec⟩ : ∃ ec, errCode (S1).oe = ec := ⟨_, rfl⟩
    have hql : q ≤ 1024 := by have h1 := hS1.zm.ol; have h2 := hS1.zm.lim; omega
    have hwq : IntKind.u64.wrap (q : Int) = (q : Int) := by simp [IntKind.wrap, IntKind.bits, IntKind.signed]; omega
    have HKm : Hid (∀ V, Below V1.heap.size V1 V → V.cell? ⟨l.sb, 1, none⟩ = some (.slice l.oa q l.oc) ∧ V.cell? ⟨l.sb, 3, none⟩ = some (.int .u8 (ec : Int))) := fun V hV => ⟨by rw [← hq]; exact (hS1.zm.below hV).cell 1, by rw [← hec]; exact (hS1.zm.below hV).cell 3⟩
    have hlt := HP.out.z0.lt
    have HKs : Hid (∀ p q0 r t u x, (ansW V1 (w.heap.size + 1) p q0 r t u x).drew.cell? ⟨l.sb, 1, none⟩ = some (.slice l.oa q l.oc) ∧ (ansW V1 (w.heap.size + 1) p q0 r t u x).drew.cell? ⟨l.sb, 3, none⟩ = some (.int .u8 (ec : Int))) := fun p q0 r t u x => (by
      have hV := HKm.out V1 (Below.refl _ _)
      have hA := ansW_only V1 (w.heap.size + 1) p q0 r t u x
      generalize ansW V1 (w.heap.size + 1) p q0 r t u x = Y at hA
      exact ⟨(Only.cell hA (by omega)).trans hV.1, (Only.cell hA (by omega)).trans hV.2⟩)
    unfold ansW at HKs
    have hbd1 : Below V1.heap.size V1 V1.drew := (Below.refl _ _).drew
    have HB0 : Hid (Below V1.heap.size V1 V1.drew) := hbd1
    have hres := hS1.res HP.out
    have HRes : Hid (Res V1 (w.heap.size + 1)) := hres
    have HF : Hid (StM B w l s o (.returned (ansV 0 0 q 0 none 0 0 ec)) (ansW V1 (w.heap.size + 1) (.int .u32 ((0 : Nat) : Int)) (.int .u32 ((0 : Nat) : Int)) (.int .u64 (q : Int)) (.int .u64 ((0 : Nat) : Int)) (.slice none 0 0) (.int .u8 (ec : Int))).drew) := (StM.mk0 hS1 HP.out (by rw [HZS.out, ← hq, ← hec]; rfl)).drew
    obtain ⟨r0, r1, r2, r3, r4, r5, rf⟩ := (hS1.res HP.out).cells
    clear hres hbd1 hS1 hlt hql hq hec HZS
    go_upto_region 68 with fail
    go_region_held3 (fun w' => w'.cell? ⟨l.sb, 1, none⟩ = some (.slice l.oa q l.oc) ∧ w'.cell? ⟨l.sb, 3, none⟩ = some (.int .u8 (ec : Int)))
      (first | with_reducible exact HKm.out _ HB0.out | with_reducible exact HKs.out _ _ _ _ _ _)
      (fail)
    go_wp2
    exact retStepMd rfl rfl HRes.out HF.out

set_option maxRecDepth 100000 in
set_option maxHeartbeats 2000000 in
theorem zm8 {B : Nat} {w : World} {l : Ml} {s : ZSt} {o : OpD} (h : InN B w l s o) (h0 : o.kind = 8) :
    Calls Tryz.prog 9 #[.pointer (some ⟨l.sb, 0, none⟩), opV o] w (StM B w l s o) := by
  obtain ⟨W, hW⟩ : ∃ W, (w.alloc (opB o)).alloc ans0 = W := ⟨_, rfl⟩
  have hP := proM h hW
  have c0 : W.cell? ⟨w.heap.size, 0, none⟩ = some (.int .u8 (o.kind : Int)) := hP.cell 0
  have m1 : W.cell? ⟨l.sb, 1, none⟩ = some (.slice l.oa s.O.length l.oc) := hP.zm.cell 1
  have mf1 := hP.zm.fr 1
  have b0 : ((o.kind : Int) == 0) = false := by simp; omega
  have b1 : ((o.kind : Int) == 1) = false := by simp; omega
  have b2 : ((o.kind : Int) == 2) = false := by simp; omega
  have b3 : ((o.kind : Int) == 3) = false := by simp; omega
  have b4 : ((o.kind : Int) == 4) = false := by simp; omega
  have b5 : ((o.kind : Int) == 5) = false := by simp; omega
  have b6 : ((o.kind : Int) == 6) = false := by simp; omega
  have b7 : ((o.kind : Int) == 7) = false := by simp; omega
  have b8 : ((o.kind : Int) == 8) = true := by simp; omega
  have HP : Hid (ProM B w W l s o) := hP
  have hbd : Below W.heap.size W W.drew := (Below.refl _ _).drew
  have hBW : B ≤ W.heap.size := by have h1 := hP.Bw; have h2 := hP.sz; omega
  have hz : zstep s o = (zwr s (wwrite s.O s.lim s.oe (dig (Crc.crc s.O) 4)), wroteA (zwr s (wwrite s.O s.lim s.oe (dig (Crc.crc s.O) 4)))) := by
    unfold zstep
    rw [if_neg (by omega), if_neg (by omega), if_neg (by omega), if_neg (by omega), if_neg (by omega), if_neg (by omega), if_neg (by omega), if_neg (by omega), if_pos h0]
  obtain ⟨S1, hS1e⟩ : ∃ S1, zwr s (wwrite s.O s.lim s.oe (dig (Crc.crc s.O) 4)) = S1 := ⟨_, rfl⟩
  rw [hS1e] at hz
  have HZS : Hid (zstep s o = (S1, wroteA S1)) := hz
  have hol := hP.zm.ol
  have hlm := hP.zm.lim
  have HSu : Hid (Calls Tryz.prog 39 #[.slice l.oa s.O.length l.oc] W fun r w' => r = .returned (.int .u32 (Crc.crc s.O : Int)) ∧ w' = W) := modelCrc_any s.O l.oc l.oa W (by omega) hP.zm.rowO.1
  have hsl : Crc.crc s.O < 4294967296 := Crc.upd_lt _ (by decide) hP.zm.ob
  have hwu : IntKind.u64.wrap ((Crc.crc s.O : Nat) : Int) = ((Crc.crc s.O : Nat) : Int) := by simp [IntKind.wrap, IntKind.bits, IntKind.signed]; omega
  have HDg : Hid (Calls Tryz.prog 43 #[.int .u64 (Crc.crc s.O : Int), .int .i64 (4 : Int)] W fun r w' => ∃ a c v, r = .returned (.tuple #[.slice a 4 c, .bool v]) ∧ BRow w' a (dig (Crc.crc s.O) 4) ∧ Below W.heap.size W w') := (digits_any (Crc.crc s.O) 4 W (by omega) (by omega)).mono (fun r w' ⟨v', h3, h4, h5⟩ => by
    obtain ⟨ya, yc, hy, hc1, hc2, hyr, hyb, _⟩ := BRow.of_owns h4 (dig_lt _ _)
    rw [dig_length] at hy
    exact ⟨ya, yc, _, by rw [h3, hy], hyr, h5⟩)
  have HWr : Hid (∀ V a c, BRow V a (dig (Crc.crc s.O) 4) → Below W.heap.size W V → Calls Tryz.prog 42 #[.pointer (some ⟨l.sb, 0, none⟩), .slice a 4 c] V fun r w' => r = .returned (.tuple #[]) ∧ ∃ ya yc, MSt B W w' l { l with oa := ya, oc := yc } s S1) := fun V a c h1 h2 => by
    rw [← hS1e]
    have h3 := mwrite_any (c := c) (hP.zm.below h2) (Nat.le_trans hBW h2.size) h1 (by rw [dig_length]; omega)
    rw [dig_length] at h3
    exact h3.mono (fun r w' ⟨h4, ya, yc, h5⟩ => ⟨h4, ya, yc, (MSt.start hP.zm h2).trans h5⟩)
  generalize hsu : Crc.crc s.O = su at *
  clear hz hbd hS1e hBW hsu hol hlm
  unfold opB ans0 at hW
  unfold opV
  clear h hP h0
  go_enter Tryz.func9, Tryz.ntmps9
  go_wp2_with fail
  refine Calls.mono HSu.out ?_
  rintro r w9 ⟨rfl, hw⟩
  rw [hw]
  clear hw w9 HSu
  go_wp2_with fail
  refine Calls.mono HDg.out ?_
  rintro r V0 ⟨a, c, v, rfl, h1, h2⟩
  have HW1 : Hid _ := HWr.out V0 a c h1 h2
  clear h1 h2 HWr HDg hW m1 mf1
  go_wp2_with fail
  refine Calls.mono HW1.out ?_
  rintro r V1 ⟨rfl, ya, yc, hS1⟩
  clear HW1
  obtain ⟨q, hq⟩ : ∃ q, (S1).O.length = q := ⟨_, rfl⟩
  obtain ⟨ec, hec⟩ : ∃ ec, errCode (S1).oe = ec := ⟨_, rfl⟩
  have hql : q ≤ 1024 := by have h1 := hS1.zm.ol; have h2 := hS1.zm.lim; omega
  have hwq : IntKind.u64.wrap (q : Int) = (q : Int) := by simp [IntKind.wrap, IntKind.bits, IntKind.signed]; omega
  have HKm : Hid (∀ V, Below V1.heap.size V1 V → V.cell? ⟨l.sb, 1, none⟩ = some (.slice ya q yc) ∧ V.cell? ⟨l.sb, 3, none⟩ = some (.int .u8 (ec : Int))) := fun V hV => ⟨by rw [← hq]; exact (hS1.zm.below hV).cell 1, by rw [← hec]; exact (hS1.zm.below hV).cell 3⟩
  have hlt := HP.out.z0.lt
  have HKs : Hid (∀ p q0 r t u x, (ansW V1 (w.heap.size + 1) p q0 r t u x).drew.cell? ⟨l.sb, 1, none⟩ = some (.slice ya q yc) ∧ (ansW V1 (w.heap.size + 1) p q0 r t u x).drew.cell? ⟨l.sb, 3, none⟩ = some (.int .u8 (ec : Int))) := fun p q0 r t u x => (by
    have hV := HKm.out V1 (Below.refl _ _)
    have hA := ansW_only V1 (w.heap.size + 1) p q0 r t u x
    generalize ansW V1 (w.heap.size + 1) p q0 r t u x = Y at hA
    exact ⟨(Only.cell hA (by omega)).trans hV.1, (Only.cell hA (by omega)).trans hV.2⟩)
  unfold ansW at HKs
  have hbd1 : Below V1.heap.size V1 V1.drew := (Below.refl _ _).drew
  have HB0 : Hid (Below V1.heap.size V1 V1.drew) := hbd1
  have hres := hS1.res HP.out
  have HRes : Hid (Res V1 (w.heap.size + 1)) := hres
  have HF : Hid (StM B w l s o (.returned (ansV 0 0 q 0 none 0 0 ec)) (ansW V1 (w.heap.size + 1) (.int .u32 ((0 : Nat) : Int)) (.int .u32 ((0 : Nat) : Int)) (.int .u64 (q : Int)) (.int .u64 ((0 : Nat) : Int)) (.slice none 0 0) (.int .u8 (ec : Int))).drew) := (StM.mk0 hS1 HP.out (by rw [HZS.out, ← hq, ← hec]; rfl)).drew
  obtain ⟨r0, r1, r2, r3, r4, r5, rf⟩ := (hS1.res HP.out).cells
  clear hres hbd1 hS1 hlt hql hq hec HZS
  go_upto_region 68 with fail
  go_region_held3 (fun w' => w'.cell? ⟨l.sb, 1, none⟩ = some (.slice ya q yc) ∧ w'.cell? ⟨l.sb, 3, none⟩ = some (.int .u8 (ec : Int)))
    (first | with_reducible exact HKm.out _ HB0.out | with_reducible exact HKs.out _ _ _ _ _ _)
    (fail)
  go_wp2
  exact retStepMd rfl rfl HRes.out HF.out

set_option maxRecDepth 100000 in
set_option maxHeartbeats 2000000 in
theorem zm9 {B : Nat} {w : World} {l : Ml} {s : ZSt} {o : OpD} (h : InN B w l s o) (h0 : o.kind = 9) :
    Calls Tryz.prog 9 #[.pointer (some ⟨l.sb, 0, none⟩), opV o] w (StM B w l s o) := by
  obtain ⟨W, hW⟩ : ∃ W, (w.alloc (opB o)).alloc ans0 = W := ⟨_, rfl⟩
  have hP := proM h hW
  have c0 : W.cell? ⟨w.heap.size, 0, none⟩ = some (.int .u8 (o.kind : Int)) := hP.cell 0
  have m1 : W.cell? ⟨l.sb, 1, none⟩ = some (.slice l.oa s.O.length l.oc) := hP.zm.cell 1
  have mf1 := hP.zm.fr 1
  have b0 : ((o.kind : Int) == 0) = false := by simp; omega
  have b1 : ((o.kind : Int) == 1) = false := by simp; omega
  have b2 : ((o.kind : Int) == 2) = false := by simp; omega
  have b3 : ((o.kind : Int) == 3) = false := by simp; omega
  have b4 : ((o.kind : Int) == 4) = false := by simp; omega
  have b5 : ((o.kind : Int) == 5) = false := by simp; omega
  have b6 : ((o.kind : Int) == 6) = false := by simp; omega
  have b7 : ((o.kind : Int) == 7) = false := by simp; omega
  have b8 : ((o.kind : Int) == 8) = false := by simp; omega
  have b9 : ((o.kind : Int) == 9) = true := by simp; omega
  have HP : Hid (ProM B w W l s o) := hP
  have hbd : Below W.heap.size W W.drew := (Below.refl _ _).drew
  have hBW : B ≤ W.heap.size := by have h1 := hP.Bw; have h2 := hP.sz; omega
  have hz : zstep s o = (zwr s (wwrite s.O s.lim s.oe (dig (Flt.fl s.O) 4)), wroteA (zwr s (wwrite s.O s.lim s.oe (dig (Flt.fl s.O) 4)))) := by
    unfold zstep
    rw [if_neg (by omega), if_neg (by omega), if_neg (by omega), if_neg (by omega), if_neg (by omega), if_neg (by omega), if_neg (by omega), if_neg (by omega), if_neg (by omega), if_pos h0]
  obtain ⟨S1, hS1e⟩ : ∃ S1, zwr s (wwrite s.O s.lim s.oe (dig (Flt.fl s.O) 4)) = S1 := ⟨_, rfl⟩
  rw [hS1e] at hz
  have HZS : Hid (zstep s o = (S1, wroteA S1)) := hz
  have hol := hP.zm.ol
  have hlm := hP.zm.lim
  have HSu : Hid (Calls Tryz.prog 40 #[.slice l.oa s.O.length l.oc] W fun r w' => r = .returned (.int .u32 (Flt.fl s.O : Int)) ∧ w' = W) := modelFlt_any s.O l.oc l.oa W (by omega) hP.zm.rowO.1
  have hsl : Flt.fl s.O < 4294967296 := Flt.fl_lt _
  have hwu : IntKind.u64.wrap ((Flt.fl s.O : Nat) : Int) = ((Flt.fl s.O : Nat) : Int) := by simp [IntKind.wrap, IntKind.bits, IntKind.signed]; omega
  have HDg : Hid (Calls Tryz.prog 43 #[.int .u64 (Flt.fl s.O : Int), .int .i64 (4 : Int)] W fun r w' => ∃ a c v, r = .returned (.tuple #[.slice a 4 c, .bool v]) ∧ BRow w' a (dig (Flt.fl s.O) 4) ∧ Below W.heap.size W w') := (digits_any (Flt.fl s.O) 4 W (by omega) (by omega)).mono (fun r w' ⟨v', h3, h4, h5⟩ => by
    obtain ⟨ya, yc, hy, hc1, hc2, hyr, hyb, _⟩ := BRow.of_owns h4 (dig_lt _ _)
    rw [dig_length] at hy
    exact ⟨ya, yc, _, by rw [h3, hy], hyr, h5⟩)
  have HWr : Hid (∀ V a c, BRow V a (dig (Flt.fl s.O) 4) → Below W.heap.size W V → Calls Tryz.prog 42 #[.pointer (some ⟨l.sb, 0, none⟩), .slice a 4 c] V fun r w' => r = .returned (.tuple #[]) ∧ ∃ ya yc, MSt B W w' l { l with oa := ya, oc := yc } s S1) := fun V a c h1 h2 => by
    rw [← hS1e]
    have h3 := mwrite_any (c := c) (hP.zm.below h2) (Nat.le_trans hBW h2.size) h1 (by rw [dig_length]; omega)
    rw [dig_length] at h3
    exact h3.mono (fun r w' ⟨h4, ya, yc, h5⟩ => ⟨h4, ya, yc, (MSt.start hP.zm h2).trans h5⟩)
  generalize hsu : Flt.fl s.O = su at *
  clear hz hbd hS1e hBW hsu hol hlm
  unfold opB ans0 at hW
  unfold opV
  clear h hP h0
  go_enter Tryz.func9, Tryz.ntmps9
  go_wp2_with fail
  refine Calls.mono HSu.out ?_
  rintro r w9 ⟨rfl, hw⟩
  rw [hw]
  clear hw w9 HSu
  go_wp2_with fail
  refine Calls.mono HDg.out ?_
  rintro r V0 ⟨a, c, v, rfl, h1, h2⟩
  have HW1 : Hid _ := HWr.out V0 a c h1 h2
  clear h1 h2 HWr HDg hW m1 mf1
  go_wp2_with fail
  refine Calls.mono HW1.out ?_
  rintro r V1 ⟨rfl, ya, yc, hS1⟩
  clear HW1
  obtain ⟨q, hq⟩ : ∃ q, (S1).O.length = q := ⟨_, rfl⟩
  obtain ⟨ec, hec⟩ : ∃ ec, errCode (S1).oe = ec := ⟨_, rfl⟩
  have hql : q ≤ 1024 := by have h1 := hS1.zm.ol; have h2 := hS1.zm.lim; omega
  have hwq : IntKind.u64.wrap (q : Int) = (q : Int) := by simp [IntKind.wrap, IntKind.bits, IntKind.signed]; omega
  have HKm : Hid (∀ V, Below V1.heap.size V1 V → V.cell? ⟨l.sb, 1, none⟩ = some (.slice ya q yc) ∧ V.cell? ⟨l.sb, 3, none⟩ = some (.int .u8 (ec : Int))) := fun V hV => ⟨by rw [← hq]; exact (hS1.zm.below hV).cell 1, by rw [← hec]; exact (hS1.zm.below hV).cell 3⟩
  have hlt := HP.out.z0.lt
  have HKs : Hid (∀ p q0 r t u x, (ansW V1 (w.heap.size + 1) p q0 r t u x).drew.cell? ⟨l.sb, 1, none⟩ = some (.slice ya q yc) ∧ (ansW V1 (w.heap.size + 1) p q0 r t u x).drew.cell? ⟨l.sb, 3, none⟩ = some (.int .u8 (ec : Int))) := fun p q0 r t u x => (by
    have hV := HKm.out V1 (Below.refl _ _)
    have hA := ansW_only V1 (w.heap.size + 1) p q0 r t u x
    generalize ansW V1 (w.heap.size + 1) p q0 r t u x = Y at hA
    exact ⟨(Only.cell hA (by omega)).trans hV.1, (Only.cell hA (by omega)).trans hV.2⟩)
  unfold ansW at HKs
  have hbd1 : Below V1.heap.size V1 V1.drew := (Below.refl _ _).drew
  have HB0 : Hid (Below V1.heap.size V1 V1.drew) := hbd1
  have hres := hS1.res HP.out
  have HRes : Hid (Res V1 (w.heap.size + 1)) := hres
  have HF : Hid (StM B w l s o (.returned (ansV 0 0 q 0 none 0 0 ec)) (ansW V1 (w.heap.size + 1) (.int .u32 ((0 : Nat) : Int)) (.int .u32 ((0 : Nat) : Int)) (.int .u64 (q : Int)) (.int .u64 ((0 : Nat) : Int)) (.slice none 0 0) (.int .u8 (ec : Int))).drew) := (StM.mk0 hS1 HP.out (by rw [HZS.out, ← hq, ← hec]; rfl)).drew
  obtain ⟨r0, r1, r2, r3, r4, r5, rf⟩ := (hS1.res HP.out).cells
  clear hres hbd1 hS1 hlt hql hq hec HZS
  go_upto_region 68 with fail
  go_region_held3 (fun w' => w'.cell? ⟨l.sb, 1, none⟩ = some (.slice ya q yc) ∧ w'.cell? ⟨l.sb, 3, none⟩ = some (.int .u8 (ec : Int)))
    (first | with_reducible exact HKm.out _ HB0.out | with_reducible exact HKs.out _ _ _ _ _ _)
    (fail)
  go_wp2
  exact retStepMd rfl rfl HRes.out HF.out
end Go.Proofs.Qxb6500698aGreatDoor
