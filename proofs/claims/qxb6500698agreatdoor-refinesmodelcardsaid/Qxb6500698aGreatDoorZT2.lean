/-
  THE STEPS OF THE REAL MACHINES: KPutRaw, KPatch, KSealCRC.
-/
import Derived.Test.Qxb6500698aGreatDoorZT1
import Derived.Deep.RegionHeld3
namespace Go.Proofs.Qxb6500698aGreatDoor
open Go.RowKit
/-- The step's box is as it was. -/
theorem RSt.opc {B : Nat} {w W V : World} {e : Nat → Addr} {l l' : Rl} {s s' : ZSt} {o : OpD} (h : RSt B W V e l l' s') (hP : Pro B w W e l s o) (h0 : ZR B w e l s) (i : Nat) : V.cell? ⟨w.heap.size, i, none⟩ = W.cell? ⟨w.heap.size, i, none⟩ := by
  have e1 : V.heap[w.heap.size]? = W.heap[w.heap.size]? := h.chg.block w.heap.size (by have := hP.sz; omega) (fun hx => by have := (h0.rlt w.heap.size hx).1; omega)
  exact World.cell?_of_block (a := ⟨w.heap.size, i, none⟩) e1

set_option maxRecDepth 100000 in
set_option maxHeartbeats 2000000 in
theorem zr6 {B : Nat} {w : World} {e : Nat → Addr} {l : Rl} {s : ZSt} {o : OpD} (h : InZ B w e l s o) (h0 : o.kind = 6) :
    Calls Tryz.prog 7 #[.pointer (some ⟨l.d, 0, none⟩), opV o] w (StR B w e l s o) := by
  obtain ⟨W, hW⟩ : ∃ W, (w.alloc (opB o)).alloc ans0 = W := ⟨_, rfl⟩
  have hP := pro h hW
  have c0 : W.cell? ⟨w.heap.size, 0, none⟩ = some (.int .u8 (o.kind : Int)) := hP.cell 0
  have c1 : W.cell? ⟨w.heap.size, 1, none⟩ = some (.slice o.da o.bs.length o.dc) := hP.cell 1
  have b0 : ((o.kind : Int) == 0) = false := by simp; omega
  have b1 : ((o.kind : Int) == 1) = false := by simp; omega
  have b2 : ((o.kind : Int) == 2) = false := by simp; omega
  have b3 : ((o.kind : Int) == 3) = false := by simp; omega
  have b4 : ((o.kind : Int) == 4) = false := by simp; omega
  have b5 : ((o.kind : Int) == 5) = false := by simp; omega
  have b6 : ((o.kind : Int) == 6) = true := by simp; omega
  have HP : Hid (Pro B w W e l s o) := hP
  have HZ : Hid (ZR B w e l s) := h.zr
  have hbd : Below W.heap.size W W.drew := (Below.refl _ _).drew
  have hz : zstep s o = (zwr s (wwrite s.O s.lim s.oe o.bs), wroteA (zwr s (wwrite s.O s.lim s.oe o.bs))) := by
    unfold zstep
    rw [if_neg (by omega), if_neg (by omega), if_neg (by omega), if_neg (by omega), if_neg (by omega), if_neg (by omega), if_pos h0]
  obtain ⟨S1, hS1e⟩ : ∃ S1, zwr s (wwrite s.O s.lim s.oe o.bs) = S1 := ⟨_, rfl⟩
  rw [hS1e] at hz
  have HZS : Hid (zstep s o = (S1, wroteA S1)) := hz
  have hBd : B ≤ W.drew.heap.size := by have h1 := hP.Bw; have h2 := hP.sz; show B ≤ W.heap.size; omega
  have HOp : Hid (Calls Tryz.prog 25 #[.pointer (some ⟨l.wb, 0, none⟩), .slice o.da o.bs.length o.dc] W.drew fun r w' => r = .returned (.tuple #[]) ∧ ∃ v', RSt B W w' e l { l with v := v' } S1) := by
    rw [← hS1e]
    have hZd := hP.zr.below hbd
    have hEd := (RSt.start hP.zr hbd).eb hP.zr hP.E
    refine (wraw_any hEd.E hZd.wr hBd o.da o.bs o.dc ((h.op.data.below hP.bel).below hbd) (by have := h.op.bl; omega)).mono ?_
    rintro r w' ⟨h1, h2⟩
    obtain ⟨v', h3⟩ := hZd.writer h2
    exact ⟨h1, v', (RSt.start hP.zr hbd).trans h3⟩
  have HKd : Hid (W.drew.cell? ⟨l.d, 7, none⟩ = some (.pointer (some ⟨l.wb, 0, none⟩)) ∧ W.drew.cell? ⟨w.heap.size, 1, none⟩ = some (.slice o.da o.bs.length o.dc)) := ⟨(hP.zr.below hbd).m7, (RSt.start hP.zr hbd).opc hP h.zr 1 |>.trans (hP.cell 1)⟩
  have HKv : Hid (∀ V v', RSt B W V e l { l with v := v' } S1 → V.cell? ⟨l.d, 7, none⟩ = some (.pointer (some ⟨l.wb, 0, none⟩)) ∧ V.cell? ⟨w.heap.size, 1, none⟩ = some (.slice o.da o.bs.length o.dc)) := fun V v' hS => ⟨hS.zr.m7, (hS.opc hP h.zr 1).trans (hP.cell 1)⟩
  clear hz hbd hS1e hBd
  unfold opB ans0 at hW
  unfold opV
  clear h hP h0
  go_enter Tryz.func7, Tryz.ntmps7
  go_upto_region 20 with fail
  clear hW
  go_region_held3 (fun w' => w'.cell? ⟨l.d, 7, none⟩ = some (.pointer (some ⟨l.wb, 0, none⟩)) ∧ w'.cell? ⟨w.heap.size, 1, none⟩ = some (.slice o.da o.bs.length o.dc))
    (first | with_reducible exact HKd.out | with_reducible exact HKx.out)
    (first
      | (go_at_call 25; refine HOp.out.mono ?_; rintro r V1 ⟨rfl, v', hS1⟩; have HS0 : Hid (RSt B W V1 e l { l with v := v' } S1) := hS1; have HKx : Hid (V1.cell? ⟨l.d, 7, none⟩ = some (.pointer (some ⟨l.wb, 0, none⟩)) ∧ V1.cell? ⟨w.heap.size, 1, none⟩ = some (.slice o.da o.bs.length o.dc)) := HKv.out V1 v' hS1; clear hS1))
  have hS1 := HS0.out
  clear HOp HKd HKv HKx HS0
  have HS1 : Hid (RSt B W V1 e l { l with v := v' } S1) := hS1
  have HWr : Hid (Calls Tryz.prog 29 #[.pointer (some ⟨l.d, 0, none⟩)] V1 fun r w' => r = .returned (ansV 0 0 (S1).O.length 0 none 0 0 (errCode (S1).oe)) ∧ Below V1.heap.size V1 w') := wrote_any (l := { l with v := v' }) (hS1.eb HP.out.zr HP.out.E).E hS1.zr
  clear hS1
  generalize hq : (S1).O.length = q at *
  generalize hec : errCode (S1).oe = ec at *
  go_wp2_with fail
  refine Calls.mono HWr.out ?_
  rintro r V2 ⟨rfl, hb2⟩
  have hS2 := HS1.out.below hb2
  have hres := hS2.res HP.out HZ.out
  have HF : Hid (StR B w e l s o (.returned (ansV 0 0 q 0 none 0 0 ec)) (ansW V2 (w.heap.size + 1) (.int .u32 ((0 : Nat) : Int)) (.int .u32 ((0 : Nat) : Int)) (.int .u64 (q : Int)) (.int .u64 ((0 : Nat) : Int)) (.slice none 0 0) (.int .u8 (ec : Int)))) := StR.mk0 hS2 HP.out HZ.out (by rw [HZS.out, ← hq, ← hec]; rfl)
  clear hS2 hb2 HWr HS1 HZS hq hec
  have HRes : Hid (Res V2 (w.heap.size + 1)) := hres
  obtain ⟨r0, r1, r2, r3, r4, r5, rf⟩ := hres.cells
  clear hres HP HZ
  go_wp2
  exact retStep rfl rfl HRes.out HF.out

set_option maxRecDepth 100000 in
set_option maxHeartbeats 2000000 in
theorem zr7 {B : Nat} {w : World} {e : Nat → Addr} {l : Rl} {s : ZSt} {o : OpD} (h : InZ B w e l s o) (h0 : o.kind = 7) :
    Calls Tryz.prog 7 #[.pointer (some ⟨l.d, 0, none⟩), opV o] w (StR B w e l s o) := by
  obtain ⟨W, hW⟩ : ∃ W, (w.alloc (opB o)).alloc ans0 = W := ⟨_, rfl⟩
  have hP := pro h hW
  have c0 : W.cell? ⟨w.heap.size, 0, none⟩ = some (.int .u8 (o.kind : Int)) := hP.cell 0
  have c3 : W.cell? ⟨w.heap.size, 3, none⟩ = some (.int .i64 o.n) := hP.cell 3
  have c4 : W.cell? ⟨w.heap.size, 4, none⟩ = some (.int .u64 (o.v : Int)) := hP.cell 4
  have c5 : W.cell? ⟨w.heap.size, 5, none⟩ = some (.int .i64 o.width) := hP.cell 5
  have b0 : ((o.kind : Int) == 0) = false := by simp; omega
  have b1 : ((o.kind : Int) == 1) = false := by simp; omega
  have b2 : ((o.kind : Int) == 2) = false := by simp; omega
  have b3 : ((o.kind : Int) == 3) = false := by simp; omega
  have b4 : ((o.kind : Int) == 4) = false := by simp; omega
  have b5 : ((o.kind : Int) == 5) = false := by simp; omega
  have b6 : ((o.kind : Int) == 6) = false := by simp; omega
  have b7 : ((o.kind : Int) == 7) = true := by simp; omega
  have HP : Hid (Pro B w W e l s o) := hP
  have HZ : Hid (ZR B w e l s) := h.zr
  have hbd : Below W.heap.size W W.drew := (Below.refl _ _).drew
  have hz : zstep s o = (zwr s (zpatch s.O s.oe o.n o.v o.width), wroteA (zwr s (zpatch s.O s.oe o.n o.v o.width))) := by
    unfold zstep
    rw [if_neg (by omega), if_neg (by omega), if_neg (by omega), if_neg (by omega), if_neg (by omega), if_neg (by omega), if_neg (by omega), if_pos h0]
  obtain ⟨S1, hS1e⟩ : ∃ S1, zwr s (zpatch s.O s.oe o.n o.v o.width) = S1 := ⟨_, rfl⟩
  rw [hS1e] at hz
  have HZS : Hid (zstep s o = (S1, wroteA S1)) := hz
  have hBd : B ≤ W.drew.heap.size := by have h1 := hP.Bw; have h2 := hP.sz; show B ≤ W.heap.size; omega
  have HOp : Hid (Calls Tryz.prog 26 #[.pointer (some ⟨l.wb, 0, none⟩), .int .i64 o.n, .int .u64 (o.v : Int), .int .i64 o.width] W.drew fun r w' => r = .returned (.tuple #[]) ∧ ∃ v', RSt B W w' e l { l with v := v' } S1) := by
    rw [← hS1e]
    have hZd := hP.zr.below hbd
    have hEd := (RSt.start hP.zr hbd).eb hP.zr hP.E
    refine (wpatch_any o.n o.v o.width h.op.hv h.op.hw.1 h.op.hw.2 h.op.hn.1 h.op.hn.2 hEd hZd.wr).mono ?_
    rintro r w' ⟨h1, h2⟩
    obtain ⟨v', h3⟩ := hZd.writer h2
    exact ⟨h1, v', (RSt.start hP.zr hbd).trans h3⟩
  have HKd : Hid (W.drew.cell? ⟨l.d, 7, none⟩ = some (.pointer (some ⟨l.wb, 0, none⟩)) ∧ W.drew.cell? ⟨w.heap.size, 3, none⟩ = some (.int .i64 o.n) ∧ W.drew.cell? ⟨w.heap.size, 4, none⟩ = some (.int .u64 (o.v : Int)) ∧ W.drew.cell? ⟨w.heap.size, 5, none⟩ = some (.int .i64 o.width)) := ⟨(hP.zr.below hbd).m7, (RSt.start hP.zr hbd).opc hP h.zr 3 |>.trans (hP.cell 3), (RSt.start hP.zr hbd).opc hP h.zr 4 |>.trans (hP.cell 4), (RSt.start hP.zr hbd).opc hP h.zr 5 |>.trans (hP.cell 5)⟩
  have HKv : Hid (∀ V v', RSt B W V e l { l with v := v' } S1 → V.cell? ⟨l.d, 7, none⟩ = some (.pointer (some ⟨l.wb, 0, none⟩)) ∧ V.cell? ⟨w.heap.size, 3, none⟩ = some (.int .i64 o.n) ∧ V.cell? ⟨w.heap.size, 4, none⟩ = some (.int .u64 (o.v : Int)) ∧ V.cell? ⟨w.heap.size, 5, none⟩ = some (.int .i64 o.width)) := fun V v' hS => ⟨hS.zr.m7, (hS.opc hP h.zr 3).trans (hP.cell 3), (hS.opc hP h.zr 4).trans (hP.cell 4), (hS.opc hP h.zr 5).trans (hP.cell 5)⟩
  clear hz hbd hS1e hBd
  unfold opB ans0 at hW
  unfold opV
  clear h hP h0
  go_enter Tryz.func7, Tryz.ntmps7
  go_upto_region 22 with fail
  clear hW
  go_region_held3 (fun w' => w'.cell? ⟨l.d, 7, none⟩ = some (.pointer (some ⟨l.wb, 0, none⟩)) ∧ w'.cell? ⟨w.heap.size, 3, none⟩ = some (.int .i64 o.n) ∧ w'.cell? ⟨w.heap.size, 4, none⟩ = some (.int .u64 (o.v : Int)) ∧ w'.cell? ⟨w.heap.size, 5, none⟩ = some (.int .i64 o.width))
    (first | with_reducible exact HKd.out | with_reducible exact HKx.out)
    (first
      | (go_at_call 26; refine HOp.out.mono ?_; rintro r V1 ⟨rfl, v', hS1⟩; have HS0 : Hid (RSt B W V1 e l { l with v := v' } S1) := hS1; have HKx : Hid (V1.cell? ⟨l.d, 7, none⟩ = some (.pointer (some ⟨l.wb, 0, none⟩)) ∧ V1.cell? ⟨w.heap.size, 3, none⟩ = some (.int .i64 o.n) ∧ V1.cell? ⟨w.heap.size, 4, none⟩ = some (.int .u64 (o.v : Int)) ∧ V1.cell? ⟨w.heap.size, 5, none⟩ = some (.int .i64 o.width)) := HKv.out V1 v' hS1; clear hS1))
  have hS1 := HS0.out
  clear HOp HKd HKv HKx HS0
  have HS1 : Hid (RSt B W V1 e l { l with v := v' } S1) := hS1
  have HWr : Hid (Calls Tryz.prog 29 #[.pointer (some ⟨l.d, 0, none⟩)] V1 fun r w' => r = .returned (ansV 0 0 (S1).O.length 0 none 0 0 (errCode (S1).oe)) ∧ Below V1.heap.size V1 w') := wrote_any (l := { l with v := v' }) (hS1.eb HP.out.zr HP.out.E).E hS1.zr
  clear hS1
  generalize hq : (S1).O.length = q at *
  generalize hec : errCode (S1).oe = ec at *
  go_wp2_with fail
  refine Calls.mono HWr.out ?_
  rintro r V2 ⟨rfl, hb2⟩
  have hS2 := HS1.out.below hb2
  have hres := hS2.res HP.out HZ.out
  have HF : Hid (StR B w e l s o (.returned (ansV 0 0 q 0 none 0 0 ec)) (ansW V2 (w.heap.size + 1) (.int .u32 ((0 : Nat) : Int)) (.int .u32 ((0 : Nat) : Int)) (.int .u64 (q : Int)) (.int .u64 ((0 : Nat) : Int)) (.slice none 0 0) (.int .u8 (ec : Int)))) := StR.mk0 hS2 HP.out HZ.out (by rw [HZS.out, ← hq, ← hec]; rfl)
  clear hS2 hb2 HWr HS1 HZS hq hec
  have HRes : Hid (Res V2 (w.heap.size + 1)) := hres
  obtain ⟨r0, r1, r2, r3, r4, r5, rf⟩ := hres.cells
  clear hres HP HZ
  go_wp2
  exact retStep rfl rfl HRes.out HF.out

set_option maxRecDepth 100000 in
set_option maxHeartbeats 2000000 in
theorem zr8 {B : Nat} {w : World} {e : Nat → Addr} {l : Rl} {s : ZSt} {o : OpD} (h : InZ B w e l s o) (h0 : o.kind = 8) :
    Calls Tryz.prog 7 #[.pointer (some ⟨l.d, 0, none⟩), opV o] w (StR B w e l s o) := by
  obtain ⟨W, hW⟩ : ∃ W, (w.alloc (opB o)).alloc ans0 = W := ⟨_, rfl⟩
  have hP := pro h hW
  have c0 : W.cell? ⟨w.heap.size, 0, none⟩ = some (.int .u8 (o.kind : Int)) := hP.cell 0

  have b0 : ((o.kind : Int) == 0) = false := by simp; omega
  have b1 : ((o.kind : Int) == 1) = false := by simp; omega
  have b2 : ((o.kind : Int) == 2) = false := by simp; omega
  have b3 : ((o.kind : Int) == 3) = false := by simp; omega
  have b4 : ((o.kind : Int) == 4) = false := by simp; omega
  have b5 : ((o.kind : Int) == 5) = false := by simp; omega
  have b6 : ((o.kind : Int) == 6) = false := by simp; omega
  have b7 : ((o.kind : Int) == 7) = false := by simp; omega
  have b8 : ((o.kind : Int) == 8) = true := by simp; omega
  have HP : Hid (Pro B w W e l s o) := hP
  have HZ : Hid (ZR B w e l s) := h.zr
  have hbd : Below W.heap.size W W.drew := (Below.refl _ _).drew
  have hz : zstep s o = (zwr s (wwrite s.O s.lim s.oe (dig (Crc.crc s.O) 4)), wroteA (zwr s (wwrite s.O s.lim s.oe (dig (Crc.crc s.O) 4)))) := by
    unfold zstep
    rw [if_neg (by omega), if_neg (by omega), if_neg (by omega), if_neg (by omega), if_neg (by omega), if_neg (by omega), if_neg (by omega), if_neg (by omega), if_pos h0]
  obtain ⟨S1, hS1e⟩ : ∃ S1, zwr s (wwrite s.O s.lim s.oe (dig (Crc.crc s.O) 4)) = S1 := ⟨_, rfl⟩
  rw [hS1e] at hz
  have HZS : Hid (zstep s o = (S1, wroteA S1)) := hz
  have hBd : B ≤ W.drew.heap.size := by have h1 := hP.Bw; have h2 := hP.sz; show B ≤ W.heap.size; omega
  have HOp : Hid (Calls Tryz.prog 27 #[.pointer (some ⟨l.wb, 0, none⟩), .pointer (some ⟨l.tb, 0, none⟩)] W.drew fun r w' => r = .returned (.tuple #[]) ∧ ∃ v', RSt B W w' e l { l with v := v' } S1) := by
    rw [← hS1e]
    have hZd := hP.zr.below hbd
    have hEd := (RSt.start hP.zr hbd).eb hP.zr hP.E
    refine (wsealC_any hEd.E hZd.wr hBd l.tb hZd.tab).mono ?_
    rintro r w' ⟨h1, h2⟩
    obtain ⟨v', h3⟩ := hZd.writer h2
    exact ⟨h1, v', (RSt.start hP.zr hbd).trans h3⟩
  have HKd : Hid (W.drew.cell? ⟨l.d, 7, none⟩ = some (.pointer (some ⟨l.wb, 0, none⟩)) ∧ W.drew.cell? ⟨l.d, 0, none⟩ = some (.pointer (some ⟨l.tb, 0, none⟩))) := ⟨(hP.zr.below hbd).m7, (hP.zr.below hbd).m0⟩
  have HKv : Hid (∀ V v', RSt B W V e l { l with v := v' } S1 → V.cell? ⟨l.d, 7, none⟩ = some (.pointer (some ⟨l.wb, 0, none⟩)) ∧ V.cell? ⟨l.d, 0, none⟩ = some (.pointer (some ⟨l.tb, 0, none⟩))) := fun V v' hS => ⟨hS.zr.m7, hS.zr.m0⟩
  clear hz hbd hS1e hBd
  unfold opB ans0 at hW
  unfold opV
  clear h hP h0
  go_enter Tryz.func7, Tryz.ntmps7
  go_upto_region 24 with fail
  clear hW
  go_region_held3 (fun w' => w'.cell? ⟨l.d, 7, none⟩ = some (.pointer (some ⟨l.wb, 0, none⟩)) ∧ w'.cell? ⟨l.d, 0, none⟩ = some (.pointer (some ⟨l.tb, 0, none⟩)))
    (first | with_reducible exact HKd.out | with_reducible exact HKx.out)
    (first
      | (go_at_call 27; refine HOp.out.mono ?_; rintro r V1 ⟨rfl, v', hS1⟩; have HS0 : Hid (RSt B W V1 e l { l with v := v' } S1) := hS1; have HKx : Hid (V1.cell? ⟨l.d, 7, none⟩ = some (.pointer (some ⟨l.wb, 0, none⟩)) ∧ V1.cell? ⟨l.d, 0, none⟩ = some (.pointer (some ⟨l.tb, 0, none⟩))) := HKv.out V1 v' hS1; clear hS1))
  have hS1 := HS0.out
  clear HOp HKd HKv HKx HS0
  have HS1 : Hid (RSt B W V1 e l { l with v := v' } S1) := hS1
  have HWr : Hid (Calls Tryz.prog 29 #[.pointer (some ⟨l.d, 0, none⟩)] V1 fun r w' => r = .returned (ansV 0 0 (S1).O.length 0 none 0 0 (errCode (S1).oe)) ∧ Below V1.heap.size V1 w') := wrote_any (l := { l with v := v' }) (hS1.eb HP.out.zr HP.out.E).E hS1.zr
  clear hS1
  generalize hq : (S1).O.length = q at *
  generalize hec : errCode (S1).oe = ec at *
  go_wp2_with fail
  refine Calls.mono HWr.out ?_
  rintro r V2 ⟨rfl, hb2⟩
  have hS2 := HS1.out.below hb2
  have hres := hS2.res HP.out HZ.out
  have HF : Hid (StR B w e l s o (.returned (ansV 0 0 q 0 none 0 0 ec)) (ansW V2 (w.heap.size + 1) (.int .u32 ((0 : Nat) : Int)) (.int .u32 ((0 : Nat) : Int)) (.int .u64 (q : Int)) (.int .u64 ((0 : Nat) : Int)) (.slice none 0 0) (.int .u8 (ec : Int)))) := StR.mk0 hS2 HP.out HZ.out (by rw [HZS.out, ← hq, ← hec]; rfl)
  clear hS2 hb2 HWr HS1 HZS hq hec
  have HRes : Hid (Res V2 (w.heap.size + 1)) := hres
  obtain ⟨r0, r1, r2, r3, r4, r5, rf⟩ := hres.cells
  clear hres HP HZ
  go_wp2
  exact retStep rfl rfl HRes.out HF.out
end Go.Proofs.Qxb6500698aGreatDoor
