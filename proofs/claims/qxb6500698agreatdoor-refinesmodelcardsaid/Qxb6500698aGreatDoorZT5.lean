/-
  THE STEPS OF THE REAL MACHINES: KFill, KSums.
-/
import Derived.Test.Qxb6500698aGreatDoorZT3
import Derived.Deep.RegionHeld3
namespace Go.Proofs.Qxb6500698aGreatDoor
open Go.RowKit
theorem rep_brow {w : World} {d n b : Nat} (h : w.rowIs d 5 n (fun _ => .int .u8 (b : Int))) (hb : b < 256) : BRow w (some ⟨d, 0, none⟩) (List.replicate n b) := by
  refine BRow.of_rowIs (t := 5) (n := n) (h.congr fun i hi => ?_) ?_ (by simp)
  · have : (List.replicate n b).getD i 0 = b := by simp [List.getD_eq_getElem?_getD, hi]
    rw [this]
  · intro x hx
    rw [(List.mem_replicate.1 hx).2]
    exact hb

set_option maxRecDepth 100000 in
set_option maxHeartbeats 2000000 in
theorem zr2 {B : Nat} {w : World} {e : Nat → Addr} {l : Rl} {s : ZSt} {o : OpD} (h : InZ B w e l s o) (h0 : o.kind = 2) :
    Calls Tryz.prog 7 #[.pointer (some ⟨l.d, 0, none⟩), opV o] w (StR B w e l s o) := by
  obtain ⟨W, hW⟩ : ∃ W, (w.alloc (opB o)).alloc ans0 = W := ⟨_, rfl⟩
  have hP := pro h hW
  have c0 : W.cell? ⟨w.heap.size, 0, none⟩ = some (.int .u8 (o.kind : Int)) := hP.cell 0
  have c2 : W.cell? ⟨w.heap.size, 2, none⟩ = some (.int .u8 (o.b : Int)) := hP.cell 2
  have c3 : W.cell? ⟨w.heap.size, 3, none⟩ = some (.int .i64 o.n) := hP.cell 3
  have b0 : ((o.kind : Int) == 0) = false := by simp; omega
  have b1 : ((o.kind : Int) == 1) = false := by simp; omega
  have b2 : ((o.kind : Int) == 2) = true := by simp; omega
  have HP : Hid (Pro B w W e l s o) := hP
  have HZ : Hid (ZR B w e l s) := h.zr
  have hbd : Below W.heap.size W W.drew := (Below.refl _ _).drew
  have hz : zstep s o = (zfeed s (List.replicate (fill o.n) o.b), ⟨0, 0, (s.F ++ List.replicate (fill o.n) o.b).length, 0, [], 0⟩) := by
    unfold zstep
    rw [if_neg (by omega), if_neg (by omega), if_pos h0]
  obtain ⟨S1, hS1e⟩ : ∃ S1, zfeed s (List.replicate (fill o.n) o.b) = S1 := ⟨_, rfl⟩
  have hfl : fill o.n ≤ 65536 := by unfold fill; omega
  have hbs := h.op.hb
  obtain ⟨n, hn⟩ : ∃ n, fill o.n = n := ⟨_, rfl⟩
  obtain ⟨q, hq⟩ : ∃ q, (s.F ++ List.replicate (fill o.n) o.b).length = q := ⟨_, rfl⟩
  rw [hS1e, hq] at hz
  have HZS : Hid (zstep s o = (S1, ⟨0, 0, q, 0, [], 0⟩)) := hz
  have HFc : Hid (Calls Tryz.prog 18 #[.int .i64 o.n] W.drew fun r w' => r = .returned (.int .i64 (n : Int)) ∧ w' = W.drew) := by
    rw [← hn]; exact fillCount_any o.n W.drew h.op.hn.1 h.op.hn.2
  have HRp : Hid (Calls Tryz.prog 17 #[.int .u8 (o.b : Int), .int .i64 (n : Int)] W.drew fun r w' => r = .returned (.slice (some ⟨W.heap.size, 0, none⟩) n n) ∧ Below W.heap.size W w' ∧ BRow w' (some ⟨W.heap.size, 0, none⟩) (List.replicate n o.b)) :=
    (repeat_any o.b n W.drew (by omega)).mono (fun r w' ⟨h1, h2, h3, _⟩ => ⟨h1, hbd.trans h3, rep_brow h2 hbs⟩)
  have HFd : Hid (∀ V, Below W.heap.size W V → BRow V (some ⟨W.heap.size, 0, none⟩) (List.replicate n o.b) → Calls Tryz.prog 16 #[.pointer (some ⟨l.d, 0, none⟩), .slice (some ⟨W.heap.size, 0, none⟩) n n] V fun r w' => r = .returned (ansV 0 0 q 0 none 0 0 0) ∧ RSt B W w' e l l S1) := fun V hV hrow => by
    have hf := feed_any (List.replicate n o.b) (some ⟨W.heap.size, 0, none⟩) n (hP.zr.below hV) hrow (fun h0 b o' he => by cases he; have h1 := hP.zr.fl.lt; have h2 := hP.zr.dig.lt; omega) (by simp) (by omega) (by have h1 := h.fm; simp; omega)
    rw [List.length_replicate] at hf
    refine hf.mono (fun r w' ⟨h1, h2⟩ => ⟨?_, (RSt.start hP.zr hV).trans ?_⟩)
    · rw [h1, ← hq, hn]
    · rw [← hS1e, hn]; exact h2
  have HKd : Hid (∀ V, Below W.heap.size W V → V.cell? ⟨w.heap.size, 2, none⟩ = some (.int .u8 (o.b : Int)) ∧ V.cell? ⟨w.heap.size, 3, none⟩ = some (.int .i64 o.n)) := fun V hV => ⟨((RSt.start hP.zr hV).opc hP h.zr 2).trans (hP.cell 2), ((RSt.start hP.zr hV).opc hP h.zr 3).trans (hP.cell 3)⟩
  have HKv : Hid (∀ V, RSt B W V e l l S1 → V.cell? ⟨w.heap.size, 2, none⟩ = some (.int .u8 (o.b : Int)) ∧ V.cell? ⟨w.heap.size, 3, none⟩ = some (.int .i64 o.n)) := fun V hS => ⟨(hS.opc hP h.zr 2).trans (hP.cell 2), (hS.opc hP h.zr 3).trans (hP.cell 3)⟩
  have HKs : Hid (∀ V p q r t u x, (V.cell? ⟨w.heap.size, 2, none⟩ = some (.int .u8 (o.b : Int)) ∧ V.cell? ⟨w.heap.size, 3, none⟩ = some (.int .i64 o.n)) → (ansW V (w.heap.size + 1) p q r t u x).cell? ⟨w.heap.size, 2, none⟩ = some (.int .u8 (o.b : Int)) ∧ (ansW V (w.heap.size + 1) p q r t u x).cell? ⟨w.heap.size, 3, none⟩ = some (.int .i64 o.n)) := fun V p q r t u x hV => ⟨(Only.cell (ansW_only V (w.heap.size + 1) p q r t u x) (by omega)).trans hV.1, (Only.cell (ansW_only V (w.heap.size + 1) p q r t u x) (by omega)).trans hV.2⟩
  unfold ansW at HKs
  have HB0 : Hid (Below W.heap.size W W.drew) := hbd
  obtain ⟨nb, hnb⟩ : ∃ nb, W.heap.size = nb := ⟨_, rfl⟩
  rw [hnb] at HRp HFd HKd HB0
  clear hz hbd hS1e hfl hbs hn hq hnb
  unfold opB ans0 at hW
  unfold opV
  clear h hP h0
  go_enter Tryz.func7, Tryz.ntmps7
  go_upto_region 10 with fail
  clear hW
  go_region_held3 (fun w' => w'.cell? ⟨w.heap.size, 2, none⟩ = some (.int .u8 (o.b : Int)) ∧ w'.cell? ⟨w.heap.size, 3, none⟩ = some (.int .i64 o.n))
    (first | with_reducible exact HKd.out _ HB0.out | with_reducible exact HKd.out _ HB1.out | with_reducible exact HKx.out | with_reducible exact HKs.out _ _ _ _ _ _ _ HKx.out)
    (first
      | (go_at_call 18; refine Calls.mono HFc.out ?_; rintro r _ ⟨rfl, rfl⟩)
      | (go_at_call 17; refine Calls.mono HRp.out ?_; rintro r V1 ⟨rfl, hb1, hrow⟩; have HB1 : Hid (Below nb W V1) := hb1; have HR0 : Hid (BRow V1 (some ⟨nb, 0, none⟩) (List.replicate n o.b)) := hrow; clear hb1 hrow)
      | (go_at_call 16; refine Calls.mono (HFd.out V1 HB1.out HR0.out) ?_; rintro r V2 ⟨rfl, hS2⟩; have HKx : Hid (V2.cell? ⟨w.heap.size, 2, none⟩ = some (.int .u8 (o.b : Int)) ∧ V2.cell? ⟨w.heap.size, 3, none⟩ = some (.int .i64 o.n)) := HKv.out V2 hS2; have hres := hS2.res HP.out HZ.out; have HRes : Hid (Res V2 (w.heap.size + 1)) := hres; obtain ⟨r0, r1, r2, r3, r4, r5, rf⟩ := hres.cells; have HF : Hid (StR B w e l s o (.returned (ansV 0 0 q 0 none 0 0 0)) (ansW V2 (w.heap.size + 1) (.int .u32 ((0 : Nat) : Int)) (.int .u32 ((0 : Nat) : Int)) (.int .u64 (q : Int)) (.int .u64 ((0 : Nat) : Int)) (.slice none 0 0) (.int .u8 ((0 : Nat) : Int)))) := StR.mk0 hS2 HP.out HZ.out HZS.out; clear hS2 hres))
  go_wp2
  exact retStep rfl rfl HRes.out HF.out

set_option maxRecDepth 100000 in
set_option maxHeartbeats 2000000 in
theorem zr3 {B : Nat} {w : World} {e : Nat → Addr} {l : Rl} {s : ZSt} {o : OpD} (h : InZ B w e l s o) (h0 : o.kind = 3) :
    Calls Tryz.prog 7 #[.pointer (some ⟨l.d, 0, none⟩), opV o] w (StR B w e l s o) := by
  obtain ⟨W, hW⟩ : ∃ W, (w.alloc (opB o)).alloc ans0 = W := ⟨_, rfl⟩
  have hP := pro h hW
  have c0 : W.cell? ⟨w.heap.size, 0, none⟩ = some (.int .u8 (o.kind : Int)) := hP.cell 0

  have b0 : ((o.kind : Int) == 0) = false := by simp; omega
  have b1 : ((o.kind : Int) == 1) = false := by simp; omega
  have b2 : ((o.kind : Int) == 2) = false := by simp; omega
  have b3 : ((o.kind : Int) == 3) = true := by simp; omega
  have HP : Hid (Pro B w W e l s o) := hP
  have HZ : Hid (ZR B w e l s) := h.zr
  have hbd : Below W.heap.size W W.drew := (Below.refl _ _).drew
  have hz : zstep s o = (s, ⟨Crc.crc s.F, Flt.fl s.F, s.F.length, 0, [], 0⟩) := by
    unfold zstep
    rw [if_neg (by omega), if_neg (by omega), if_neg (by omega), if_pos h0]
  have hZ := hP.zr
  obtain ⟨q, hq⟩ : ∃ q, s.F.length = q := ⟨_, rfl⟩
  obtain ⟨cr, hcr⟩ : ∃ cr, Crc.crc s.F = cr := ⟨_, rfl⟩
  obtain ⟨fl, hfl⟩ : ∃ fl, Flt.fl s.F = fl := ⟨_, rfl⟩
  rw [hq, hcr, hfl] at hz
  have HZS : Hid (zstep s o = (s, ⟨cr, fl, q, 0, [], 0⟩)) := hz
  have HLc : Hid (∀ V, Below W.heap.size W V → Calls Tryz.prog 19 #[.pointer (some ⟨l.cd, 0, none⟩)] V fun r w' => r = .returned (.int .u64 (q : Int)) ∧ Below W.heap.size W w') := fun V hV => by
    rw [← hq]; exact (len_any l.cd l.tb _ _ V (hZ.below hV).dig).mono (fun r w' ⟨h1, h2⟩ => ⟨h1, by rw [h2]; exact hV⟩)
  have HLf : Hid (∀ V, Below W.heap.size W V → Calls Tryz.prog 20 #[.pointer (some ⟨l.d, 2, none⟩)] V fun r w' => r = .returned (.int .u64 (q : Int)) ∧ Below W.heap.size W w') := fun V hV => by
    rw [← hq]; exact (facc_len s.F l.d V (hZ.below hV).fl).mono (fun r w' ⟨h1, h2⟩ => ⟨h1, by rw [h2]; exact hV⟩)
  have HSc : Hid (∀ V, Below W.heap.size W V → Calls Tryz.prog 21 #[.pointer (some ⟨l.cd, 0, none⟩)] V fun r w' => r = .returned (.int .u32 (cr : Int)) ∧ Below W.heap.size W w') := fun V hV => by
    rw [← hcr]; exact (sum32_any l.cd l.tb _ _ V (hZ.below hV).dig).mono (fun r w' ⟨h1, h2⟩ => ⟨h1, by rw [h2]; exact hV⟩)
  have HSf : Hid (∀ V, Below W.heap.size W V → Calls Tryz.prog 22 #[.pointer (some ⟨l.d, 2, none⟩)] V fun r w' => r = .returned (.int .u32 (fl : Int)) ∧ Below W.heap.size W w') := fun V hV => by
    rw [← hfl]; exact (fsum_any s.F l.d V (hZ.below hV).fl).mono (fun r w' ⟨h1, m, h2⟩ => ⟨h1, by rw [h2]; exact hV.trans (drewN_below _ _ _)⟩)
  have HKd : Hid (∀ V, Below W.heap.size W V → V.cell? ⟨l.d, 1, none⟩ = some (.pointer (some ⟨l.cd, 0, none⟩))) := fun V hV => (hZ.below hV).m1
  have hlt := h.zr.fl.lt
  have HKs : Hid (∀ V p q r t u x, (V.cell? ⟨l.d, 1, none⟩ = some (.pointer (some ⟨l.cd, 0, none⟩))) → (ansW V (w.heap.size + 1) p q r t u x).cell? ⟨l.d, 1, none⟩ = some (.pointer (some ⟨l.cd, 0, none⟩))) := fun V p q r t u x hV => (Only.cell (ansW_only V (w.heap.size + 1) p q r t u x) (by omega)).trans hV
  unfold ansW at HKs
  have HD : Hid (∀ V, Below W.heap.size W V → Below W.heap.size W V.drew) := fun V hV => hV.drew
  have HE : Hid (∀ V, Below W.heap.size W V → Res V (w.heap.size + 1) ∧ StR B w e l s o (.returned (ansV cr fl q 0 none 0 0 0)) (ansW V (w.heap.size + 1) (.int .u32 (cr : Int)) (.int .u32 (fl : Int)) (.int .u64 (q : Int)) (.int .u64 ((0 : Nat) : Int)) (.slice none 0 0) (.int .u8 ((0 : Nat) : Int)))) := fun V hV => ⟨(RSt.start hP.zr hV).res hP h.zr, StR.mk0 (RSt.start hP.zr hV) hP h.zr hz⟩
  have HB0 : Hid (Below W.heap.size W W.drew) := hbd
  obtain ⟨nb, hnb⟩ : ∃ nb, W.heap.size = nb := ⟨_, rfl⟩
  rw [hnb] at HLc HLf HSc HSf HKd HB0 HD HE
  clear hz hbd hq hcr hfl hnb hZ hlt
  unfold opB ans0 at hW
  unfold opV
  clear h hP h0
  go_enter Tryz.func7, Tryz.ntmps7
  go_upto_region 12 with fail
  clear hW
  go_region_held3 (fun w' => w'.cell? ⟨l.d, 1, none⟩ = some (.pointer (some ⟨l.cd, 0, none⟩)))
    (first | with_reducible exact HKd.out _ HB0.out | with_reducible exact HKd.out _ HB1.out | with_reducible exact HKd.out _ HB2.out)
    (first
      | (go_at_call 19; refine Calls.mono (HLc.out _ HB0.out) ?_; rintro r V1 ⟨rfl, hb⟩; have HB1 : Hid (Below nb W V1) := hb; clear hb)
      | (go_at_call 20; refine Calls.mono (HLf.out _ HB1.out) ?_; rintro r V2 ⟨rfl, hb⟩; have HB2 : Hid (Below nb W V2) := hb; clear hb))
  have HB3 := HD.out _ HB2.out
  have HB4 : Hid _ := HB3
  clear HB3
  go_upto_region 14 with fail
  go_region_held3 (fun w' => w'.cell? ⟨l.d, 1, none⟩ = some (.pointer (some ⟨l.cd, 0, none⟩)))
    (first | with_reducible exact HKd.out _ HB4.out | with_reducible exact HKd.out _ HB5.out | with_reducible exact HKd.out _ HB6.out | with_reducible exact HKd.out _ HB7.out | with_reducible exact HKs.out _ _ _ _ _ _ _ (HKd.out _ HB7.out))
    (first
      | (go_at_call 21; refine Calls.mono (HSc.out _ HB4.out) ?_; rintro r V5 ⟨rfl, hb⟩; have HB5 : Hid (Below nb W V5) := hb; clear hb)
      | (go_at_call 22; refine Calls.mono (HSf.out _ HB5.out) ?_; rintro r V6 ⟨rfl, hb⟩; have HB6 : Hid (Below nb W V6) := hb; clear hb)
      | (go_at_call 19; refine Calls.mono (HLc.out _ HB6.out) ?_; rintro r V7 ⟨rfl, hb⟩; have HB7 : Hid (Below nb W V7) := hb; have hfin := HE.out V7 hb; have HRes : Hid (Res V7 (w.heap.size + 1)) := hfin.1; have HF : Hid _ := hfin.2; obtain ⟨r0, r1, r2, r3, r4, r5, rf⟩ := hfin.1.cells; clear hb hfin))
  go_wp2
  exact retStep rfl rfl HRes.out HF.out
end Go.Proofs.Qxb6500698aGreatDoor
