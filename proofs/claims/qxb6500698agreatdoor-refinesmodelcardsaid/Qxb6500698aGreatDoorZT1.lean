/-
  THE STEPS OF THE REAL MACHINES: KReset, KFeed, KPut, KSealFletcher, none.
-/
import Derived.Test.Qxb6500698aGreatDoorZSp
namespace Go.Proofs.Qxb6500698aGreatDoor
open Go.RowKit

set_option maxRecDepth 100000 in
set_option maxHeartbeats 2000000 in
theorem zrD {B : Nat} {w : World} {e : Nat → Addr} {l : Rl} {s : ZSt} {o : OpD} (h : InZ B w e l s o) (h0 : 18 < o.kind) :
    Calls Tryz.prog 7 #[.pointer (some ⟨l.d, 0, none⟩), opV o] w (StR B w e l s o) := by
  obtain ⟨W, hW⟩ : ∃ W, (w.alloc (opB o)).alloc ans0 = W := ⟨_, rfl⟩
  have hP := pro h hW
  have c0 : W.cell? ⟨w.heap.size, 0, none⟩ = some (.int .u8 (o.kind : Int)) := hP.cell 0

  have b0 : ((o.kind : Int) == 0) = false := by simp; omega
  have b1 : ((o.kind : Int) == 1) = false := by simp; omega
  have b2 : ((o.kind : Int) == 2) = false := by simp; omega
  have b3 : ((o.kind : Int) == 3) = false := by simp; omega
  have b4 : ((o.kind : Int) == 4) = false := by simp; omega
  have b5 : ((o.kind : Int) == 5) = false := by simp; omega
  have b6 : ((o.kind : Int) == 6) = false := by simp; omega
  have b7 : ((o.kind : Int) == 7) = false := by simp; omega
  have b8 : ((o.kind : Int) == 8) = false := by simp; omega
  have b9 : ((o.kind : Int) == 9) = false := by simp; omega
  have b10 : ((o.kind : Int) == 10) = false := by simp; omega
  have b11 : ((o.kind : Int) == 11) = false := by simp; omega
  have b12 : ((o.kind : Int) == 12) = false := by simp; omega
  have b13 : ((o.kind : Int) == 13) = false := by simp; omega
  have b14 : ((o.kind : Int) == 14) = false := by simp; omega
  have b15 : ((o.kind : Int) == 15) = false := by simp; omega
  have b16 : ((o.kind : Int) == 16) = false := by simp; omega
  have b17 : ((o.kind : Int) == 17) = false := by simp; omega
  have b18 : ((o.kind : Int) == 18) = false := by simp; omega
  have HP : Hid (Pro B w W e l s o) := hP
  have HZ : Hid (ZR B w e l s) := h.zr
  have hbd : Below W.heap.size W W.drew := (Below.refl _ _).drew
  have hz : zstep s o = (s, ⟨0, 0, 0, 0, [], 0⟩) := by
    unfold zstep
    rw [if_neg (by omega), if_neg (by omega), if_neg (by omega), if_neg (by omega), if_neg (by omega), if_neg (by omega), if_neg (by omega), if_neg (by omega), if_neg (by omega), if_neg (by omega), if_neg (by omega), if_neg (by omega), if_neg (by omega), if_neg (by omega), if_neg (by omega), if_neg (by omega), if_neg (by omega), if_neg (by omega), if_neg (by omega)]
  have hS := RSt.refl hP.zr
  have hres := hS.res hP h.zr
  have HF : Hid (StR B w e l s o (.returned (ansV 0 0 0 0 none 0 0 0)) (ansW W (w.heap.size + 1) (.int .u32 ((0 : Nat) : Int)) (.int .u32 ((0 : Nat) : Int)) (.int .u64 ((0 : Nat) : Int)) (.int .u64 ((0 : Nat) : Int)) (.slice none 0 0) (.int .u8 ((0 : Nat) : Int)))) := StR.mk0 hS hP h.zr hz
  clear hS hz hbd
  unfold opB ans0 at hW
  unfold opV
  clear h hP h0
  go_enter Tryz.func7, Tryz.ntmps7
  have HRes : Hid (Res W (w.heap.size + 1)) := hres
  obtain ⟨r0, r1, r2, r3, r4, r5, rf⟩ := hres.cells
  clear hres HP HZ
  go_wp2
  exact retStep rfl rfl HRes.out HF.out

set_option maxRecDepth 100000 in
set_option maxHeartbeats 2000000 in
theorem zr0 {B : Nat} {w : World} {e : Nat → Addr} {l : Rl} {s : ZSt} {o : OpD} (h : InZ B w e l s o) (h0 : o.kind = 0) :
    Calls Tryz.prog 7 #[.pointer (some ⟨l.d, 0, none⟩), opV o] w (StR B w e l s o) := by
  obtain ⟨W, hW⟩ : ∃ W, (w.alloc (opB o)).alloc ans0 = W := ⟨_, rfl⟩
  have hP := pro h hW
  have c0 : W.cell? ⟨w.heap.size, 0, none⟩ = some (.int .u8 (o.kind : Int)) := hP.cell 0

  have b0 : ((o.kind : Int) == 0) = true := by simp; omega
  have HP : Hid (Pro B w W e l s o) := hP
  have HZ : Hid (ZR B w e l s) := h.zr
  have hbd : Below W.heap.size W W.drew := (Below.refl _ _).drew
  have hz : zstep s o = ({ s with F := [] }, ⟨0, 0, 0, 0, [], 0⟩) := by
    unfold zstep
    rw [if_pos h0]
  have HZS : Hid (zstep s o = ({ s with F := [] }, ⟨0, 0, 0, 0, [], 0⟩)) := hz
  have m1 := hP.zr.m1
  have n1 := hP.zr.n1
  have HD : Hid (Calls Tryz.prog 14 #[.pointer (some ⟨l.cd, 0, none⟩)] W fun r w' => r = .returned (.tuple #[]) ∧ DigAt w' l.cd l.tb 0 0 ∧ Only l.cd W w') := dreset_any l.cd l.tb _ _ hP.zr.dig
  have HFr : Hid (∀ V, Only l.cd W V → Calls Tryz.prog 15 #[.pointer (some ⟨l.d, 2, none⟩)] V fun r w' => r = .returned (.tuple #[]) ∧ Only l.d V w' ∧ FlAcc (mq l) w' l.d []) := fun V hO => facc_reset s.F l.d V (hP.zr.fl.of_block (hO.block _ n1.2.1))
  have HS : Hid (∀ V1 V2, Only l.cd W V1 → DigAt V1 l.cd l.tb 0 0 → Only l.d V1 V2 → FlAcc (mq l) V2 l.d [] → RSt B W V2 e l l { s with F := [] }) := fun V1 V2 h1 h2 h3 h4 => hP.zr.fed h4 (show DigAt V2 l.cd l.tb (Crc.crc []) 0 from h2.of_block (h3.block _ (Ne.symm n1.2.1))) ((Only.chg h1 (.inr rfl)).trans (Only.chg h3 (.inl rfl))) (by intro x hx; cases hx)
  clear hz hbd n1
  unfold opB ans0 at hW
  unfold opV
  clear h hP h0
  go_enter Tryz.func7, Tryz.ntmps7
  go_wp2_with fail
  refine Calls.mono HD.out ?_
  rintro r V1 ⟨rfl, h2, h3⟩
  clear HD hW
  go_wp2_with fail
  refine Calls.mono (HFr.out V1 h3) ?_
  rintro r V2 ⟨rfl, h4, h5⟩
  have hS2 := HS.out V1 V2 h3 h2 h4 h5
  have hres := hS2.res HP.out HZ.out
  have HF : Hid (StR B w e l s o (.returned (ansV 0 0 0 0 none 0 0 0)) (ansW V2 (w.heap.size + 1) (.int .u32 ((0 : Nat) : Int)) (.int .u32 ((0 : Nat) : Int)) (.int .u64 ((0 : Nat) : Int)) (.int .u64 ((0 : Nat) : Int)) (.slice none 0 0) (.int .u8 ((0 : Nat) : Int)))) := StR.mk0 hS2 HP.out HZ.out HZS.out
  clear hS2 h2 h3 h4 h5 HS HFr HZS
  have HRes : Hid (Res V2 (w.heap.size + 1)) := hres
  obtain ⟨r0, r1, r2, r3, r4, r5, rf⟩ := hres.cells
  clear hres HP HZ
  go_wp2
  exact retStep rfl rfl HRes.out HF.out

set_option maxRecDepth 100000 in
set_option maxHeartbeats 2000000 in
theorem zr1 {B : Nat} {w : World} {e : Nat → Addr} {l : Rl} {s : ZSt} {o : OpD} (h : InZ B w e l s o) (h0 : o.kind = 1) :
    Calls Tryz.prog 7 #[.pointer (some ⟨l.d, 0, none⟩), opV o] w (StR B w e l s o) := by
  obtain ⟨W, hW⟩ : ∃ W, (w.alloc (opB o)).alloc ans0 = W := ⟨_, rfl⟩
  have hP := pro h hW
  have c0 : W.cell? ⟨w.heap.size, 0, none⟩ = some (.int .u8 (o.kind : Int)) := hP.cell 0
  have c1 : W.cell? ⟨w.heap.size, 1, none⟩ = some (.slice o.da o.bs.length o.dc) := hP.cell 1
  have b0 : ((o.kind : Int) == 0) = false := by simp; omega
  have b1 : ((o.kind : Int) == 1) = true := by simp; omega
  have HP : Hid (Pro B w W e l s o) := hP
  have HZ : Hid (ZR B w e l s) := h.zr
  have hbd : Below W.heap.size W W.drew := (Below.refl _ _).drew
  have hz : zstep s o = (zfeed s o.bs, ⟨0, 0, (s.F ++ o.bs).length, 0, [], 0⟩) := by
    unfold zstep
    rw [if_neg (by omega), if_pos h0]
  have HZS : Hid (zstep s o = (zfeed s o.bs, ⟨0, 0, (s.F ++ o.bs).length, 0, [], 0⟩)) := hz
  have HFd : Hid (Calls Tryz.prog 16 #[.pointer (some ⟨l.d, 0, none⟩), .slice o.da o.bs.length o.dc] W fun r w' => r = .returned (ansV 0 0 (s.F ++ o.bs).length 0 none 0 0 0) ∧ RSt B W w' e l l (zfeed s o.bs)) := feed_any o.bs o.da o.dc hP.zr (h.op.data.below hP.bel) (fun h0 b o' he => by have h1 := h.op.lo h0 b o' he; have h2 := hP.zr.hB; omega) h.op.cap h.op.cap2 (by have h1 := h.fm; have h2 := h.op.bl; omega)
  clear hz hbd
  unfold opB ans0 at hW
  unfold opV
  clear h hP h0
  go_enter Tryz.func7, Tryz.ntmps7
  generalize hq : (s.F ++ o.bs).length = q at *
  go_wp2_with fail
  refine Calls.mono HFd.out ?_
  rintro r V2 ⟨rfl, hS2⟩
  have hres := hS2.res HP.out HZ.out
  have HF : Hid (StR B w e l s o (.returned (ansV 0 0 q 0 none 0 0 0)) (ansW V2 (w.heap.size + 1) (.int .u32 ((0 : Nat) : Int)) (.int .u32 ((0 : Nat) : Int)) (.int .u64 (q : Int)) (.int .u64 ((0 : Nat) : Int)) (.slice none 0 0) (.int .u8 ((0 : Nat) : Int)))) := StR.mk0 hS2 HP.out HZ.out HZS.out
  clear hS2 HFd HZS hq
  have HRes : Hid (Res V2 (w.heap.size + 1)) := hres
  obtain ⟨r0, r1, r2, r3, r4, r5, rf⟩ := hres.cells
  clear hres HP HZ
  go_wp2
  exact retStep rfl rfl HRes.out HF.out

set_option maxRecDepth 100000 in
set_option maxHeartbeats 2000000 in
theorem zr5 {B : Nat} {w : World} {e : Nat → Addr} {l : Rl} {s : ZSt} {o : OpD} (h : InZ B w e l s o) (h0 : o.kind = 5) :
    Calls Tryz.prog 7 #[.pointer (some ⟨l.d, 0, none⟩), opV o] w (StR B w e l s o) := by
  obtain ⟨W, hW⟩ : ∃ W, (w.alloc (opB o)).alloc ans0 = W := ⟨_, rfl⟩
  have hP := pro h hW
  have c0 : W.cell? ⟨w.heap.size, 0, none⟩ = some (.int .u8 (o.kind : Int)) := hP.cell 0
  have c4 : W.cell? ⟨w.heap.size, 4, none⟩ = some (.int .u64 (o.v : Int)) := hP.cell 4
  have c5 : W.cell? ⟨w.heap.size, 5, none⟩ = some (.int .i64 o.width) := hP.cell 5
  have b0 : ((o.kind : Int) == 0) = false := by simp; omega
  have b1 : ((o.kind : Int) == 1) = false := by simp; omega
  have b2 : ((o.kind : Int) == 2) = false := by simp; omega
  have b3 : ((o.kind : Int) == 3) = false := by simp; omega
  have b4 : ((o.kind : Int) == 4) = false := by simp; omega
  have b5 : ((o.kind : Int) == 5) = true := by simp; omega
  have HP : Hid (Pro B w W e l s o) := hP
  have HZ : Hid (ZR B w e l s) := h.zr
  have hbd : Below W.heap.size W W.drew := (Below.refl _ _).drew
  have hz : zstep s o = (zwr s (zput s.O s.lim s.oe o.v o.width), wroteA (zwr s (zput s.O s.lim s.oe o.v o.width))) := by
    unfold zstep
    rw [if_neg (by omega), if_neg (by omega), if_neg (by omega), if_neg (by omega), if_neg (by omega), if_pos h0]
  obtain ⟨S1, hS1e⟩ : ∃ S1, zwr s (zput s.O s.lim s.oe o.v o.width) = S1 := ⟨_, rfl⟩
  rw [hS1e] at hz
  have HZS : Hid (zstep s o = (S1, wroteA S1)) := hz
  have m7 := hP.zr.m7
  have HOp : Hid (Calls Tryz.prog 24 #[.pointer (some ⟨l.d, 0, none⟩), .int .u64 (o.v : Int), .int .i64 o.width] W fun r w' => r = .returned (.tuple #[]) ∧ ∃ v', RSt B W w' e l { l with v := v' } S1) := by
    rw [← hS1e]
    exact put_any o.v o.width h.op.hv h.op.hw.1 h.op.hw.2 hP.E hP.zr (by have := hP.Bw; have := hP.sz; omega)
  clear hz hbd hS1e
  unfold opB ans0 at hW
  unfold opV
  clear h hP h0
  go_enter Tryz.func7, Tryz.ntmps7
  go_wp2_with fail
  refine Calls.mono HOp.out ?_
  rintro r V1 ⟨rfl, v', hS1⟩
  clear HOp hW
  have HS1 : Hid (RSt B W V1 e l { l with v := v' } S1) := hS1
  have HWr : Hid (Calls Tryz.prog 29 #[.pointer (some ⟨l.d, 0, none⟩)] V1 fun r w' => r = .returned (ansV 0 0 (S1).O.length 0 none 0 0 (errCode (S1).oe)) ∧ Below V1.heap.size V1 w') := wrote_any (l := { l with v := v' }) (hS1.eb HP.out.zr HP.out.E).E hS1.zr
  clear hS1
  generalize hq : (S1).O.length = q at *
  generalize hec : errCode (S1).oe = ec at *
  go_wp2_with fail
  refine Calls.mono HWr.out ?_
  rintro r V2 ⟨rfl, hb2⟩
  have hS2 := HS1.out.below hb2
  have hres := hS2.res HP.out HZ.out
  have HF : Hid (StR B w e l s o (.returned (ansV 0 0 q 0 none 0 0 ec)) (ansW V2 (w.heap.size + 1) (.int .u32 ((0 : Nat) : Int)) (.int .u32 ((0 : Nat) : Int)) (.int .u64 (q : Int)) (.int .u64 ((0 : Nat) : Int)) (.slice none 0 0) (.int .u8 (ec : Int)))) := StR.mk0 hS2 HP.out HZ.out (by rw [HZS.out, ← hq, ← hec]; rfl)
  clear hS2 hb2 HWr HS1 HZS hq hec
  have HRes : Hid (Res V2 (w.heap.size + 1)) := hres
  obtain ⟨r0, r1, r2, r3, r4, r5, rf⟩ := hres.cells
  clear hres HP HZ
  go_wp2
  exact retStep rfl rfl HRes.out HF.out

set_option maxRecDepth 100000 in
set_option maxHeartbeats 2000000 in
theorem zr9 {B : Nat} {w : World} {e : Nat → Addr} {l : Rl} {s : ZSt} {o : OpD} (h : InZ B w e l s o) (h0 : o.kind = 9) :
    Calls Tryz.prog 7 #[.pointer (some ⟨l.d, 0, none⟩), opV o] w (StR B w e l s o) := by
  obtain ⟨W, hW⟩ : ∃ W, (w.alloc (opB o)).alloc ans0 = W := ⟨_, rfl⟩
  have hP := pro h hW
  have c0 : W.cell? ⟨w.heap.size, 0, none⟩ = some (.int .u8 (o.kind : Int)) := hP.cell 0

  have b0 : ((o.kind : Int) == 0) = false := by simp; omega
  have b1 : ((o.kind : Int) == 1) = false := by simp; omega
  have b2 : ((o.kind : Int) == 2) = false := by simp; omega
  have b3 : ((o.kind : Int) == 3) = false := by simp; omega
  have b4 : ((o.kind : Int) == 4) = false := by simp; omega
  have b5 : ((o.kind : Int) == 5) = false := by simp; omega
  have b6 : ((o.kind : Int) == 6) = false := by simp; omega
  have b7 : ((o.kind : Int) == 7) = false := by simp; omega
  have b8 : ((o.kind : Int) == 8) = false := by simp; omega
  have b9 : ((o.kind : Int) == 9) = true := by simp; omega
  have HP : Hid (Pro B w W e l s o) := hP
  have HZ : Hid (ZR B w e l s) := h.zr
  have hbd : Below W.heap.size W W.drew := (Below.refl _ _).drew
  have hz : zstep s o = (zwr s (wwrite s.O s.lim s.oe (dig (Flt.fl s.O) 4)), wroteA (zwr s (wwrite s.O s.lim s.oe (dig (Flt.fl s.O) 4)))) := by
    unfold zstep
    rw [if_neg (by omega), if_neg (by omega), if_neg (by omega), if_neg (by omega), if_neg (by omega), if_neg (by omega), if_neg (by omega), if_neg (by omega), if_neg (by omega), if_pos h0]
  obtain ⟨S1, hS1e⟩ : ∃ S1, zwr s (wwrite s.O s.lim s.oe (dig (Flt.fl s.O) 4)) = S1 := ⟨_, rfl⟩
  rw [hS1e] at hz
  have HZS : Hid (zstep s o = (S1, wroteA S1)) := hz
  have m7 := hP.zr.m7
  have HOp : Hid (Calls Tryz.prog 28 #[.pointer (some ⟨l.wb, 0, none⟩)] W fun r w' => r = .returned (.tuple #[]) ∧ ∃ v', RSt B W w' e l { l with v := v' } S1) := by
    rw [← hS1e]
    exact (wsealF_any hP.E.E hP.zr.wr (by have := hP.Bw; have := hP.sz; omega)).mono (fun r w' hw => ⟨hw.1, hP.zr.writer hw.2⟩)
  clear hz hbd hS1e
  unfold opB ans0 at hW
  unfold opV
  clear h hP h0
  go_enter Tryz.func7, Tryz.ntmps7
  go_wp2_with fail
  refine Calls.mono HOp.out ?_
  rintro r V1 ⟨rfl, v', hS1⟩
  clear HOp hW
  have HS1 : Hid (RSt B W V1 e l { l with v := v' } S1) := hS1
  have HWr : Hid (Calls Tryz.prog 29 #[.pointer (some ⟨l.d, 0, none⟩)] V1 fun r w' => r = .returned (ansV 0 0 (S1).O.length 0 none 0 0 (errCode (S1).oe)) ∧ Below V1.heap.size V1 w') := wrote_any (l := { l with v := v' }) (hS1.eb HP.out.zr HP.out.E).E hS1.zr
  clear hS1
  generalize hq : (S1).O.length = q at *
  generalize hec : errCode (S1).oe = ec at *
  go_wp2_with fail
  refine Calls.mono HWr.out ?_
  rintro r V2 ⟨rfl, hb2⟩
  have hS2 := HS1.out.below hb2
  have hres := hS2.res HP.out HZ.out
  have HF : Hid (StR B w e l s o (.returned (ansV 0 0 q 0 none 0 0 ec)) (ansW V2 (w.heap.size + 1) (.int .u32 ((0 : Nat) : Int)) (.int .u32 ((0 : Nat) : Int)) (.int .u64 (q : Int)) (.int .u64 ((0 : Nat) : Int)) (.slice none 0 0) (.int .u8 (ec : Int)))) := StR.mk0 hS2 HP.out HZ.out (by rw [HZS.out, ← hq, ← hec]; rfl)
  clear hS2 hb2 HWr HS1 HZS hq hec
  have HRes : Hid (Res V2 (w.heap.size + 1)) := hres
  obtain ⟨r0, r1, r2, r3, r4, r5, rf⟩ := hres.cells
  clear hres HP HZ
  go_wp2
  exact retStep rfl rfl HRes.out HF.out
end Go.Proofs.Qxb6500698aGreatDoor
