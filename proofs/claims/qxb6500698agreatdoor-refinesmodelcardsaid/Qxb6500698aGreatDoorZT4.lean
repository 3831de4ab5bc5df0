/-
  THE STEPS OF THE REAL MACHINES: KTake, KCheckCRC, KCheckFletcher.
-/
import Derived.Test.Qxb6500698aGreatDoorZT3
import Derived.Deep.RegionHeld3
namespace Go.Proofs.Qxb6500698aGreatDoor
open Go.RowKit
section
variable {B : Nat} {w W V1 : World} {e : Nat → Addr} {l L1 : Rl} {s S1 : ZSt} {o : OpD} {x n c : Nat} {a : Option Addr} {dat : List Nat}
/-- The end of a step of the reader. -/
theorem readEnd (hP : Pro B w W e l s o) (h0 : ZR B w e l s) (hz : zstep s o = (S1, readA S1 x dat)) (hS1 : RSt B W V1 e l L1 S1) (hrow : BRow V1 a dat) (hn : dat.length = n) (ha : dat ≠ [] → ∀ b o', a = some ⟨b, o', none⟩ → RB L1 b) :
    Calls Tryz.prog 31 #[.pointer (some ⟨l.d, 0, none⟩), .int .u64 (x : Int), .slice a n c] V1 fun r V2 => r = .returned (ansV 0 0 S1.I.length x a n c (errCode S1.ie)) ∧ RSt B W V2 e l L1 S1 ∧ Res V2 (w.heap.size + 1) ∧ StR B w e l s o (.returned (ansV 0 0 S1.I.length x a n c (errCode S1.ie))) (ansW V2 (w.heap.size + 1) (.int .u32 ((0 : Nat) : Int)) (.int .u32 ((0 : Nat) : Int)) (.int .u64 (S1.I.length : Int)) (.int .u64 (x : Int)) (.slice a n c) (.int .u8 (errCode S1.ie : Int))) := by
  rw [← hS1.d]
  refine (read_any (l := L1) x n c a (hS1.eb hP.zr hP.E).E hS1.zr).mono ?_
  rintro r V2 ⟨h1, hb2⟩
  have hS2 := hS1.below hb2
  refine ⟨h1, hS2, hS2.res hP h0, ?_⟩
  rw [← hn]
  exact StR.mk1 hS2 hP h0 hz (hrow.below hb2) (fun h1 b o' he => .inr (ha h1 b o' he))
/-- What the reader's step hands on. -/
def TkPost (B : Nat) (W : World) (e : Nat → Addr) (l : Rl) (S1 : ZSt) (dat : List Nat) (n : Nat) (r : Ending) (w' : World) : Prop :=
  ∃ a c off', r = .returned (.slice a n c) ∧ RSt B W w' e l { l with off := off' } S1 ∧ BRow w' a dat ∧ (dat ≠ [] → ∀ b o', a = some ⟨b, o', none⟩ → RB { l with off := off' } b)
theorem ZR.taken {z : List Nat × Nat × Option Nat} {k : Int} {r : Ending} {w' V : World} (hV : Below W.heap.size W V) (h : ZR B V e l s) (h0 : ZR B W e l s) (hp : RdPost B V e l.rb l.ao l.bs l.cap k z r w') : TkPost B W e l (zrs s (l.bs.drop z.2.1) z.2.2) z.1 z.1.length r w' := by
  obtain ⟨a, c, hr, _, hrow, _, _, hne, _, h2, h3⟩ := hp
  refine ⟨a, c, z.2.1, hr, (RSt.start h0 hV).trans (h.reader h2 h3), hrow, fun h1 b o' he => ?_⟩
  obtain ⟨o2, h4, h5⟩ := hne h1 b o' he
  exact ⟨h5, o2, h4⟩
end

set_option maxRecDepth 100000 in
set_option maxHeartbeats 2000000 in
theorem zr17 {B : Nat} {w : World} {e : Nat → Addr} {l : Rl} {s : ZSt} {o : OpD} (h : InZ B w e l s o) (h0 : o.kind = 17) :
    Calls Tryz.prog 7 #[.pointer (some ⟨l.d, 0, none⟩), opV o] w (StR B w e l s o) := by
  obtain ⟨W, hW⟩ : ∃ W, (w.alloc (opB o)).alloc ans0 = W := ⟨_, rfl⟩
  have hP := pro h hW
  have c0 : W.cell? ⟨w.heap.size, 0, none⟩ = some (.int .u8 (o.kind : Int)) := hP.cell 0

  have b0 : ((o.kind : Int) == 0) = false := by simp; omega
  have b1 : ((o.kind : Int) == 1) = false := by simp; omega
  have b2 : ((o.kind : Int) == 2) = false := by simp; omega
  have b3 : ((o.kind : Int) == 3) = false := by simp; omega
  have b4 : ((o.kind : Int) == 4) = false := by simp; omega
  have b5 : ((o.kind : Int) == 5) = false := by simp; omega
  have b6 : ((o.kind : Int) == 6) = false := by simp; omega
  have b7 : ((o.kind : Int) == 7) = false := by simp; omega
  have b8 : ((o.kind : Int) == 8) = false := by simp; omega
  have b9 : ((o.kind : Int) == 9) = false := by simp; omega
  have b10 : ((o.kind : Int) == 10) = false := by simp; omega
  have b11 : ((o.kind : Int) == 11) = false := by simp; omega
  have b12 : ((o.kind : Int) == 12) = false := by simp; omega
  have b13 : ((o.kind : Int) == 13) = false := by simp; omega
  have b14 : ((o.kind : Int) == 14) = false := by simp; omega
  have b15 : ((o.kind : Int) == 15) = false := by simp; omega
  have b16 : ((o.kind : Int) == 16) = false := by simp; omega
  have b17 : ((o.kind : Int) == 17) = true := by simp; omega
  have HP : Hid (Pro B w W e l s o) := hP
  have HZ : Hid (ZR B w e l s) := h.zr
  have hbd : Below W.heap.size W W.drew := (Below.refl _ _).drew
  have hz : zstep s o = (zrs s (zck Flt.fl s.I s.ie).2.1 (zck Flt.fl s.I s.ie).2.2, readA (zrs s (zck Flt.fl s.I s.ie).2.1 (zck Flt.fl s.I s.ie).2.2) 0 (zck Flt.fl s.I s.ie).1) := by
    unfold zstep
    rw [if_neg (by omega), if_neg (by omega), if_neg (by omega), if_neg (by omega), if_neg (by omega), if_neg (by omega), if_neg (by omega), if_neg (by omega), if_neg (by omega), if_neg (by omega), if_neg (by omega), if_neg (by omega), if_neg (by omega), if_neg (by omega), if_neg (by omega), if_neg (by omega), if_neg (by omega), if_pos h0]
  obtain ⟨S1, hS1e⟩ : ∃ S1, zrs s (zck Flt.fl s.I s.ie).2.1 (zck Flt.fl s.I s.ie).2.2 = S1 := ⟨_, rfl⟩
  obtain ⟨dat, hde⟩ : ∃ dat, (zck Flt.fl s.I s.ie).1 = dat := ⟨_, rfl⟩
  obtain ⟨n, hn⟩ : ∃ n, dat.length = n := ⟨_, rfl⟩
  rw [hS1e, hde] at hz
  have HZS : Hid (zstep s o = (S1, readA S1 0 dat)) := hz
  have ld := h.zr.fl.lt
  have HOp : Hid (Calls Tryz.prog 36 #[.pointer (some ⟨l.rb, 0, none⟩)] W (TkPost B W e l S1 dat n)) := by
    have he := zcheck_zck (f := Flt.fl) (bs := l.bs) (off := l.off) (ie := s.ie)
    rw [← hP.zr.hI] at he
    have hb0 : Below W.heap.size W W := Below.refl _ _
    have hZd := hP.zr.below hb0
    have hEd := (RSt.start hP.zr hb0).eb hP.zr hP.E
    refine (roF_any hEd hZd.rd).mono ?_
    intro r w' h1
    have h2 := hZd.taken hb0 hP.zr h1
    rw [he.1, he.2.1, he.2.2, hS1e, hde, hn] at h2
    exact h2
  have HRd : Hid (∀ V1 a c off', RSt B W V1 e l { l with off := off' } S1 → BRow V1 a dat → (dat ≠ [] → ∀ b o', a = some ⟨b, o', none⟩ → RB { l with off := off' } b) → Calls Tryz.prog 31 #[.pointer (some ⟨l.d, 0, none⟩), .int .u64 (0 : Int), .slice a n c] V1 fun r V2 => r = .returned (ansV 0 0 S1.I.length 0 a n c (errCode S1.ie)) ∧ RSt B W V2 e l { l with off := off' } S1 ∧ Res V2 (w.heap.size + 1) ∧ StR B w e l s o (.returned (ansV 0 0 S1.I.length 0 a n c (errCode S1.ie))) (ansW V2 (w.heap.size + 1) (.int .u32 ((0 : Nat) : Int)) (.int .u32 ((0 : Nat) : Int)) (.int .u64 (S1.I.length : Int)) (.int .u64 ((0 : Nat) : Int)) (.slice a n c) (.int .u8 (errCode S1.ie : Int)))) := fun V1 a c off' h1 h2 h3 => readEnd (x := 0) hP h.zr hz h1 h2 hn h3
  generalize hq : S1.I.length = q at *
  generalize hec : errCode S1.ie = ec at *
  have m8 := hP.zr.m8
  clear hz hbd hS1e ld hde hn
  unfold opB ans0 at hW
  unfold opV
  clear h hP h0
  go_enter Tryz.func7, Tryz.ntmps7
  go_wp2_with fail
  refine Calls.mono HOp.out ?_
  rintro r V1 ⟨a, c, off', rfl, hS1, hrow, hrb⟩
  have HR1 := HRd.out V1 a c off' hS1 hrow hrb
  have HR2 : Hid _ := HR1
  clear hS1 hrow hrb HR1 hW
  go_wp2_with fail
  refine Calls.mono HR2.out ?_
  rintro r V2 ⟨rfl, hS2, hres, hfin⟩
  have HF : Hid _ := hfin
  have HRes : Hid (Res V2 (w.heap.size + 1)) := hres
  obtain ⟨r0, r1, r2, r3, r4, r5, rf⟩ := hres.cells
  clear hS2 hres hfin HR2 HOp HRd
  go_wp2
  exact retStep rfl rfl HRes.out HF.out

set_option maxRecDepth 100000 in
set_option maxHeartbeats 2000000 in
theorem zr14 {B : Nat} {w : World} {e : Nat → Addr} {l : Rl} {s : ZSt} {o : OpD} (h : InZ B w e l s o) (h0 : o.kind = 14) :
    Calls Tryz.prog 7 #[.pointer (some ⟨l.d, 0, none⟩), opV o] w (StR B w e l s o) := by
  obtain ⟨W, hW⟩ : ∃ W, (w.alloc (opB o)).alloc ans0 = W := ⟨_, rfl⟩
  have hP := pro h hW
  have c0 : W.cell? ⟨w.heap.size, 0, none⟩ = some (.int .u8 (o.kind : Int)) := hP.cell 0
  have c3 : W.cell? ⟨w.heap.size, 3, none⟩ = some (.int .i64 o.n) := hP.cell 3
  have b0 : ((o.kind : Int) == 0) = false := by simp; omega
  have b1 : ((o.kind : Int) == 1) = false := by simp; omega
  have b2 : ((o.kind : Int) == 2) = false := by simp; omega
  have b3 : ((o.kind : Int) == 3) = false := by simp; omega
  have b4 : ((o.kind : Int) == 4) = false := by simp; omega
  have b5 : ((o.kind : Int) == 5) = false := by simp; omega
  have b6 : ((o.kind : Int) == 6) = false := by simp; omega
  have b7 : ((o.kind : Int) == 7) = false := by simp; omega
  have b8 : ((o.kind : Int) == 8) = false := by simp; omega
  have b9 : ((o.kind : Int) == 9) = false := by simp; omega
  have b10 : ((o.kind : Int) == 10) = false := by simp; omega
  have b11 : ((o.kind : Int) == 11) = false := by simp; omega
  have b12 : ((o.kind : Int) == 12) = false := by simp; omega
  have b13 : ((o.kind : Int) == 13) = false := by simp; omega
  have b14 : ((o.kind : Int) == 14) = true := by simp; omega
  have HP : Hid (Pro B w W e l s o) := hP
  have HZ : Hid (ZR B w e l s) := h.zr
  have hbd : Below W.heap.size W W.drew := (Below.refl _ _).drew
  have hz : zstep s o = (zrs s (zrd s.I s.ie o.n).2.1 (zrd s.I s.ie o.n).2.2, readA (zrs s (zrd s.I s.ie o.n).2.1 (zrd s.I s.ie o.n).2.2) 0 (zrd s.I s.ie o.n).1) := by
    unfold zstep
    rw [if_neg (by omega), if_neg (by omega), if_neg (by omega), if_neg (by omega), if_neg (by omega), if_neg (by omega), if_neg (by omega), if_neg (by omega), if_neg (by omega), if_neg (by omega), if_neg (by omega), if_neg (by omega), if_neg (by omega), if_neg (by omega), if_pos h0]
  obtain ⟨S1, hS1e⟩ : ∃ S1, zrs s (zrd s.I s.ie o.n).2.1 (zrd s.I s.ie o.n).2.2 = S1 := ⟨_, rfl⟩
  obtain ⟨dat, hde⟩ : ∃ dat, (zrd s.I s.ie o.n).1 = dat := ⟨_, rfl⟩
  obtain ⟨n, hn⟩ : ∃ n, dat.length = n := ⟨_, rfl⟩
  rw [hS1e, hde] at hz
  have HZS : Hid (zstep s o = (S1, readA S1 0 dat)) := hz
  have ld := h.zr.fl.lt
  have HOp : Hid (Calls Tryz.prog 33 #[.pointer (some ⟨l.rb, 0, none⟩), .int .i64 o.n] W.drew (TkPost B W e l S1 dat n)) := by
    have he := znext_zrd (bs := l.bs) (off := l.off) (ie := s.ie) (n := o.n)
    rw [← hP.zr.hI] at he
    have hb0 : Below W.heap.size W W.drew := hbd
    have hZd := hP.zr.below hb0
    have hEd := (RSt.start hP.zr hb0).eb hP.zr hP.E
    refine (rtake_any o.n h.op.hn.1 h.op.hn.2 hEd.E hZd.rd).mono ?_
    intro r w' h1
    have h2 := hZd.taken hb0 hP.zr h1
    rw [he.1, he.2.1, he.2.2, hS1e, hde, hn] at h2
    exact h2
  have HRd : Hid (∀ V1 a c off', RSt B W V1 e l { l with off := off' } S1 → BRow V1 a dat → (dat ≠ [] → ∀ b o', a = some ⟨b, o', none⟩ → RB { l with off := off' } b) → Calls Tryz.prog 31 #[.pointer (some ⟨l.d, 0, none⟩), .int .u64 (0 : Int), .slice a n c] V1 fun r V2 => r = .returned (ansV 0 0 S1.I.length 0 a n c (errCode S1.ie)) ∧ RSt B W V2 e l { l with off := off' } S1 ∧ Res V2 (w.heap.size + 1) ∧ StR B w e l s o (.returned (ansV 0 0 S1.I.length 0 a n c (errCode S1.ie))) (ansW V2 (w.heap.size + 1) (.int .u32 ((0 : Nat) : Int)) (.int .u32 ((0 : Nat) : Int)) (.int .u64 (S1.I.length : Int)) (.int .u64 ((0 : Nat) : Int)) (.slice a n c) (.int .u8 (errCode S1.ie : Int)))) := fun V1 a c off' h1 h2 h3 => readEnd (x := 0) hP h.zr hz h1 h2 hn h3
  generalize hq : S1.I.length = q at *
  generalize hec : errCode S1.ie = ec at *
  have HKd : Hid (W.drew.cell? ⟨l.d, 8, none⟩ = some (.pointer (some ⟨l.rb, 0, none⟩)) ∧ W.drew.cell? ⟨w.heap.size, 3, none⟩ = some (.int .i64 o.n)) := ⟨(hP.zr.below hbd).m8, (RSt.start hP.zr hbd).opc hP h.zr 3 |>.trans (hP.cell 3)⟩
  have HKv : Hid (∀ V off', RSt B W V e l { l with off := off' } S1 → V.cell? ⟨l.d, 8, none⟩ = some (.pointer (some ⟨l.rb, 0, none⟩)) ∧ V.cell? ⟨w.heap.size, 3, none⟩ = some (.int .i64 o.n)) := fun V off' hS => ⟨hS.zr.m8, (hS.opc hP h.zr 3).trans (hP.cell 3)⟩
  have HKs : Hid (∀ V p q r t u x, (V.cell? ⟨l.d, 8, none⟩ = some (.pointer (some ⟨l.rb, 0, none⟩)) ∧ V.cell? ⟨w.heap.size, 3, none⟩ = some (.int .i64 o.n)) → (ansW V (w.heap.size + 1) p q r t u x).cell? ⟨l.d, 8, none⟩ = some (.pointer (some ⟨l.rb, 0, none⟩)) ∧ (ansW V (w.heap.size + 1) p q r t u x).cell? ⟨w.heap.size, 3, none⟩ = some (.int .i64 o.n)) := fun V p q r t u x hV => ⟨(Only.cell (ansW_only V (w.heap.size + 1) p q r t u x) (by omega)).trans hV.1, (Only.cell (ansW_only V (w.heap.size + 1) p q r t u x) (by omega)).trans hV.2⟩
  unfold ansW at HKs
  clear hz hbd hS1e ld hde hn
  unfold opB ans0 at hW
  unfold opV
  clear h hP h0
  go_enter Tryz.func7, Tryz.ntmps7
  go_upto_region 40 with fail
  clear hW
  go_region_held3 (fun w' => w'.cell? ⟨l.d, 8, none⟩ = some (.pointer (some ⟨l.rb, 0, none⟩)) ∧ w'.cell? ⟨w.heap.size, 3, none⟩ = some (.int .i64 o.n))
    (first | with_reducible exact HKd.out | with_reducible exact HKx.out | with_reducible exact HKy.out | with_reducible exact HKs.out _ _ _ _ _ _ _ HKy.out)
    (first
      | (go_at_call 33; refine HOp.out.mono ?_; rintro r V1 ⟨a, c, off', rfl, hS1, hrow, hrb⟩; have HS0 : Hid (RSt B W V1 e l { l with off := off' } S1) := hS1; have HKx : Hid (V1.cell? ⟨l.d, 8, none⟩ = some (.pointer (some ⟨l.rb, 0, none⟩)) ∧ V1.cell? ⟨w.heap.size, 3, none⟩ = some (.int .i64 o.n)) := HKv.out V1 off' hS1; have HR1 := HRd.out V1 a c off' hS1 hrow hrb; have HR2 : Hid _ := HR1; clear hS1 hrow hrb HR1)
      | (go_at_call 31; refine Calls.mono HR2.out ?_; rintro r V2 ⟨rfl, hS2, hres, hfin⟩; have HKy : Hid (V2.cell? ⟨l.d, 8, none⟩ = some (.pointer (some ⟨l.rb, 0, none⟩)) ∧ V2.cell? ⟨w.heap.size, 3, none⟩ = some (.int .i64 o.n)) := HKv.out V2 off' hS2; have HF : Hid _ := hfin; have HRes : Hid (Res V2 (w.heap.size + 1)) := hres; obtain ⟨r0, r1, r2, r3, r4, r5, rf⟩ := hres.cells; clear hS2 hres hfin))
  go_wp2
  exact retStep rfl rfl HRes.out HF.out

set_option maxRecDepth 100000 in
set_option maxHeartbeats 2000000 in
theorem zr16 {B : Nat} {w : World} {e : Nat → Addr} {l : Rl} {s : ZSt} {o : OpD} (h : InZ B w e l s o) (h0 : o.kind = 16) :
    Calls Tryz.prog 7 #[.pointer (some ⟨l.d, 0, none⟩), opV o] w (StR B w e l s o) := by
  obtain ⟨W, hW⟩ : ∃ W, (w.alloc (opB o)).alloc ans0 = W := ⟨_, rfl⟩
  have hP := pro h hW
  have c0 : W.cell? ⟨w.heap.size, 0, none⟩ = some (.int .u8 (o.kind : Int)) := hP.cell 0

  have b0 : ((o.kind : Int) == 0) = false := by simp; omega
  have b1 : ((o.kind : Int) == 1) = false := by simp; omega
  have b2 : ((o.kind : Int) == 2) = false := by simp; omega
  have b3 : ((o.kind : Int) == 3) = false := by simp; omega
  have b4 : ((o.kind : Int) == 4) = false := by simp; omega
  have b5 : ((o.kind : Int) == 5) = false := by simp; omega
  have b6 : ((o.kind : Int) == 6) = false := by simp; omega
  have b7 : ((o.kind : Int) == 7) = false := by simp; omega
  have b8 : ((o.kind : Int) == 8) = false := by simp; omega
  have b9 : ((o.kind : Int) == 9) = false := by simp; omega
  have b10 : ((o.kind : Int) == 10) = false := by simp; omega
  have b11 : ((o.kind : Int) == 11) = false := by simp; omega
  have b12 : ((o.kind : Int) == 12) = false := by simp; omega
  have b13 : ((o.kind : Int) == 13) = false := by simp; omega
  have b14 : ((o.kind : Int) == 14) = false := by simp; omega
  have b15 : ((o.kind : Int) == 15) = false := by simp; omega
  have b16 : ((o.kind : Int) == 16) = true := by simp; omega
  have HP : Hid (Pro B w W e l s o) := hP
  have HZ : Hid (ZR B w e l s) := h.zr
  have hbd : Below W.heap.size W W.drew := (Below.refl _ _).drew
  have hz : zstep s o = (zrs s (zck Crc.crc s.I s.ie).2.1 (zck Crc.crc s.I s.ie).2.2, readA (zrs s (zck Crc.crc s.I s.ie).2.1 (zck Crc.crc s.I s.ie).2.2) 0 (zck Crc.crc s.I s.ie).1) := by
    unfold zstep
    rw [if_neg (by omega), if_neg (by omega), if_neg (by omega), if_neg (by omega), if_neg (by omega), if_neg (by omega), if_neg (by omega), if_neg (by omega), if_neg (by omega), if_neg (by omega), if_neg (by omega), if_neg (by omega), if_neg (by omega), if_neg (by omega), if_neg (by omega), if_neg (by omega), if_pos h0]
  obtain ⟨S1, hS1e⟩ : ∃ S1, zrs s (zck Crc.crc s.I s.ie).2.1 (zck Crc.crc s.I s.ie).2.2 = S1 := ⟨_, rfl⟩
  obtain ⟨dat, hde⟩ : ∃ dat, (zck Crc.crc s.I s.ie).1 = dat := ⟨_, rfl⟩
  obtain ⟨n, hn⟩ : ∃ n, dat.length = n := ⟨_, rfl⟩
  rw [hS1e, hde] at hz
  have HZS : Hid (zstep s o = (S1, readA S1 0 dat)) := hz
  have ld := h.zr.fl.lt
  have HOp : Hid (Calls Tryz.prog 35 #[.pointer (some ⟨l.rb, 0, none⟩), .pointer (some ⟨l.tb, 0, none⟩)] W.drew (TkPost B W e l S1 dat n)) := by
    have he := zcheck_zck (f := Crc.crc) (bs := l.bs) (off := l.off) (ie := s.ie)
    rw [← hP.zr.hI] at he
    have hb0 : Below W.heap.size W W.drew := hbd
    have hZd := hP.zr.below hb0
    have hEd := (RSt.start hP.zr hb0).eb hP.zr hP.E
    refine (roC_any hEd hZd.rd l.tb hZd.tab hZd.n2.2.2).mono ?_
    intro r w' h1
    have h2 := hZd.taken hb0 hP.zr h1
    rw [he.1, he.2.1, he.2.2, hS1e, hde, hn] at h2
    exact h2
  have HRd : Hid (∀ V1 a c off', RSt B W V1 e l { l with off := off' } S1 → BRow V1 a dat → (dat ≠ [] → ∀ b o', a = some ⟨b, o', none⟩ → RB { l with off := off' } b) → Calls Tryz.prog 31 #[.pointer (some ⟨l.d, 0, none⟩), .int .u64 (0 : Int), .slice a n c] V1 fun r V2 => r = .returned (ansV 0 0 S1.I.length 0 a n c (errCode S1.ie)) ∧ RSt B W V2 e l { l with off := off' } S1 ∧ Res V2 (w.heap.size + 1) ∧ StR B w e l s o (.returned (ansV 0 0 S1.I.length 0 a n c (errCode S1.ie))) (ansW V2 (w.heap.size + 1) (.int .u32 ((0 : Nat) : Int)) (.int .u32 ((0 : Nat) : Int)) (.int .u64 (S1.I.length : Int)) (.int .u64 ((0 : Nat) : Int)) (.slice a n c) (.int .u8 (errCode S1.ie : Int)))) := fun V1 a c off' h1 h2 h3 => readEnd (x := 0) hP h.zr hz h1 h2 hn h3
  generalize hq : S1.I.length = q at *
  generalize hec : errCode S1.ie = ec at *
  have HKd : Hid (W.drew.cell? ⟨l.d, 8, none⟩ = some (.pointer (some ⟨l.rb, 0, none⟩)) ∧ W.drew.cell? ⟨l.d, 0, none⟩ = some (.pointer (some ⟨l.tb, 0, none⟩))) := ⟨(hP.zr.below hbd).m8, (hP.zr.below hbd).m0⟩
  have HKv : Hid (∀ V off', RSt B W V e l { l with off := off' } S1 → V.cell? ⟨l.d, 8, none⟩ = some (.pointer (some ⟨l.rb, 0, none⟩)) ∧ V.cell? ⟨l.d, 0, none⟩ = some (.pointer (some ⟨l.tb, 0, none⟩))) := fun V off' hS => ⟨hS.zr.m8, hS.zr.m0⟩
  have HKs : Hid (∀ V p q r t u x, (V.cell? ⟨l.d, 8, none⟩ = some (.pointer (some ⟨l.rb, 0, none⟩)) ∧ V.cell? ⟨l.d, 0, none⟩ = some (.pointer (some ⟨l.tb, 0, none⟩))) → (ansW V (w.heap.size + 1) p q r t u x).cell? ⟨l.d, 8, none⟩ = some (.pointer (some ⟨l.rb, 0, none⟩)) ∧ (ansW V (w.heap.size + 1) p q r t u x).cell? ⟨l.d, 0, none⟩ = some (.pointer (some ⟨l.tb, 0, none⟩))) := fun V p q r t u x hV => ⟨(Only.cell (ansW_only V (w.heap.size + 1) p q r t u x) (by omega)).trans hV.1, (Only.cell (ansW_only V (w.heap.size + 1) p q r t u x) (by omega)).trans hV.2⟩
  unfold ansW at HKs
  clear hz hbd hS1e ld hde hn
  unfold opB ans0 at hW
  unfold opV
  clear h hP h0
  go_enter Tryz.func7, Tryz.ntmps7
  go_upto_region 45 with fail
  clear hW
  go_region_held3 (fun w' => w'.cell? ⟨l.d, 8, none⟩ = some (.pointer (some ⟨l.rb, 0, none⟩)) ∧ w'.cell? ⟨l.d, 0, none⟩ = some (.pointer (some ⟨l.tb, 0, none⟩)))
    (first | with_reducible exact HKd.out | with_reducible exact HKx.out | with_reducible exact HKy.out | with_reducible exact HKs.out _ _ _ _ _ _ _ HKy.out)
    (first
      | (go_at_call 35; refine HOp.out.mono ?_; rintro r V1 ⟨a, c, off', rfl, hS1, hrow, hrb⟩; have HS0 : Hid (RSt B W V1 e l { l with off := off' } S1) := hS1; have HKx : Hid (V1.cell? ⟨l.d, 8, none⟩ = some (.pointer (some ⟨l.rb, 0, none⟩)) ∧ V1.cell? ⟨l.d, 0, none⟩ = some (.pointer (some ⟨l.tb, 0, none⟩))) := HKv.out V1 off' hS1; have HR1 := HRd.out V1 a c off' hS1 hrow hrb; have HR2 : Hid _ := HR1; clear hS1 hrow hrb HR1)
      | (go_at_call 31; refine Calls.mono HR2.out ?_; rintro r V2 ⟨rfl, hS2, hres, hfin⟩; have HKy : Hid (V2.cell? ⟨l.d, 8, none⟩ = some (.pointer (some ⟨l.rb, 0, none⟩)) ∧ V2.cell? ⟨l.d, 0, none⟩ = some (.pointer (some ⟨l.tb, 0, none⟩))) := HKv.out V2 off' hS2; have HF : Hid _ := hfin; have HRes : Hid (Res V2 (w.heap.size + 1)) := hres; obtain ⟨r0, r1, r2, r3, r4, r5, rf⟩ := hres.cells; clear hS2 hres hfin))
  go_wp2
  exact retStep rfl rfl HRes.out HF.out
end Go.Proofs.Qxb6500698aGreatDoor
