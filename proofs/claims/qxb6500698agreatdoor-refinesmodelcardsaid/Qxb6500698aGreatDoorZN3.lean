/-
  THE STEPS OF THE MODEL: KTake, KSkip, KCheckCRC, KCheckFletcher, KOpenRaw, KOpen.
-/
import Derived.Test.Qxb6500698aGreatDoorZN1
import Derived.Deep.RegionHeld3
namespace Go.Proofs.Qxb6500698aGreatDoor
open Go.RowKit

theorem zrd_le {I : List Nat} {ie : Option Nat} {n : Int} : (zrd I ie n).1.length ≤ I.length := by
  unfold zrd
  split
  · split
    · exact Nat.zero_le _
    · split
      · exact Nat.zero_le _
      · show (I.take n.toNat).length ≤ _
        rw [List.length_take]; omega
  · exact Nat.zero_le _
theorem zck_le {f : List Nat → Nat} {I : List Nat} {ie : Option Nat} : (zck f I ie).1.length ≤ I.length := by
  unfold zck
  split
  · show (zopen f I).1.length ≤ _
    unfold zopen
    split
    · exact Nat.zero_le _
    · split
      · show (I.take _).length ≤ _
        rw [List.length_take]; omega
      · exact Nat.zero_le _
  · exact Nat.zero_le _

set_option maxRecDepth 100000 in
set_option maxHeartbeats 2000000 in
theorem zm14 {B : Nat} {w : World} {l : Ml} {s : ZSt} {o : OpD} (h : InN B w l s o) (h0 : o.kind = 14) :
    Calls Tryz.prog 9 #[.pointer (some ⟨l.sb, 0, none⟩), opV o] w (StM B w l s o) := by
  obtain ⟨W, hW⟩ : ∃ W, (w.alloc (opB o)).alloc ans0 = W := ⟨_, rfl⟩
  have hP := proM h hW
  have c0 : W.cell? ⟨w.heap.size, 0, none⟩ = some (.int .u8 (o.kind : Int)) := hP.cell 0
  have c3 : W.cell? ⟨w.heap.size, 3, none⟩ = some (.int .i64 o.n) := hP.cell 3
  have b0 : ((o.kind : Int) == 0) = false := by simp; omega
  have b1 : ((o.kind : Int) == 1) = false := by simp; omega
  have b2 : ((o.kind : Int) == 2) = false := by simp; omega
  have b3 : ((o.kind : Int) == 3) = false := by simp; omega
  have b4 : ((o.kind : Int) == 4) = false := by simp; omega
  have b5 : ((o.kind : Int) == 5) = false := by simp; omega
  have b6 : ((o.kind : Int) == 6) = false := by simp; omega
  have b7 : ((o.kind : Int) == 7) = false := by simp; omega
  have b8 : ((o.kind : Int) == 8) = false := by simp; omega
  have b9 : ((o.kind : Int) == 9) = false := by simp; omega
  have b10 : ((o.kind : Int) == 10) = false := by simp; omega
  have b11 : ((o.kind : Int) == 11) = false := by simp; omega
  have b12 : ((o.kind : Int) == 12) = false := by simp; omega
  have b13 : ((o.kind : Int) == 13) = false := by simp; omega
  have b14 : ((o.kind : Int) == 14) = true := by simp; omega
  have HP : Hid (ProM B w W l s o) := hP
  have hbd : Below W.heap.size W W.drew := (Below.refl _ _).drew
  have hBW : B ≤ W.heap.size := by have h1 := hP.Bw; have h2 := hP.sz; omega
  have hz : zstep s o = (zrs s (zrd s.I s.ie o.n).2.1 (zrd s.I s.ie o.n).2.2, readA (zrs s (zrd s.I s.ie o.n).2.1 (zrd s.I s.ie o.n).2.2) 0 (zrd s.I s.ie o.n).1) := by
    unfold zstep
    rw [if_neg (by omega), if_neg (by omega), if_neg (by omega), if_neg (by omega), if_neg (by omega), if_neg (by omega), if_neg (by omega), if_neg (by omega), if_neg (by omega), if_neg (by omega), if_neg (by omega), if_neg (by omega), if_neg (by omega), if_neg (by omega), if_pos h0]
  obtain ⟨S1, hS1e⟩ : ∃ S1, zrs s (zrd s.I s.ie o.n).2.1 (zrd s.I s.ie o.n).2.2 = S1 := ⟨_, rfl⟩
  obtain ⟨dat, hde⟩ : ∃ dat, (zrd s.I s.ie o.n).1 = dat := ⟨_, rfl⟩
  obtain ⟨n, hn⟩ : ∃ n, dat.length = n := ⟨_, rfl⟩
  rw [hS1e, hde] at hz
  have HZS : Hid (zstep s o = (S1, readA S1 0 dat)) := hz
  have hn65 : n ≤ 65536 := by
    have h1 : ((zrd s.I s.ie o.n).1).length ≤ s.I.length := zrd_le
    have h2 := hP.zm.il
    rw [hde, hn] at h1
    omega
  have HOp : Hid (Calls Tryz.prog 48 #[.pointer (some ⟨l.sb, 0, none⟩), .int .i64 o.n] W fun r w' => ∃ a c ia' ic', r = .returned (.slice a n c) ∧ BRow w' a dat ∧ MSt B W w' l { l with ia := ia', ic := ic' } s S1) := by
    refine (mread_any o.n h.op.hn.1 h.op.hn.2 hP.zm).mono ?_
    rintro r w' ⟨a, c, ia', ic', h1, h2, _, _, h3⟩
    rw [hde] at h1 h2
    rw [hn] at h1
    rw [hS1e] at h3
    exact ⟨a, c, ia', ic', h1, h2, h3⟩
  have HRd : Hid (∀ V1 L1 a c, MSt B W V1 l L1 s S1 → BRow V1 a dat → Calls Tryz.prog 45 #[.pointer (some ⟨l.sb, 0, none⟩), .int .u64 (0 : Int), .slice a n c] V1 fun r V2 => ∃ a' c', r = .returned (ansV 0 0 S1.I.length 0 a' n c' (errCode S1.ie)) ∧ MSt B W V2 l L1 s S1 ∧ Res V2 (w.heap.size + 1) ∧ StM B w l s o (.returned (ansV 0 0 S1.I.length 0 a' n c' (errCode S1.ie))) (ansW V2 (w.heap.size + 1) (.int .u32 ((0 : Nat) : Int)) (.int .u32 ((0 : Nat) : Int)) (.int .u64 (S1.I.length : Int)) (.int .u64 (0 : Int)) (.slice a' n c') (.int .u8 (errCode S1.ie : Int)))) := fun V1 L1 a c h1 h2 => showEnd (x := 0) hP hz h1 h2 hn hn65
  generalize hq : S1.I.length = q at *
  generalize hec : errCode S1.ie = ec at *
  clear hz hbd hS1e hBW hde hn hq hec hn65
  unfold opB ans0 at hW
  unfold opV
  clear h hP h0
  go_enter Tryz.func9, Tryz.ntmps9
  go_wp2_with fail
  refine Calls.mono HOp.out ?_
  rintro r V1 ⟨a, c, ia', ic', rfl, hrow, hS1⟩
  have HR2 : Hid _ := HRd.out V1 _ a c hS1 hrow
  clear hS1 hrow HRd HOp hW
  go_wp2_with fail
  refine Calls.mono HR2.out ?_
  rintro r V2 ⟨a2, c2, rfl, _, hres, hfin⟩
  have HF : Hid _ := hfin
  have HRes : Hid (Res V2 (w.heap.size + 1)) := hres
  obtain ⟨r0, r1, r2, r3, r4, r5, rf⟩ := hres.cells
  clear hres hfin HR2
  go_wp2
  exact retStepM rfl rfl HRes.out HF.out

set_option maxRecDepth 100000 in
set_option maxHeartbeats 2000000 in
theorem zm15 {B : Nat} {w : World} {l : Ml} {s : ZSt} {o : OpD} (h : InN B w l s o) (h0 : o.kind = 15) :
    Calls Tryz.prog 9 #[.pointer (some ⟨l.sb, 0, none⟩), opV o] w (StM B w l s o) := by
  obtain ⟨W, hW⟩ : ∃ W, (w.alloc (opB o)).alloc ans0 = W := ⟨_, rfl⟩
  have hP := proM h hW
  have c0 : W.cell? ⟨w.heap.size, 0, none⟩ = some (.int .u8 (o.kind : Int)) := hP.cell 0
  have c3 : W.cell? ⟨w.heap.size, 3, none⟩ = some (.int .i64 o.n) := hP.cell 3
  have b0 : ((o.kind : Int) == 0) = false := by simp; omega
  have b1 : ((o.kind : Int) == 1) = false := by simp; omega
  have b2 : ((o.kind : Int) == 2) = false := by simp; omega
  have b3 : ((o.kind : Int) == 3) = false := by simp; omega
  have b4 : ((o.kind : Int) == 4) = false := by simp; omega
  have b5 : ((o.kind : Int) == 5) = false := by simp; omega
  have b6 : ((o.kind : Int) == 6) = false := by simp; omega
  have b7 : ((o.kind : Int) == 7) = false := by simp; omega
  have b8 : ((o.kind : Int) == 8) = false := by simp; omega
  have b9 : ((o.kind : Int) == 9) = false := by simp; omega
  have b10 : ((o.kind : Int) == 10) = false := by simp; omega
  have b11 : ((o.kind : Int) == 11) = false := by simp; omega
  have b12 : ((o.kind : Int) == 12) = false := by simp; omega
  have b13 : ((o.kind : Int) == 13) = false := by simp; omega
  have b14 : ((o.kind : Int) == 14) = false := by simp; omega
  have b15 : ((o.kind : Int) == 15) = true := by simp; omega
  have HP : Hid (ProM B w W l s o) := hP
  have hbd : Below W.heap.size W W.drew := (Below.refl _ _).drew
  have hBW : B ≤ W.heap.size := by have h1 := hP.Bw; have h2 := hP.sz; omega
  have hz : zstep s o = (zrs s (zrd s.I s.ie o.n).2.1 (zrd s.I s.ie o.n).2.2, readA (zrs s (zrd s.I s.ie o.n).2.1 (zrd s.I s.ie o.n).2.2) 0 []) := by
    unfold zstep
    rw [if_neg (by omega), if_neg (by omega), if_neg (by omega), if_neg (by omega), if_neg (by omega), if_neg (by omega), if_neg (by omega), if_neg (by omega), if_neg (by omega), if_neg (by omega), if_neg (by omega), if_neg (by omega), if_neg (by omega), if_neg (by omega), if_neg (by omega), if_pos h0]
  obtain ⟨S1, hS1e⟩ : ∃ S1, zrs s (zrd s.I s.ie o.n).2.1 (zrd s.I s.ie o.n).2.2 = S1 := ⟨_, rfl⟩
  obtain ⟨dat, hde⟩ : ∃ dat, (zrd s.I s.ie o.n).1 = dat := ⟨_, rfl⟩
  obtain ⟨n, hn⟩ : ∃ n, dat.length = n := ⟨_, rfl⟩
  rw [hS1e] at hz
  have HZS : Hid (zstep s o = (S1, readA S1 0 [])) := hz
  have hn65 : n ≤ 65536 := by
    have h1 : ((zrd s.I s.ie o.n).1).length ≤ s.I.length := zrd_le
    have h2 := hP.zm.il
    rw [hde, hn] at h1
    omega
  have HOp : Hid (Calls Tryz.prog 48 #[.pointer (some ⟨l.sb, 0, none⟩), .int .i64 o.n] W fun r w' => ∃ a c ia' ic', r = .returned (.slice a n c) ∧ BRow w' a dat ∧ MSt B W w' l { l with ia := ia', ic := ic' } s S1) := by
    refine (mread_any o.n h.op.hn.1 h.op.hn.2 hP.zm).mono ?_
    rintro r w' ⟨a, c, ia', ic', h1, h2, _, _, h3⟩
    rw [hde] at h1 h2
    rw [hn] at h1
    rw [hS1e] at h3
    exact ⟨a, c, ia', ic', h1, h2, h3⟩
  have HRd : Hid (∀ V1 L1 a c, MSt B W V1 l L1 s S1 → BRow V1 a [] → Calls Tryz.prog 45 #[.pointer (some ⟨l.sb, 0, none⟩), .int .u64 (0 : Int), .slice a 0 c] V1 fun r V2 => ∃ a' c', r = .returned (ansV 0 0 S1.I.length 0 a' 0 c' (errCode S1.ie)) ∧ MSt B W V2 l L1 s S1 ∧ Res V2 (w.heap.size + 1) ∧ StM B w l s o (.returned (ansV 0 0 S1.I.length 0 a' 0 c' (errCode S1.ie))) (ansW V2 (w.heap.size + 1) (.int .u32 ((0 : Nat) : Int)) (.int .u32 ((0 : Nat) : Int)) (.int .u64 (S1.I.length : Int)) (.int .u64 (0 : Int)) (.slice a' 0 c') (.int .u8 (errCode S1.ie : Int)))) := fun V1 L1 a c h1 h2 => showEnd (x := 0) hP hz h1 h2 rfl (by omega)
  generalize hq : S1.I.length = q at *
  generalize hec : errCode S1.ie = ec at *
  clear hz hbd hS1e hBW hde hn hq hec hn65
  unfold opB ans0 at hW
  unfold opV
  clear h hP h0
  go_enter Tryz.func9, Tryz.ntmps9
  go_wp2_with fail
  refine Calls.mono HOp.out ?_
  rintro r V1 ⟨a, c, ia', ic', rfl, hrow, hS1⟩
  have HR2 : Hid _ := HRd.out V1 _ none 0 hS1 (BRow.nil _ _)
  clear hS1 hrow HRd HOp hW
  go_wp2_with fail
  refine Calls.mono HR2.out ?_
  rintro r V2 ⟨a2, c2, rfl, _, hres, hfin⟩
  have HF : Hid _ := hfin
  have HRes : Hid (Res V2 (w.heap.size + 1)) := hres
  obtain ⟨r0, r1, r2, r3, r4, r5, rf⟩ := hres.cells
  clear hres hfin HR2
  go_wp2
  exact retStepM rfl rfl HRes.out HF.out

set_option maxRecDepth 100000 in
set_option maxHeartbeats 2000000 in
theorem zm16 {B : Nat} {w : World} {l : Ml} {s : ZSt} {o : OpD} (h : InN B w l s o) (h0 : o.kind = 16) :
    Calls Tryz.prog 9 #[.pointer (some ⟨l.sb, 0, none⟩), opV o] w (StM B w l s o) := by
  obtain ⟨W, hW⟩ : ∃ W, (w.alloc (opB o)).alloc ans0 = W := ⟨_, rfl⟩
  have hP := proM h hW
  have c0 : W.cell? ⟨w.heap.size, 0, none⟩ = some (.int .u8 (o.kind : Int)) := hP.cell 0

  have b0 : ((o.kind : Int) == 0) = false := by simp; omega
  have b1 : ((o.kind : Int) == 1) = false := by simp; omega
  have b2 : ((o.kind : Int) == 2) = false := by simp; omega
  have b3 : ((o.kind : Int) == 3) = false := by simp; omega
  have b4 : ((o.kind : Int) == 4) = false := by simp; omega
  have b5 : ((o.kind : Int) == 5) = false := by simp; omega
  have b6 : ((o.kind : Int) == 6) = false := by simp; omega
  have b7 : ((o.kind : Int) == 7) = false := by simp; omega
  have b8 : ((o.kind : Int) == 8) = false := by simp; omega
  have b9 : ((o.kind : Int) == 9) = false := by simp; omega
  have b10 : ((o.kind : Int) == 10) = false := by simp; omega
  have b11 : ((o.kind : Int) == 11) = false := by simp; omega
  have b12 : ((o.kind : Int) == 12) = false := by simp; omega
  have b13 : ((o.kind : Int) == 13) = false := by simp; omega
  have b14 : ((o.kind : Int) == 14) = false := by simp; omega
  have b15 : ((o.kind : Int) == 15) = false := by simp; omega
  have b16 : ((o.kind : Int) == 16) = true := by simp; omega
  have HP : Hid (ProM B w W l s o) := hP
  have hbd : Below W.heap.size W W.drew := (Below.refl _ _).drew
  have hBW : B ≤ W.heap.size := by have h1 := hP.Bw; have h2 := hP.sz; omega
  have hz : zstep s o = (zrs s (zck Crc.crc s.I s.ie).2.1 (zck Crc.crc s.I s.ie).2.2, readA (zrs s (zck Crc.crc s.I s.ie).2.1 (zck Crc.crc s.I s.ie).2.2) 0 (zck Crc.crc s.I s.ie).1) := by
    unfold zstep
    rw [if_neg (by omega), if_neg (by omega), if_neg (by omega), if_neg (by omega), if_neg (by omega), if_neg (by omega), if_neg (by omega), if_neg (by omega), if_neg (by omega), if_neg (by omega), if_neg (by omega), if_neg (by omega), if_neg (by omega), if_neg (by omega), if_neg (by omega), if_neg (by omega), if_pos h0]
  obtain ⟨S1, hS1e⟩ : ∃ S1, zrs s (zck Crc.crc s.I s.ie).2.1 (zck Crc.crc s.I s.ie).2.2 = S1 := ⟨_, rfl⟩
  obtain ⟨dat, hde⟩ : ∃ dat, (zck Crc.crc s.I s.ie).1 = dat := ⟨_, rfl⟩
  obtain ⟨n, hn⟩ : ∃ n, dat.length = n := ⟨_, rfl⟩
  rw [hS1e, hde] at hz
  have HZS : Hid (zstep s o = (S1, readA S1 0 dat)) := hz
  have hn65 : n ≤ 65536 := by
    have h1 : ((zck Crc.crc s.I s.ie).1).length ≤ s.I.length := zck_le
    have h2 := hP.zm.il
    rw [hde, hn] at h1
    omega
  have HOp : Hid (Calls Tryz.prog 49 #[.pointer (some ⟨l.sb, 0, none⟩), .func (.func 39) #[] #[]] W fun r w' => ∃ a c ia' ic', r = .returned (.slice a n c) ∧ BRow w' a dat ∧ MSt B W w' l { l with ia := ia', ic := ic' } s S1) := by
    refine (mcheckC hP.zm).mono ?_
    rintro r w' ⟨a, c, ia', ic', h1, h2, _, _, h3⟩
    rw [hde] at h1 h2
    rw [hn] at h1
    rw [hS1e] at h3
    exact ⟨a, c, ia', ic', h1, h2, h3⟩
  have HRd : Hid (∀ V1 L1 a c, MSt B W V1 l L1 s S1 → BRow V1 a dat → Calls Tryz.prog 45 #[.pointer (some ⟨l.sb, 0, none⟩), .int .u64 (0 : Int), .slice a n c] V1 fun r V2 => ∃ a' c', r = .returned (ansV 0 0 S1.I.length 0 a' n c' (errCode S1.ie)) ∧ MSt B W V2 l L1 s S1 ∧ Res V2 (w.heap.size + 1) ∧ StM B w l s o (.returned (ansV 0 0 S1.I.length 0 a' n c' (errCode S1.ie))) (ansW V2 (w.heap.size + 1) (.int .u32 ((0 : Nat) : Int)) (.int .u32 ((0 : Nat) : Int)) (.int .u64 (S1.I.length : Int)) (.int .u64 (0 : Int)) (.slice a' n c') (.int .u8 (errCode S1.ie : Int)))) := fun V1 L1 a c h1 h2 => showEnd (x := 0) hP hz h1 h2 hn hn65
  generalize hq : S1.I.length = q at *
  generalize hec : errCode S1.ie = ec at *
  clear hz hbd hS1e hBW hde hn hq hec hn65
  unfold opB ans0 at hW
  unfold opV
  clear h hP h0
  go_enter Tryz.func9, Tryz.ntmps9
  go_wp2_with fail
  refine Calls.mono HOp.out ?_
  rintro r V1 ⟨a, c, ia', ic', rfl, hrow, hS1⟩
  have HR2 : Hid _ := HRd.out V1 _ a c hS1 hrow
  clear hS1 hrow HRd HOp hW
  go_wp2_with fail
  refine Calls.mono HR2.out ?_
  rintro r V2 ⟨a2, c2, rfl, _, hres, hfin⟩
  have HF : Hid _ := hfin
  have HRes : Hid (Res V2 (w.heap.size + 1)) := hres
  obtain ⟨r0, r1, r2, r3, r4, r5, rf⟩ := hres.cells
  clear hres hfin HR2
  go_wp2
  exact retStepM rfl rfl HRes.out HF.out

set_option maxRecDepth 100000 in
set_option maxHeartbeats 2000000 in
theorem zm17 {B : Nat} {w : World} {l : Ml} {s : ZSt} {o : OpD} (h : InN B w l s o) (h0 : o.kind = 17) :
    Calls Tryz.prog 9 #[.pointer (some ⟨l.sb, 0, none⟩), opV o] w (StM B w l s o) := by
  obtain ⟨W, hW⟩ : ∃ W, (w.alloc (opB o)).alloc ans0 = W := ⟨_, rfl⟩
  have hP := proM h hW
  have c0 : W.cell? ⟨w.heap.size, 0, none⟩ = some (.int .u8 (o.kind : Int)) := hP.cell 0

  have b0 : ((o.kind : Int) == 0) = false := by simp; omega
  have b1 : ((o.kind : Int) == 1) = false := by simp; omega
  have b2 : ((o.kind : Int) == 2) = false := by simp; omega
  have b3 : ((o.kind : Int) == 3) = false := by simp; omega
  have b4 : ((o.kind : Int) == 4) = false := by simp; omega
  have b5 : ((o.kind : Int) == 5) = false := by simp; omega
  have b6 : ((o.kind : Int) == 6) = false := by simp; omega
  have b7 : ((o.kind : Int) == 7) = false := by simp; omega
  have b8 : ((o.kind : Int) == 8) = false := by simp; omega
  have b9 : ((o.kind : Int) == 9) = false := by simp; omega
  have b10 : ((o.kind : Int) == 10) = false := by simp; omega
  have b11 : ((o.kind : Int) == 11) = false := by simp; omega
  have b12 : ((o.kind : Int) == 12) = false := by simp; omega
  have b13 : ((o.kind : Int) == 13) = false := by simp; omega
  have b14 : ((o.kind : Int) == 14) = false := by simp; omega
  have b15 : ((o.kind : Int) == 15) = false := by simp; omega
  have b16 : ((o.kind : Int) == 16) = false := by simp; omega
  have b17 : ((o.kind : Int) == 17) = true := by simp; omega
  have HP : Hid (ProM B w W l s o) := hP
  have hbd : Below W.heap.size W W.drew := (Below.refl _ _).drew
  have hBW : B ≤ W.heap.size := by have h1 := hP.Bw; have h2 := hP.sz; omega
  have hz : zstep s o = (zrs s (zck Flt.fl s.I s.ie).2.1 (zck Flt.fl s.I s.ie).2.2, readA (zrs s (zck Flt.fl s.I s.ie).2.1 (zck Flt.fl s.I s.ie).2.2) 0 (zck Flt.fl s.I s.ie).1) := by
    unfold zstep
    rw [if_neg (by omega), if_neg (by omega), if_neg (by omega), if_neg (by omega), if_neg (by omega), if_neg (by omega), if_neg (by omega), if_neg (by omega), if_neg (by omega), if_neg (by omega), if_neg (by omega), if_neg (by omega), if_neg (by omega), if_neg (by omega), if_neg (by omega), if_neg (by omega), if_neg (by omega), if_pos h0]
  obtain ⟨S1, hS1e⟩ : ∃ S1, zrs s (zck Flt.fl s.I s.ie).2.1 (zck Flt.fl s.I s.ie).2.2 = S1 := ⟨_, rfl⟩
  obtain ⟨dat, hde⟩ : ∃ dat, (zck Flt.fl s.I s.ie).1 = dat := ⟨_, rfl⟩
  obtain ⟨n, hn⟩ : ∃ n, dat.length = n := ⟨_, rfl⟩
  rw [hS1e, hde] at hz
  have HZS : Hid (zstep s o = (S1, readA S1 0 dat)) := hz
  have hn65 : n ≤ 65536 := by
    have h1 : ((zck Flt.fl s.I s.ie).1).length ≤ s.I.length := zck_le
    have h2 := hP.zm.il
    rw [hde, hn] at h1
    omega
  have HOp : Hid (Calls Tryz.prog 49 #[.pointer (some ⟨l.sb, 0, none⟩), .func (.func 40) #[] #[]] W fun r w' => ∃ a c ia' ic', r = .returned (.slice a n c) ∧ BRow w' a dat ∧ MSt B W w' l { l with ia := ia', ic := ic' } s S1) := by
    refine (mcheckF hP.zm).mono ?_
    rintro r w' ⟨a, c, ia', ic', h1, h2, _, _, h3⟩
    rw [hde] at h1 h2
    rw [hn] at h1
    rw [hS1e] at h3
    exact ⟨a, c, ia', ic', h1, h2, h3⟩
  have HRd : Hid (∀ V1 L1 a c, MSt B W V1 l L1 s S1 → BRow V1 a dat → Calls Tryz.prog 45 #[.pointer (some ⟨l.sb, 0, none⟩), .int .u64 (0 : Int), .slice a n c] V1 fun r V2 => ∃ a' c', r = .returned (ansV 0 0 S1.I.length 0 a' n c' (errCode S1.ie)) ∧ MSt B W V2 l L1 s S1 ∧ Res V2 (w.heap.size + 1) ∧ StM B w l s o (.returned (ansV 0 0 S1.I.length 0 a' n c' (errCode S1.ie))) (ansW V2 (w.heap.size + 1) (.int .u32 ((0 : Nat) : Int)) (.int .u32 ((0 : Nat) : Int)) (.int .u64 (S1.I.length : Int)) (.int .u64 (0 : Int)) (.slice a' n c') (.int .u8 (errCode S1.ie : Int)))) := fun V1 L1 a c h1 h2 => showEnd (x := 0) hP hz h1 h2 hn hn65
  generalize hq : S1.I.length = q at *
  generalize hec : errCode S1.ie = ec at *
  clear hz hbd hS1e hBW hde hn hq hec hn65
  unfold opB ans0 at hW
  unfold opV
  clear h hP h0
  go_enter Tryz.func9, Tryz.ntmps9
  go_wp2_with fail
  refine Calls.mono HOp.out ?_
  rintro r V1 ⟨a, c, ia', ic', rfl, hrow, hS1⟩
  have HR2 : Hid _ := HRd.out V1 _ a c hS1 hrow
  clear hS1 hrow HRd HOp hW
  go_wp2_with fail
  refine Calls.mono HR2.out ?_
  rintro r V2 ⟨a2, c2, rfl, _, hres, hfin⟩
  have HF : Hid _ := hfin
  have HRes : Hid (Res V2 (w.heap.size + 1)) := hres
  obtain ⟨r0, r1, r2, r3, r4, r5, rf⟩ := hres.cells
  clear hres hfin HR2
  go_wp2
  exact retStepM rfl rfl HRes.out HF.out

set_option maxRecDepth 100000 in
set_option maxHeartbeats 2000000 in
theorem zm12 {B : Nat} {w : World} {l : Ml} {s : ZSt} {o : OpD} (h : InN B w l s o) (h0 : o.kind = 12) :
    Calls Tryz.prog 9 #[.pointer (some ⟨l.sb, 0, none⟩), opV o] w (StM B w l s o) := by
  obtain ⟨W, hW⟩ : ∃ W, (w.alloc (opB o)).alloc ans0 = W := ⟨_, rfl⟩
  have hP := proM h hW
  have c0 : W.cell? ⟨w.heap.size, 0, none⟩ = some (.int .u8 (o.kind : Int)) := hP.cell 0
  have c1 : W.cell? ⟨w.heap.size, 1, none⟩ = some (.slice o.da o.bs.length o.dc) := hP.cell 1
  have b0 : ((o.kind : Int) == 0) = false := by simp; omega
  have b1 : ((o.kind : Int) == 1) = false := by simp; omega
  have b2 : ((o.kind : Int) == 2) = false := by simp; omega
  have b3 : ((o.kind : Int) == 3) = false := by simp; omega
  have b4 : ((o.kind : Int) == 4) = false := by simp; omega
  have b5 : ((o.kind : Int) == 5) = false := by simp; omega
  have b6 : ((o.kind : Int) == 6) = false := by simp; omega
  have b7 : ((o.kind : Int) == 7) = false := by simp; omega
  have b8 : ((o.kind : Int) == 8) = false := by simp; omega
  have b9 : ((o.kind : Int) == 9) = false := by simp; omega
  have b10 : ((o.kind : Int) == 10) = false := by simp; omega
  have b11 : ((o.kind : Int) == 11) = false := by simp; omega
  have b12 : ((o.kind : Int) == 12) = true := by simp; omega
  have HP : Hid (ProM B w W l s o) := hP
  have hbd : Below W.heap.size W W.drew := (Below.refl _ _).drew
  have hBW : B ≤ W.heap.size := by have h1 := hP.Bw; have h2 := hP.sz; omega
  have hz : zstep s o = (zrs s o.bs none, readA (zrs s o.bs none) 0 []) := by
    unfold zstep
    rw [if_neg (by omega), if_neg (by omega), if_neg (by omega), if_neg (by omega), if_neg (by omega), if_neg (by omega), if_neg (by omega), if_neg (by omega), if_neg (by omega), if_neg (by omega), if_neg (by omega), if_neg (by omega), if_pos h0]
  obtain ⟨S1, hS1e⟩ : ∃ S1, zrs s o.bs none = S1 := ⟨_, rfl⟩
  rw [hS1e] at hz
  have hlt := hP.zm.lt
  have HCo : Hid (Calls Tryz.prog 44 #[.slice o.da o.bs.length o.dc] W fun r V => ∃ a c, r = .returned (.slice a o.bs.length c) ∧ V.cell? ⟨l.sb, 4, none⟩ = some (.slice l.ia s.I.length l.ic) ∧ V.cell? ⟨l.sb, 5, none⟩ = some (.int .u8 (errCode s.ie : Int)) ∧ (∀ i, V.frozen? ⟨l.sb, i, none⟩ = false) ∧ MSt B W ((V.setCell ⟨l.sb, 4, none⟩ (.slice a o.bs.length c)).setCell ⟨l.sb, 5, none⟩ (.int .u8 0)) l { l with ia := a, ic := c } s S1) := by
    refine (copyOf_any o.bs o.dc o.da W (h.op.data.below hP.bel) (by have := h.op.bl; omega)).mono ?_
    rintro r V ⟨a, c, h1, h2, h3, h4, h5, h6⟩
    have hZ := hP.zm.below h6
    have hS := hZ.inp (a := a) (c := c) (I := o.bs) h2 h3 h4 (by have := h.op.bl; omega) (fun h0 b o' he => .inr (fun hx => by have h7 := (hP.zm.mlt hx).2; have h8 := h5 h0 b o' he; omega)) h6 (fun h0 b o' he => .inr (h5 h0 b o' he))
    refine ⟨a, c, h1, hZ.cell 4, hZ.cell 5, hZ.fr, ?_⟩
    rw [← hS1e]
    exact hS.trans (hS.zm.ie none)
  have HRd : Hid (∀ V1 L1 a c, MSt B W V1 l L1 s S1 → BRow V1 a [] → Calls Tryz.prog 45 #[.pointer (some ⟨l.sb, 0, none⟩), .int .u64 (0 : Int), .slice a 0 c] V1 fun r V2 => ∃ a' c', r = .returned (ansV 0 0 S1.I.length 0 a' 0 c' (errCode S1.ie)) ∧ MSt B W V2 l L1 s S1 ∧ Res V2 (w.heap.size + 1) ∧ StM B w l s o (.returned (ansV 0 0 S1.I.length 0 a' 0 c' (errCode S1.ie))) (ansW V2 (w.heap.size + 1) (.int .u32 ((0 : Nat) : Int)) (.int .u32 ((0 : Nat) : Int)) (.int .u64 (S1.I.length : Int)) (.int .u64 (0 : Int)) (.slice a' 0 c') (.int .u8 (errCode S1.ie : Int)))) := fun V1 L1 a c h1 h2 => showEnd (x := 0) hP hz h1 h2 rfl (by omega)
  generalize hq : S1.I.length = q at *
  generalize hec : errCode S1.ie = ec at *
  generalize hq2 : s.I.length = q2 at *
  generalize hec2 : errCode s.ie = ec2 at *
  clear hz hbd hS1e hBW hq hec hq2 hec2 hlt
  unfold opB ans0 at hW
  unfold opV
  clear h hP h0
  go_enter Tryz.func9, Tryz.ntmps9
  go_wp2_with fail
  refine Calls.mono HCo.out ?_
  rintro r V ⟨a, c, rfl, k4, k5, kf, hS1⟩
  obtain ⟨V1, hV1⟩ : ∃ V1, (V.setCell ⟨l.sb, 4, none⟩ (.slice a o.bs.length c)).setCell ⟨l.sb, 5, none⟩ (.int .u8 0) = V1 := ⟨_, rfl⟩
  rw [hV1] at hS1
  have HR2 : Hid _ := HRd.out V1 _ none 0 hS1 (BRow.nil _ _)
  clear hS1 HRd HCo hW
  go_wp2_with fail
  refine Calls.mono HR2.out ?_
  rintro r V2 ⟨a2, c2, rfl, _, hres, hfin⟩
  have HF : Hid _ := hfin
  have HRes : Hid (Res V2 (w.heap.size + 1)) := hres
  obtain ⟨r0, r1, r2, r3, r4, r5, rf⟩ := hres.cells
  clear hres hfin HR2
  go_wp2
  exact retStepM rfl rfl HRes.out HF.out

set_option maxRecDepth 100000 in
set_option maxHeartbeats 2000000 in
theorem zm11 {B : Nat} {w : World} {l : Ml} {s : ZSt} {o : OpD} (h : InN B w l s o) (h0 : o.kind = 11) :
    Calls Tryz.prog 9 #[.pointer (some ⟨l.sb, 0, none⟩), opV o] w (StM B w l s o) := by
  obtain ⟨W, hW⟩ : ∃ W, (w.alloc (opB o)).alloc ans0 = W := ⟨_, rfl⟩
  have hP := proM h hW
  have c0 : W.cell? ⟨w.heap.size, 0, none⟩ = some (.int .u8 (o.kind : Int)) := hP.cell 0
  have m1 : W.cell? ⟨l.sb, 1, none⟩ = some (.slice l.oa s.O.length l.oc) := hP.zm.cell 1
  have mf1 := hP.zm.fr 1
  have b0 : ((o.kind : Int) == 0) = false := by simp; omega
  have b1 : ((o.kind : Int) == 1) = false := by simp; omega
  have b2 : ((o.kind : Int) == 2) = false := by simp; omega
  have b3 : ((o.kind : Int) == 3) = false := by simp; omega
  have b4 : ((o.kind : Int) == 4) = false := by simp; omega
  have b5 : ((o.kind : Int) == 5) = false := by simp; omega
  have b6 : ((o.kind : Int) == 6) = false := by simp; omega
  have b7 : ((o.kind : Int) == 7) = false := by simp; omega
  have b8 : ((o.kind : Int) == 8) = false := by simp; omega
  have b9 : ((o.kind : Int) == 9) = false := by simp; omega
  have b10 : ((o.kind : Int) == 10) = false := by simp; omega
  have b11 : ((o.kind : Int) == 11) = true := by simp; omega
  have HP : Hid (ProM B w W l s o) := hP
  have hbd : Below W.heap.size W W.drew := (Below.refl _ _).drew
  have hBW : B ≤ W.heap.size := by have h1 := hP.Bw; have h2 := hP.sz; omega
  have hz : zstep s o = (zrs s s.O none, readA (zrs s s.O none) 0 []) := by
    unfold zstep
    rw [if_neg (by omega), if_neg (by omega), if_neg (by omega), if_neg (by omega), if_neg (by omega), if_neg (by omega), if_neg (by omega), if_neg (by omega), if_neg (by omega), if_neg (by omega), if_neg (by omega), if_pos h0]
  obtain ⟨S1, hS1e⟩ : ∃ S1, zrs s s.O none = S1 := ⟨_, rfl⟩
  rw [hS1e] at hz
  have hlt := hP.zm.lt
  have HCo : Hid (Calls Tryz.prog 44 #[.slice l.oa s.O.length l.oc] W fun r V => ∃ a c, r = .returned (.slice a s.O.length c) ∧ V.cell? ⟨l.sb, 4, none⟩ = some (.slice l.ia s.I.length l.ic) ∧ V.cell? ⟨l.sb, 5, none⟩ = some (.int .u8 (errCode s.ie : Int)) ∧ (∀ i, V.frozen? ⟨l.sb, i, none⟩ = false) ∧ MSt B W ((V.setCell ⟨l.sb, 4, none⟩ (.slice a s.O.length c)).setCell ⟨l.sb, 5, none⟩ (.int .u8 0)) l { l with ia := a, ic := c } s S1) := by
    refine (copyOf_any s.O l.oc l.oa W hP.zm.rowO.1 (by have h1 := hP.zm.ol; have h2 := hP.zm.lim; omega)).mono ?_
    rintro r V ⟨a, c, h1, h2, h3, h4, h5, h6⟩
    have hZ := hP.zm.below h6
    have hS := hZ.inp (a := a) (c := c) (I := s.O) h2 h3 h4 (by have h1 := hP.zm.ol; have h2 := hP.zm.lim; omega) (fun h0 b o' he => .inr (fun hx => by have h7 := (hP.zm.mlt hx).2; have h8 := h5 h0 b o' he; omega)) h6 (fun h0 b o' he => .inr (h5 h0 b o' he))
    refine ⟨a, c, h1, hZ.cell 4, hZ.cell 5, hZ.fr, ?_⟩
    rw [← hS1e]
    exact hS.trans (hS.zm.ie none)
  have HRd : Hid (∀ V1 L1 a c, MSt B W V1 l L1 s S1 → BRow V1 a [] → Calls Tryz.prog 45 #[.pointer (some ⟨l.sb, 0, none⟩), .int .u64 (0 : Int), .slice a 0 c] V1 fun r V2 => ∃ a' c', r = .returned (ansV 0 0 S1.I.length 0 a' 0 c' (errCode S1.ie)) ∧ MSt B W V2 l L1 s S1 ∧ Res V2 (w.heap.size + 1) ∧ StM B w l s o (.returned (ansV 0 0 S1.I.length 0 a' 0 c' (errCode S1.ie))) (ansW V2 (w.heap.size + 1) (.int .u32 ((0 : Nat) : Int)) (.int .u32 ((0 : Nat) : Int)) (.int .u64 (S1.I.length : Int)) (.int .u64 (0 : Int)) (.slice a' 0 c') (.int .u8 (errCode S1.ie : Int)))) := fun V1 L1 a c h1 h2 => showEnd (x := 0) hP hz h1 h2 rfl (by omega)
  generalize hq : S1.I.length = q at *
  generalize hec : errCode S1.ie = ec at *
  generalize hq2 : s.I.length = q2 at *
  generalize hec2 : errCode s.ie = ec2 at *
  clear hz hbd hS1e hBW hq hec hq2 hec2 hlt
  unfold opB ans0 at hW
  unfold opV
  clear h hP h0
  go_enter Tryz.func9, Tryz.ntmps9
  go_wp2_with fail
  refine Calls.mono HCo.out ?_
  rintro r V ⟨a, c, rfl, k4, k5, kf, hS1⟩
  obtain ⟨V1, hV1⟩ : ∃ V1, (V.setCell ⟨l.sb, 4, none⟩ (.slice a s.O.length c)).setCell ⟨l.sb, 5, none⟩ (.int .u8 0) = V1 := ⟨_, rfl⟩
  rw [hV1] at hS1
  have HR2 : Hid _ := HRd.out V1 _ none 0 hS1 (BRow.nil _ _)
  clear hS1 HRd HCo hW
  go_wp2_with fail
  refine Calls.mono HR2.out ?_
  rintro r V2 ⟨a2, c2, rfl, _, hres, hfin⟩
  have HF : Hid _ := hfin
  have HRes : Hid (Res V2 (w.heap.size + 1)) := hres
  obtain ⟨r0, r1, r2, r3, r4, r5, rf⟩ := hres.cells
  clear hres hfin HR2
  go_wp2
  exact retStepM rfl rfl HRes.out HF.out
end Go.Proofs.Qxb6500698aGreatDoor
