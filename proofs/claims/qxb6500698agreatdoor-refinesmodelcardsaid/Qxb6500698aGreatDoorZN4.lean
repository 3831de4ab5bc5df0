/-
  THE STEPS OF THE MODEL: KGet, KFinish, KBytes, KSums.
-/
import Derived.Test.Qxb6500698aGreatDoorZN3
import Derived.Deep.RegionHeld3
namespace Go.Proofs.Qxb6500698aGreatDoor
open Go.RowKit
theorem boxm_cells {X : World} {R : Nat} {a b c d u f : Value} {t : TypeId} (h : X.heap[R]? = some (.cells #[a, b, c, d, u, f] t (0, 0))) : X.cell? ⟨R, 0, none⟩ = some a ∧ X.cell? ⟨R, 1, none⟩ = some b ∧ X.cell? ⟨R, 2, none⟩ = some c ∧ X.cell? ⟨R, 3, none⟩ = some d ∧ X.cell? ⟨R, 4, none⟩ = some u ∧ X.cell? ⟨R, 5, none⟩ = some f ∧ ∀ i, X.frozen? ⟨R, i, none⟩ = false := by
  refine ⟨?_, ?_, ?_, ?_, ?_, ?_, fun i => ?_⟩ <;> simp [World.cell?, World.frozen?, h]

theorem zrd_8 {I : List Nat} {ie : Option Nat} {n : Int} (h : ie ≠ none ∨ okW n = true) : (zrd I ie n).1.length ≤ 8 := by
  unfold zrd
  split
  · rename_i h0
    rcases h with h | h
    · exact absurd h0 h
    · obtain ⟨k, hk, hk2⟩ := okW_nat h
      split
      · exact Nat.zero_le _
      · split
        · exact Nat.zero_le _
        · show (I.take n.toNat).length ≤ _
          rw [List.length_take]; omega
  · exact Nat.zero_le _
/-- What is behind the width's test. -/
theorem get_rest {B : Nat} {w W V0 : World} {l : Ml} {s S1 : ZSt} {o : OpD} {ie2 : Option Nat} {x n : Nat} (hP : ProM B w W l s o) (op : OpZ B w o) (hS : MSt B W V0 l l s { s with ie := ie2 }) (h8 : ie2 ≠ none ∨ okW o.width = true)
    (hx : undig (zrd s.I ie2 o.width).1 = x) (hn : (zrd s.I ie2 o.width).1.length = n) (hS1 : zrs s (zrd s.I ie2 o.width).2.1 (zrd s.I ie2 o.width).2.2 = S1) (hz : zstep s o = (S1, readA S1 x [])) :
    Calls Tryz.prog 48 #[.pointer (some ⟨l.sb, 0, none⟩), .int .i64 o.width] V0 fun r V1 => ∃ a c, r = .returned (.slice a n c) ∧
      Calls Tryz.prog 47 #[.slice a n c] V1 (fun r w' => r = .returned (.int .u64 (x : Int)) ∧ w' = V1) ∧
      Calls Tryz.prog 45 #[.pointer (some ⟨l.sb, 0, none⟩), .int .u64 (x : Int), .slice none 0 0] V1 (fun r V2 => ∃ a' c', r = .returned (ansV 0 0 S1.I.length x a' 0 c' (errCode S1.ie)) ∧ Res V2 (w.heap.size + 1) ∧ StM B w l s o (.returned (ansV 0 0 S1.I.length x a' 0 c' (errCode S1.ie))) (ansW V2 (w.heap.size + 1) (.int .u32 ((0 : Nat) : Int)) (.int .u32 ((0 : Nat) : Int)) (.int .u64 (S1.I.length : Int)) (.int .u64 (x : Int)) (.slice a' 0 c') (.int .u8 (errCode S1.ie : Int)))) := by
  refine (mread_any o.width op.hw.1 op.hw.2 hS.zm).mono ?_
  rintro r V1 ⟨a, c, ia', ic', h1, h2, _, _, h3⟩
  have h1 : r = .returned (.slice a (zrd s.I ie2 o.width).1.length c) := h1
  have h2 : BRow V1 a (zrd s.I ie2 o.width).1 := h2
  have hv := value_any _ c a V1 h2 (zrd_8 h8)
  rw [hn] at h1
  rw [hn, hx] at hv
  have hS3 : MSt B W V1 l { l with ia := ia', ic := ic' } s S1 := by rw [← hS1]; exact hS.trans h3
  exact ⟨a, c, h1, hv, (showEnd (x := x) (n := 0) (c := 0) hP hz hS3 (BRow.nil _ none) rfl (by omega)).mono (fun r V2 ⟨a', c', h4, _, h5, h6⟩ => ⟨a', c', h4, h5, h6⟩)⟩

set_option maxRecDepth 100000 in
set_option maxHeartbeats 2000000 in
theorem zm13a {B : Nat} {w : World} {l : Ml} {s : ZSt} {o : OpD} (h : InN B w l s o) (h0 : o.kind = 13) (hie : s.ie = none) (hok : okW o.width = true) :
    Calls Tryz.prog 9 #[.pointer (some ⟨l.sb, 0, none⟩), opV o] w (StM B w l s o) := by
  obtain ⟨W, hW⟩ : ∃ W, (w.alloc (opB o)).alloc ans0 = W := ⟨_, rfl⟩
  have hP := proM h hW
  have c0 : W.cell? ⟨w.heap.size, 0, none⟩ = some (.int .u8 (o.kind : Int)) := hP.cell 0
  have c5 : W.cell? ⟨w.heap.size, 5, none⟩ = some (.int .i64 o.width) := hP.cell 5
  have m5 : W.cell? ⟨l.sb, 5, none⟩ = some (.int .u8 (errCode s.ie : Int)) := hP.zm.cell 5
  have mf5 := hP.zm.fr 5
  have b0 : ((o.kind : Int) == 0) = false := by simp; omega
  have b1 : ((o.kind : Int) == 1) = false := by simp; omega
  have b2 : ((o.kind : Int) == 2) = false := by simp; omega
  have b3 : ((o.kind : Int) == 3) = false := by simp; omega
  have b4 : ((o.kind : Int) == 4) = false := by simp; omega
  have b5 : ((o.kind : Int) == 5) = false := by simp; omega
  have b6 : ((o.kind : Int) == 6) = false := by simp; omega
  have b7 : ((o.kind : Int) == 7) = false := by simp; omega
  have b8 : ((o.kind : Int) == 8) = false := by simp; omega
  have b9 : ((o.kind : Int) == 9) = false := by simp; omega
  have b10 : ((o.kind : Int) == 10) = false := by simp; omega
  have b11 : ((o.kind : Int) == 11) = false := by simp; omega
  have b12 : ((o.kind : Int) == 12) = false := by simp; omega
  have b13 : ((o.kind : Int) == 13) = true := by simp; omega
  have HP : Hid (ProM B w W l s o) := hP
  have hbd : Below W.heap.size W W.drew := (Below.refl _ _).drew
  have hBW : B ≤ W.heap.size := by have h1 := hP.Bw; have h2 := hP.sz; omega
  have hz : zstep s o = (zrs s (zui s.I s.ie o.width).2.1 (zui s.I s.ie o.width).2.2, readA (zrs s (zui s.I s.ie o.width).2.1 (zui s.I s.ie o.width).2.2) (zui s.I s.ie o.width).1 []) := by
    unfold zstep
    rw [if_neg (by omega), if_neg (by omega), if_neg (by omega), if_neg (by omega), if_neg (by omega), if_neg (by omega), if_neg (by omega), if_neg (by omega), if_neg (by omega), if_neg (by omega), if_neg (by omega), if_neg (by omega), if_neg (by omega), if_pos h0]
  have hzu : zui s.I s.ie o.width = (undig (zrd s.I none o.width).1, (zrd s.I none o.width).2) := by unfold zui; rw [if_pos hie, if_pos hok]
  rw [hzu] at hz
  have hz : zstep s o = (zrs s (zrd s.I none o.width).2.1 (zrd s.I none o.width).2.2, readA (zrs s (zrd s.I none o.width).2.1 (zrd s.I none o.width).2.2) (undig (zrd s.I none o.width).1) []) := hz
  obtain ⟨S1, hS1e⟩ : ∃ S1, zrs s (zrd s.I none o.width).2.1 (zrd s.I none o.width).2.2 = S1 := ⟨_, rfl⟩
  obtain ⟨x, hx⟩ : ∃ x, undig (zrd s.I none o.width).1 = x := ⟨_, rfl⟩
  obtain ⟨n, hn⟩ : ∃ n, (zrd s.I none o.width).1.length = n := ⟨_, rfl⟩
  rw [hS1e, hx] at hz
  have hz0 := errCode_zero (x := s.ie)
  rw [decide_eq_true hie] at hz0
  have HRd : Hid (∀ V0, MSt B W V0 l l s { s with ie := none } → Calls Tryz.prog 48 #[.pointer (some ⟨l.sb, 0, none⟩), .int .i64 o.width] V0 fun r V1 => ∃ a c, r = .returned (.slice a n c) ∧
      Calls Tryz.prog 47 #[.slice a n c] V1 (fun r w' => r = .returned (.int .u64 (x : Int)) ∧ w' = V1) ∧
      Calls Tryz.prog 45 #[.pointer (some ⟨l.sb, 0, none⟩), .int .u64 (x : Int), .slice none 0 0] V1 (fun r V2 => ∃ a' c', r = .returned (ansV 0 0 S1.I.length x a' 0 c' (errCode S1.ie)) ∧ Res V2 (w.heap.size + 1) ∧ StM B w l s o (.returned (ansV 0 0 S1.I.length x a' 0 c' (errCode S1.ie))) (ansW V2 (w.heap.size + 1) (.int .u32 ((0 : Nat) : Int)) (.int .u32 ((0 : Nat) : Int)) (.int .u64 (S1.I.length : Int)) (.int .u64 (x : Int)) (.slice a' 0 c') (.int .u8 (errCode S1.ie : Int))))) := fun V0 hS => get_rest hP h.op hS (.inr hok) hx hn hS1e hz
  have HGw : Hid (Calls Tryz.prog 46 #[.int .i64 o.width] W fun r w' => r = .returned (.bool (okW o.width)) ∧ Below W.heap.size W w') := goodWidth_any o.width W h.op.hw.1 h.op.hw.2
  rw [hok] at HGw
  have HK5 : Hid (∀ V, Below W.heap.size W V → V.cell? ⟨w.heap.size, 5, none⟩ = some (.int .i64 o.width)) := fun V hV => (MSt.start hP.zm hV).opc hP 5
  have HS0 : Hid (∀ V, Below W.heap.size W V → MSt B W V l l s { s with ie := none }) := fun V hV => by
    have h1 := MSt.start hP.zm hV
    have h2 : ({ s with ie := none } : ZSt) = s := by rw [← hie]
    rw [h2]; exact h1
  generalize hq : S1.I.length = q at *
  generalize hec : errCode S1.ie = ec at *
  generalize hec2 : errCode s.ie = ec2 at *
  clear hz hbd hS1e hBW hx hn hq hec hzu hec2 hie hok
  unfold opB ans0 at hW
  unfold opV
  clear h hP h0
  go_enter Tryz.func9, Tryz.ntmps9
  go_wp2_with fail
  refine Calls.mono HGw.out ?_
  rintro r V0 ⟨rfl, hb0⟩
  have HRs : Hid _ := HRd.out V0 (HS0.out V0 hb0)
  have kc5 := HK5.out V0 hb0
  clear hb0 HGw HRd HS0
  go_wp2_with fail
  refine Calls.mono HRs.out ?_
  rintro r V1 ⟨a, c, rfl, hv, hsh⟩
  have HV1 : Hid _ := hv
  have HR2 : Hid _ := hsh
  clear hv hsh HRs hW
  go_wp2_with fail
  refine Calls.mono HV1.out ?_
  rintro r _ ⟨rfl, rfl⟩
  clear HV1
  go_wp2_with fail
  refine Calls.mono HR2.out ?_
  rintro r V2 ⟨a2, c2, rfl, hres, hfin⟩
  have HF : Hid _ := hfin
  have HRes : Hid (Res V2 (w.heap.size + 1)) := hres
  obtain ⟨r0, r1, r2, r3, r4, r5, rf⟩ := hres.cells
  clear hres hfin HR2
  go_wp2
  exact retStepM rfl rfl HRes.out HF.out

set_option maxRecDepth 100000 in
set_option maxHeartbeats 2000000 in
theorem zm13b {B : Nat} {w : World} {l : Ml} {s : ZSt} {o : OpD} (h : InN B w l s o) (h0 : o.kind = 13) (hie : s.ie = none) (hok : okW o.width = false) :
    Calls Tryz.prog 9 #[.pointer (some ⟨l.sb, 0, none⟩), opV o] w (StM B w l s o) := by
  obtain ⟨W, hW⟩ : ∃ W, (w.alloc (opB o)).alloc ans0 = W := ⟨_, rfl⟩
  have hP := proM h hW
  have c0 : W.cell? ⟨w.heap.size, 0, none⟩ = some (.int .u8 (o.kind : Int)) := hP.cell 0
  have c5 : W.cell? ⟨w.heap.size, 5, none⟩ = some (.int .i64 o.width) := hP.cell 5
  have m5 : W.cell? ⟨l.sb, 5, none⟩ = some (.int .u8 (errCode s.ie : Int)) := hP.zm.cell 5
  have mf5 := hP.zm.fr 5
  have b0 : ((o.kind : Int) == 0) = false := by simp; omega
  have b1 : ((o.kind : Int) == 1) = false := by simp; omega
  have b2 : ((o.kind : Int) == 2) = false := by simp; omega
  have b3 : ((o.kind : Int) == 3) = false := by simp; omega
  have b4 : ((o.kind : Int) == 4) = false := by simp; omega
  have b5 : ((o.kind : Int) == 5) = false := by simp; omega
  have b6 : ((o.kind : Int) == 6) = false := by simp; omega
  have b7 : ((o.kind : Int) == 7) = false := by simp; omega
  have b8 : ((o.kind : Int) == 8) = false := by simp; omega
  have b9 : ((o.kind : Int) == 9) = false := by simp; omega
  have b10 : ((o.kind : Int) == 10) = false := by simp; omega
  have b11 : ((o.kind : Int) == 11) = false := by simp; omega
  have b12 : ((o.kind : Int) == 12) = false := by simp; omega
  have b13 : ((o.kind : Int) == 13) = true := by simp; omega
  have HP : Hid (ProM B w W l s o) := hP
  have hbd : Below W.heap.size W W.drew := (Below.refl _ _).drew
  have hBW : B ≤ W.heap.size := by have h1 := hP.Bw; have h2 := hP.sz; omega
  have hz : zstep s o = (zrs s (zui s.I s.ie o.width).2.1 (zui s.I s.ie o.width).2.2, readA (zrs s (zui s.I s.ie o.width).2.1 (zui s.I s.ie o.width).2.2) (zui s.I s.ie o.width).1 []) := by
    unfold zstep
    rw [if_neg (by omega), if_neg (by omega), if_neg (by omega), if_neg (by omega), if_neg (by omega), if_neg (by omega), if_neg (by omega), if_neg (by omega), if_neg (by omega), if_neg (by omega), if_neg (by omega), if_neg (by omega), if_neg (by omega), if_pos h0]
  have hzu : zui s.I s.ie o.width = (undig (zrd s.I (some 1) o.width).1, (zrd s.I (some 1) o.width).2) := by unfold zui; rw [if_pos hie, if_neg (by rw [hok]; simp)]; unfold zrd; rw [if_neg (by simp)]; rfl
  rw [hzu] at hz
  have hz : zstep s o = (zrs s (zrd s.I (some 1) o.width).2.1 (zrd s.I (some 1) o.width).2.2, readA (zrs s (zrd s.I (some 1) o.width).2.1 (zrd s.I (some 1) o.width).2.2) (undig (zrd s.I (some 1) o.width).1) []) := hz
  obtain ⟨S1, hS1e⟩ : ∃ S1, zrs s (zrd s.I (some 1) o.width).2.1 (zrd s.I (some 1) o.width).2.2 = S1 := ⟨_, rfl⟩
  obtain ⟨x, hx⟩ : ∃ x, undig (zrd s.I (some 1) o.width).1 = x := ⟨_, rfl⟩
  obtain ⟨n, hn⟩ : ∃ n, (zrd s.I (some 1) o.width).1.length = n := ⟨_, rfl⟩
  rw [hS1e, hx] at hz
  have hz0 := errCode_zero (x := s.ie)
  rw [decide_eq_true hie] at hz0
  have HRd : Hid (∀ V0, MSt B W V0 l l s { s with ie := some 1 } → Calls Tryz.prog 48 #[.pointer (some ⟨l.sb, 0, none⟩), .int .i64 o.width] V0 fun r V1 => ∃ a c, r = .returned (.slice a n c) ∧
      Calls Tryz.prog 47 #[.slice a n c] V1 (fun r w' => r = .returned (.int .u64 (x : Int)) ∧ w' = V1) ∧
      Calls Tryz.prog 45 #[.pointer (some ⟨l.sb, 0, none⟩), .int .u64 (x : Int), .slice none 0 0] V1 (fun r V2 => ∃ a' c', r = .returned (ansV 0 0 S1.I.length x a' 0 c' (errCode S1.ie)) ∧ Res V2 (w.heap.size + 1) ∧ StM B w l s o (.returned (ansV 0 0 S1.I.length x a' 0 c' (errCode S1.ie))) (ansW V2 (w.heap.size + 1) (.int .u32 ((0 : Nat) : Int)) (.int .u32 ((0 : Nat) : Int)) (.int .u64 (S1.I.length : Int)) (.int .u64 (x : Int)) (.slice a' 0 c') (.int .u8 (errCode S1.ie : Int))))) := fun V0 hS => get_rest hP h.op hS (.inl (by simp)) hx hn hS1e hz
  have HGw : Hid (Calls Tryz.prog 46 #[.int .i64 o.width] W fun r w' => r = .returned (.bool (okW o.width)) ∧ Below W.heap.size W w') := goodWidth_any o.width W h.op.hw.1 h.op.hw.2
  rw [hok] at HGw
  have HK5 : Hid (∀ V, Below W.heap.size W V → V.cell? ⟨w.heap.size, 5, none⟩ = some (.int .i64 o.width)) := fun V hV => (MSt.start hP.zm hV).opc hP 5
  have hlt := hP.z0.lt
  have hn1 : ¬ l.sb = w.heap.size := by omega
  have hn2 : ¬ w.heap.size = l.sb := by omega
  clear hlt
  have HS0 : Hid (∀ V, Below W.heap.size W V → V.cell? ⟨l.sb, 5, none⟩ = some (.int .u8 (errCode s.ie : Int)) ∧ V.frozen? ⟨l.sb, 5, none⟩ = false ∧ MSt B W (V.setCell ⟨l.sb, 5, none⟩ (.int .u8 (2 : Int))) l l s { s with ie := some 1 }) := fun V hV => ⟨(hP.zm.below hV).cell 5, (hP.zm.below hV).fr 5, (MSt.start hP.zm hV).trans ((hP.zm.below hV).ie (some 1))⟩
  generalize hq : S1.I.length = q at *
  generalize hec : errCode S1.ie = ec at *
  generalize hec2 : errCode s.ie = ec2 at *
  clear hz hbd hS1e hBW hx hn hq hec hzu hec2 hie hok
  unfold opB ans0 at hW
  unfold opV
  clear h hP h0
  go_enter Tryz.func9, Tryz.ntmps9
  go_wp2_with fail
  refine Calls.mono HGw.out ?_
  rintro r V0 ⟨rfl, hb0⟩
  obtain ⟨k5, kf, hS0⟩ := HS0.out V0 hb0
  have HRs : Hid _ := HRd.out _ hS0
  have kc5 := HK5.out V0 hb0
  clear hb0 HGw HRd HS0 hS0 m5 mf5
  go_wp2_with fail
  refine Calls.mono HRs.out ?_
  rintro r V1 ⟨a, c, rfl, hv, hsh⟩
  have HV1 : Hid _ := hv
  have HR2 : Hid _ := hsh
  clear hv hsh HRs hW
  go_wp2_with fail
  refine Calls.mono HV1.out ?_
  rintro r _ ⟨rfl, rfl⟩
  clear HV1
  go_wp2_with fail
  refine Calls.mono HR2.out ?_
  rintro r V2 ⟨a2, c2, rfl, hres, hfin⟩
  have HF : Hid _ := hfin
  have HRes : Hid (Res V2 (w.heap.size + 1)) := hres
  obtain ⟨r0, r1, r2, r3, r4, r5, rf⟩ := hres.cells
  clear hres hfin HR2
  go_wp2
  exact retStepM rfl rfl HRes.out HF.out

set_option maxRecDepth 100000 in
set_option maxHeartbeats 2000000 in
theorem zm13c {B : Nat} {w : World} {l : Ml} {s : ZSt} {o : OpD} (h : InN B w l s o) (h0 : o.kind = 13) (hie : s.ie ≠ none) :
    Calls Tryz.prog 9 #[.pointer (some ⟨l.sb, 0, none⟩), opV o] w (StM B w l s o) := by
  obtain ⟨W, hW⟩ : ∃ W, (w.alloc (opB o)).alloc ans0 = W := ⟨_, rfl⟩
  have hP := proM h hW
  have c0 : W.cell? ⟨w.heap.size, 0, none⟩ = some (.int .u8 (o.kind : Int)) := hP.cell 0
  have c5 : W.cell? ⟨w.heap.size, 5, none⟩ = some (.int .i64 o.width) := hP.cell 5
  have m5 : W.cell? ⟨l.sb, 5, none⟩ = some (.int .u8 (errCode s.ie : Int)) := hP.zm.cell 5
  have mf5 := hP.zm.fr 5
  have b0 : ((o.kind : Int) == 0) = false := by simp; omega
  have b1 : ((o.kind : Int) == 1) = false := by simp; omega
  have b2 : ((o.kind : Int) == 2) = false := by simp; omega
  have b3 : ((o.kind : Int) == 3) = false := by simp; omega
  have b4 : ((o.kind : Int) == 4) = false := by simp; omega
  have b5 : ((o.kind : Int) == 5) = false := by simp; omega
  have b6 : ((o.kind : Int) == 6) = false := by simp; omega
  have b7 : ((o.kind : Int) == 7) = false := by simp; omega
  have b8 : ((o.kind : Int) == 8) = false := by simp; omega
  have b9 : ((o.kind : Int) == 9) = false := by simp; omega
  have b10 : ((o.kind : Int) == 10) = false := by simp; omega
  have b11 : ((o.kind : Int) == 11) = false := by simp; omega
  have b12 : ((o.kind : Int) == 12) = false := by simp; omega
  have b13 : ((o.kind : Int) == 13) = true := by simp; omega
  have HP : Hid (ProM B w W l s o) := hP
  have hbd : Below W.heap.size W W.drew := (Below.refl _ _).drew
  have hBW : B ≤ W.heap.size := by have h1 := hP.Bw; have h2 := hP.sz; omega
  have hz : zstep s o = (zrs s (zui s.I s.ie o.width).2.1 (zui s.I s.ie o.width).2.2, readA (zrs s (zui s.I s.ie o.width).2.1 (zui s.I s.ie o.width).2.2) (zui s.I s.ie o.width).1 []) := by
    unfold zstep
    rw [if_neg (by omega), if_neg (by omega), if_neg (by omega), if_neg (by omega), if_neg (by omega), if_neg (by omega), if_neg (by omega), if_neg (by omega), if_neg (by omega), if_neg (by omega), if_neg (by omega), if_neg (by omega), if_neg (by omega), if_pos h0]
  have hzu : zui s.I s.ie o.width = (undig (zrd s.I s.ie o.width).1, (zrd s.I s.ie o.width).2) := by unfold zui; rw [if_neg hie]; unfold zrd; rw [if_neg hie]; rfl
  rw [hzu] at hz
  have hz : zstep s o = (zrs s (zrd s.I s.ie o.width).2.1 (zrd s.I s.ie o.width).2.2, readA (zrs s (zrd s.I s.ie o.width).2.1 (zrd s.I s.ie o.width).2.2) (undig (zrd s.I s.ie o.width).1) []) := hz
  obtain ⟨S1, hS1e⟩ : ∃ S1, zrs s (zrd s.I s.ie o.width).2.1 (zrd s.I s.ie o.width).2.2 = S1 := ⟨_, rfl⟩
  obtain ⟨x, hx⟩ : ∃ x, undig (zrd s.I s.ie o.width).1 = x := ⟨_, rfl⟩
  obtain ⟨n, hn⟩ : ∃ n, (zrd s.I s.ie o.width).1.length = n := ⟨_, rfl⟩
  rw [hS1e, hx] at hz
  have hz0 := errCode_zero (x := s.ie)
  rw [decide_eq_false hie] at hz0
  have HRd : Hid (∀ V0, MSt B W V0 l l s { s with ie := s.ie } → Calls Tryz.prog 48 #[.pointer (some ⟨l.sb, 0, none⟩), .int .i64 o.width] V0 fun r V1 => ∃ a c, r = .returned (.slice a n c) ∧
      Calls Tryz.prog 47 #[.slice a n c] V1 (fun r w' => r = .returned (.int .u64 (x : Int)) ∧ w' = V1) ∧
      Calls Tryz.prog 45 #[.pointer (some ⟨l.sb, 0, none⟩), .int .u64 (x : Int), .slice none 0 0] V1 (fun r V2 => ∃ a' c', r = .returned (ansV 0 0 S1.I.length x a' 0 c' (errCode S1.ie)) ∧ Res V2 (w.heap.size + 1) ∧ StM B w l s o (.returned (ansV 0 0 S1.I.length x a' 0 c' (errCode S1.ie))) (ansW V2 (w.heap.size + 1) (.int .u32 ((0 : Nat) : Int)) (.int .u32 ((0 : Nat) : Int)) (.int .u64 (S1.I.length : Int)) (.int .u64 (x : Int)) (.slice a' 0 c') (.int .u8 (errCode S1.ie : Int))))) := fun V0 hS => get_rest hP h.op hS (.inl hie) hx hn hS1e hz
  have HRs : Hid _ := HRd.out W (MSt.refl hP.zm)
  clear HRd
  generalize hq : S1.I.length = q at *
  generalize hec : errCode S1.ie = ec at *
  generalize hec2 : errCode s.ie = ec2 at *
  clear hz hbd hS1e hBW hx hn hq hec hzu hec2 hie
  unfold opB ans0 at hW
  unfold opV
  clear h hP h0
  go_enter Tryz.func9, Tryz.ntmps9
  go_wp2_with fail
  refine Calls.mono HRs.out ?_
  rintro r V1 ⟨a, c, rfl, hv, hsh⟩
  have HV1 : Hid _ := hv
  have HR2 : Hid _ := hsh
  clear hv hsh HRs hW
  go_wp2_with fail
  refine Calls.mono HV1.out ?_
  rintro r _ ⟨rfl, rfl⟩
  clear HV1
  go_wp2_with fail
  refine Calls.mono HR2.out ?_
  rintro r V2 ⟨a2, c2, rfl, hres, hfin⟩
  have HF : Hid _ := hfin
  have HRes : Hid (Res V2 (w.heap.size + 1)) := hres
  obtain ⟨r0, r1, r2, r3, r4, r5, rf⟩ := hres.cells
  clear hres hfin HR2
  go_wp2
  exact retStepM rfl rfl HRes.out HF.out

set_option maxRecDepth 100000 in
set_option maxHeartbeats 2000000 in
theorem zm18a {B : Nat} {w : World} {l : Ml} {s : ZSt} {o : OpD} (h : InN B w l s o) (h0 : o.kind = 18) (hie : s.ie = none) (hne0 : s.I ≠ []) :
    Calls Tryz.prog 9 #[.pointer (some ⟨l.sb, 0, none⟩), opV o] w (StM B w l s o) := by
  obtain ⟨W, hW⟩ : ∃ W, (w.alloc (opB o)).alloc ans0 = W := ⟨_, rfl⟩
  have hP := proM h hW
  have c0 : W.cell? ⟨w.heap.size, 0, none⟩ = some (.int .u8 (o.kind : Int)) := hP.cell 0
  have m4 : W.cell? ⟨l.sb, 4, none⟩ = some (.slice l.ia s.I.length l.ic) := hP.zm.cell 4
  have mf4 := hP.zm.fr 4
  have b0 : ((o.kind : Int) == 0) = false := by simp; omega
  have b1 : ((o.kind : Int) == 1) = false := by simp; omega
  have b2 : ((o.kind : Int) == 2) = false := by simp; omega
  have b3 : ((o.kind : Int) == 3) = false := by simp; omega
  have b4 : ((o.kind : Int) == 4) = false := by simp; omega
  have b5 : ((o.kind : Int) == 5) = false := by simp; omega
  have b6 : ((o.kind : Int) == 6) = false := by simp; omega
  have b7 : ((o.kind : Int) == 7) = false := by simp; omega
  have b8 : ((o.kind : Int) == 8) = false := by simp; omega
  have b9 : ((o.kind : Int) == 9) = false := by simp; omega
  have b10 : ((o.kind : Int) == 10) = false := by simp; omega
  have b11 : ((o.kind : Int) == 11) = false := by simp; omega
  have b12 : ((o.kind : Int) == 12) = false := by simp; omega
  have b13 : ((o.kind : Int) == 13) = false := by simp; omega
  have b14 : ((o.kind : Int) == 14) = false := by simp; omega
  have b15 : ((o.kind : Int) == 15) = false := by simp; omega
  have b16 : ((o.kind : Int) == 16) = false := by simp; omega
  have b17 : ((o.kind : Int) == 17) = false := by simp; omega
  have b18 : ((o.kind : Int) == 18) = true := by simp; omega
  have HP : Hid (ProM B w W l s o) := hP
  have hbd : Below W.heap.size W W.drew := (Below.refl _ _).drew
  have hBW : B ≤ W.heap.size := by have h1 := hP.Bw; have h2 := hP.sz; omega
  have hE : (if s.ie = none ∧ s.I ≠ [] then some 4 else s.ie) = some 4 := by rw [if_pos ⟨hie, hne0⟩]
  have hz : zstep s o = (s, ⟨0, 0, s.I.length, 0, [], errCode (some 4)⟩) := by
    unfold zstep
    rw [if_neg (by omega), if_neg (by omega), if_neg (by omega), if_neg (by omega), if_neg (by omega), if_neg (by omega), if_neg (by omega), if_neg (by omega), if_neg (by omega), if_neg (by omega), if_neg (by omega), if_neg (by omega), if_neg (by omega), if_neg (by omega), if_neg (by omega), if_neg (by omega), if_neg (by omega), if_neg (by omega), if_pos h0]
    rw [hE]
    rfl
  have hil := hP.zm.il
  have HSh : Hid (Calls Tryz.prog 45 #[.pointer (some ⟨l.sb, 0, none⟩), .int .u64 (0 : Int), .slice none 0 0] W fun r V => ∃ a c, r = .returned (ansV 0 0 s.I.length 0 a 0 c (errCode s.ie)) ∧ Below W.heap.size W V ∧ W.heap.size ≤ V.heap.size) := (shows_any2 (x := 0) (n := 0) (c := 0) hP.zm (BRow.nil _ none) rfl (by omega)).mono (fun r V ⟨a, c, h1, _, _, h2⟩ => ⟨a, c, h1, h2, h2.size⟩)
  have HE : Hid (∀ X R1 a c, Below W.heap.size W X → W.heap.size ≤ R1 → R1 ≠ w.heap.size + 1 ∧ X.cell? ⟨l.sb, 4, none⟩ = some (.slice l.ia s.I.length l.ic) ∧ Res X (w.heap.size + 1) ∧ Res (X.setCell ⟨R1, 5, none⟩ (.int .u8 (5 : Int))) (w.heap.size + 1) ∧ StM B w l s o (.returned (ansV 0 0 s.I.length 0 a 0 c (errCode (some 4)))) (ansW (X.setCell ⟨R1, 5, none⟩ (.int .u8 (5 : Int))) (w.heap.size + 1) (.int .u32 ((0 : Nat) : Int)) (.int .u32 ((0 : Nat) : Int)) (.int .u64 (s.I.length : Int)) (.int .u64 ((0 : Nat) : Int)) (.slice a 0 c) (.int .u8 (errCode (some 4) : Int)))) := fun X R1 a c hX hR => by
    have hb : Below W.heap.size W (X.setCell ⟨R1, 5, none⟩ (.int .u8 (5 : Int))) := hX.setCell (p := ⟨R1, 5, none⟩) hR _
    have hS := MSt.start hP.zm hb
    have hsz := hP.sz
    exact ⟨by omega, (hP.zm.below hX).cell 4, (MSt.start hP.zm hX).res hP, hS.res hP, StM.mk1 hS hP hz (BRow.nil _ _) rfl (fun h0 => absurd rfl h0)⟩
  obtain ⟨nb, hnb⟩ : ∃ nb, W.heap.size = nb := ⟨_, rfl⟩
  rw [hnb] at HSh HE
  have hz0 := errCode_zero (x := s.ie)
  rw [decide_eq_true hie] at hz0
  have hpos : (0 : Int) < (s.I.length : Int) := by have := List.length_pos_iff.2 hne0; omega
  generalize hq : s.I.length = q at *
  generalize hec : errCode s.ie = ec at *
  clear hq hec hne0
  clear hz hbd hnb hBW hE hie
  unfold opB ans0 at hW
  unfold opV
  clear h hP h0
  go_enter Tryz.func9, Tryz.ntmps9
  go_wp2_with fail
  refine Calls.mono HSh.out ?_
  rintro r V1 ⟨a, c, rfl, hb1, hb1s⟩
  have HB1 : Hid (Below nb W V1) := hb1
  have HB1s : Hid (nb ≤ V1.heap.size) := hb1s
  clear hb1 hb1s hW HSh m4 mf4
  go_upto_region 65 with fail
  obtain ⟨X0, hX0⟩ : ∃ X0, V1.alloc (.cells #[.int .u32 0, .int .u32 0, .int .u64 (q : Int), .int .u64 0, .slice a 0 c, .int .u8 (ec : Int)] 36) = X0 := ⟨_, rfl⟩
  rw [hX0]
  have hbx : X0.heap[V1.heap.size]? = some (.cells #[.int .u32 0, .int .u32 0, .int .u64 (q : Int), .int .u64 0, .slice a 0 c, .int .u8 (ec : Int)] 36 (0, 0)) := by rw [← hX0]; exact heap_alloc_new V1 _
  have hb2 : Below nb W X0 := by rw [← hX0]; exact HB1.out.alloc HB1s.out _
  have hR1 := HB1s.out
  clear hX0 HB1 HB1s
  generalize V1.heap.size = R1 at *
  obtain ⟨hne, k4, hres, hres2, hfin⟩ := HE.out X0 R1 a c hb2 hR1
  have HF : Hid _ := hfin
  have HRes : Hid _ := hres2
  have hne' := Ne.symm hne
  obtain ⟨r0, r1, r2, r3, r4, r5, rf⟩ := hres.cells
  obtain ⟨y0, y1, y2, y3, y4, y5, yf⟩ := boxm_cells hbx
  clear hfin hres hres2 hbx HE hb2 hR1
  go_wp2
  exact retStepM rfl rfl HRes.out HF.out

set_option maxRecDepth 100000 in
set_option maxHeartbeats 2000000 in
theorem zm18b {B : Nat} {w : World} {l : Ml} {s : ZSt} {o : OpD} (h : InN B w l s o) (h0 : o.kind = 18) (hie : s.ie = none) (hne0 : s.I = []) :
    Calls Tryz.prog 9 #[.pointer (some ⟨l.sb, 0, none⟩), opV o] w (StM B w l s o) := by
  obtain ⟨W, hW⟩ : ∃ W, (w.alloc (opB o)).alloc ans0 = W := ⟨_, rfl⟩
  have hP := proM h hW
  have c0 : W.cell? ⟨w.heap.size, 0, none⟩ = some (.int .u8 (o.kind : Int)) := hP.cell 0
  have m4 : W.cell? ⟨l.sb, 4, none⟩ = some (.slice l.ia s.I.length l.ic) := hP.zm.cell 4
  have mf4 := hP.zm.fr 4
  have b0 : ((o.kind : Int) == 0) = false := by simp; omega
  have b1 : ((o.kind : Int) == 1) = false := by simp; omega
  have b2 : ((o.kind : Int) == 2) = false := by simp; omega
  have b3 : ((o.kind : Int) == 3) = false := by simp; omega
  have b4 : ((o.kind : Int) == 4) = false := by simp; omega
  have b5 : ((o.kind : Int) == 5) = false := by simp; omega
  have b6 : ((o.kind : Int) == 6) = false := by simp; omega
  have b7 : ((o.kind : Int) == 7) = false := by simp; omega
  have b8 : ((o.kind : Int) == 8) = false := by simp; omega
  have b9 : ((o.kind : Int) == 9) = false := by simp; omega
  have b10 : ((o.kind : Int) == 10) = false := by simp; omega
  have b11 : ((o.kind : Int) == 11) = false := by simp; omega
  have b12 : ((o.kind : Int) == 12) = false := by simp; omega
  have b13 : ((o.kind : Int) == 13) = false := by simp; omega
  have b14 : ((o.kind : Int) == 14) = false := by simp; omega
  have b15 : ((o.kind : Int) == 15) = false := by simp; omega
  have b16 : ((o.kind : Int) == 16) = false := by simp; omega
  have b17 : ((o.kind : Int) == 17) = false := by simp; omega
  have b18 : ((o.kind : Int) == 18) = true := by simp; omega
  have HP : Hid (ProM B w W l s o) := hP
  have hbd : Below W.heap.size W W.drew := (Below.refl _ _).drew
  have hBW : B ≤ W.heap.size := by have h1 := hP.Bw; have h2 := hP.sz; omega
  have hE : (if s.ie = none ∧ s.I ≠ [] then some 4 else s.ie) = s.ie := by rw [if_neg (fun h => h.2 hne0)]
  have hz : zstep s o = (s, ⟨0, 0, s.I.length, 0, [], errCode (s.ie)⟩) := by
    unfold zstep
    rw [if_neg (by omega), if_neg (by omega), if_neg (by omega), if_neg (by omega), if_neg (by omega), if_neg (by omega), if_neg (by omega), if_neg (by omega), if_neg (by omega), if_neg (by omega), if_neg (by omega), if_neg (by omega), if_neg (by omega), if_neg (by omega), if_neg (by omega), if_neg (by omega), if_neg (by omega), if_neg (by omega), if_pos h0]
    rw [hE]
    rfl
  have hil := hP.zm.il
  have HSh : Hid (Calls Tryz.prog 45 #[.pointer (some ⟨l.sb, 0, none⟩), .int .u64 (0 : Int), .slice none 0 0] W fun r V => ∃ a c, r = .returned (ansV 0 0 s.I.length 0 a 0 c (errCode s.ie)) ∧ Below W.heap.size W V ∧ W.heap.size ≤ V.heap.size) := (shows_any2 (x := 0) (n := 0) (c := 0) hP.zm (BRow.nil _ none) rfl (by omega)).mono (fun r V ⟨a, c, h1, _, _, h2⟩ => ⟨a, c, h1, h2, h2.size⟩)
  have HE : Hid (∀ X R1 a c, Below W.heap.size W X → W.heap.size ≤ R1 → R1 ≠ w.heap.size + 1 ∧ X.cell? ⟨l.sb, 4, none⟩ = some (.slice l.ia s.I.length l.ic) ∧ Res X (w.heap.size + 1) ∧ Res (X) (w.heap.size + 1) ∧ StM B w l s o (.returned (ansV 0 0 s.I.length 0 a 0 c (errCode (s.ie)))) (ansW (X) (w.heap.size + 1) (.int .u32 ((0 : Nat) : Int)) (.int .u32 ((0 : Nat) : Int)) (.int .u64 (s.I.length : Int)) (.int .u64 ((0 : Nat) : Int)) (.slice a 0 c) (.int .u8 (errCode (s.ie) : Int)))) := fun X R1 a c hX hR => by
    have hb : Below W.heap.size W (X) := hX
    have hS := MSt.start hP.zm hb
    have hsz := hP.sz
    exact ⟨by omega, (hP.zm.below hX).cell 4, (MSt.start hP.zm hX).res hP, hS.res hP, StM.mk1 hS hP hz (BRow.nil _ _) rfl (fun h0 => absurd rfl h0)⟩
  obtain ⟨nb, hnb⟩ : ∃ nb, W.heap.size = nb := ⟨_, rfl⟩
  rw [hnb] at HSh HE
  have hz0 := errCode_zero (x := s.ie)
  rw [decide_eq_true hie] at hz0
  have hpos : ¬ (0 : Int) < (s.I.length : Int) := by rw [hne0]; simp
  generalize hq : s.I.length = q at *
  generalize hec : errCode s.ie = ec at *
  clear hq hec hne0
  clear hz hbd hnb hBW hE hie
  unfold opB ans0 at hW
  unfold opV
  clear h hP h0
  go_enter Tryz.func9, Tryz.ntmps9
  go_wp2_with fail
  refine Calls.mono HSh.out ?_
  rintro r V1 ⟨a, c, rfl, hb1, hb1s⟩
  have HB1 : Hid (Below nb W V1) := hb1
  have HB1s : Hid (nb ≤ V1.heap.size) := hb1s
  clear hb1 hb1s hW HSh m4 mf4
  go_upto_region 65 with fail
  obtain ⟨X0, hX0⟩ : ∃ X0, V1.alloc (.cells #[.int .u32 0, .int .u32 0, .int .u64 (q : Int), .int .u64 0, .slice a 0 c, .int .u8 (ec : Int)] 36) = X0 := ⟨_, rfl⟩
  rw [hX0]
  have hbx : X0.heap[V1.heap.size]? = some (.cells #[.int .u32 0, .int .u32 0, .int .u64 (q : Int), .int .u64 0, .slice a 0 c, .int .u8 (ec : Int)] 36 (0, 0)) := by rw [← hX0]; exact heap_alloc_new V1 _
  have hb2 : Below nb W X0 := by rw [← hX0]; exact HB1.out.alloc HB1s.out _
  have hR1 := HB1s.out
  clear hX0 HB1 HB1s
  generalize V1.heap.size = R1 at *
  obtain ⟨hne, k4, hres, hres2, hfin⟩ := HE.out X0 R1 a c hb2 hR1
  have HF : Hid _ := hfin
  have HRes : Hid _ := hres2
  have hne' := Ne.symm hne
  obtain ⟨r0, r1, r2, r3, r4, r5, rf⟩ := hres.cells
  obtain ⟨y0, y1, y2, y3, y4, y5, yf⟩ := boxm_cells hbx
  clear hfin hres hres2 hbx HE hb2 hR1
  go_wp2
  exact retStepM rfl rfl HRes.out HF.out

set_option maxRecDepth 100000 in
set_option maxHeartbeats 2000000 in
theorem zm18c {B : Nat} {w : World} {l : Ml} {s : ZSt} {o : OpD} (h : InN B w l s o) (h0 : o.kind = 18) (hie : s.ie ≠ none) :
    Calls Tryz.prog 9 #[.pointer (some ⟨l.sb, 0, none⟩), opV o] w (StM B w l s o) := by
  obtain ⟨W, hW⟩ : ∃ W, (w.alloc (opB o)).alloc ans0 = W := ⟨_, rfl⟩
  have hP := proM h hW
  have c0 : W.cell? ⟨w.heap.size, 0, none⟩ = some (.int .u8 (o.kind : Int)) := hP.cell 0
  have m4 : W.cell? ⟨l.sb, 4, none⟩ = some (.slice l.ia s.I.length l.ic) := hP.zm.cell 4
  have mf4 := hP.zm.fr 4
  have b0 : ((o.kind : Int) == 0) = false := by simp; omega
  have b1 : ((o.kind : Int) == 1) = false := by simp; omega
  have b2 : ((o.kind : Int) == 2) = false := by simp; omega
  have b3 : ((o.kind : Int) == 3) = false := by simp; omega
  have b4 : ((o.kind : Int) == 4) = false := by simp; omega
  have b5 : ((o.kind : Int) == 5) = false := by simp; omega
  have b6 : ((o.kind : Int) == 6) = false := by simp; omega
  have b7 : ((o.kind : Int) == 7) = false := by simp; omega
  have b8 : ((o.kind : Int) == 8) = false := by simp; omega
  have b9 : ((o.kind : Int) == 9) = false := by simp; omega
  have b10 : ((o.kind : Int) == 10) = false := by simp; omega
  have b11 : ((o.kind : Int) == 11) = false := by simp; omega
  have b12 : ((o.kind : Int) == 12) = false := by simp; omega
  have b13 : ((o.kind : Int) == 13) = false := by simp; omega
  have b14 : ((o.kind : Int) == 14) = false := by simp; omega
  have b15 : ((o.kind : Int) == 15) = false := by simp; omega
  have b16 : ((o.kind : Int) == 16) = false := by simp; omega
  have b17 : ((o.kind : Int) == 17) = false := by simp; omega
  have b18 : ((o.kind : Int) == 18) = true := by simp; omega
  have HP : Hid (ProM B w W l s o) := hP
  have hbd : Below W.heap.size W W.drew := (Below.refl _ _).drew
  have hBW : B ≤ W.heap.size := by have h1 := hP.Bw; have h2 := hP.sz; omega
  have hE : (if s.ie = none ∧ s.I ≠ [] then some 4 else s.ie) = s.ie := by rw [if_neg (fun h => hie h.1)]
  have hz : zstep s o = (s, ⟨0, 0, s.I.length, 0, [], errCode (s.ie)⟩) := by
    unfold zstep
    rw [if_neg (by omega), if_neg (by omega), if_neg (by omega), if_neg (by omega), if_neg (by omega), if_neg (by omega), if_neg (by omega), if_neg (by omega), if_neg (by omega), if_neg (by omega), if_neg (by omega), if_neg (by omega), if_neg (by omega), if_neg (by omega), if_neg (by omega), if_neg (by omega), if_neg (by omega), if_neg (by omega), if_pos h0]
    rw [hE]
    rfl
  have hil := hP.zm.il
  have HSh : Hid (Calls Tryz.prog 45 #[.pointer (some ⟨l.sb, 0, none⟩), .int .u64 (0 : Int), .slice none 0 0] W fun r V => ∃ a c, r = .returned (ansV 0 0 s.I.length 0 a 0 c (errCode s.ie)) ∧ Below W.heap.size W V ∧ W.heap.size ≤ V.heap.size) := (shows_any2 (x := 0) (n := 0) (c := 0) hP.zm (BRow.nil _ none) rfl (by omega)).mono (fun r V ⟨a, c, h1, _, _, h2⟩ => ⟨a, c, h1, h2, h2.size⟩)
  have HE : Hid (∀ X R1 a c, Below W.heap.size W X → W.heap.size ≤ R1 → R1 ≠ w.heap.size + 1 ∧ X.cell? ⟨l.sb, 4, none⟩ = some (.slice l.ia s.I.length l.ic) ∧ Res X (w.heap.size + 1) ∧ Res (X) (w.heap.size + 1) ∧ StM B w l s o (.returned (ansV 0 0 s.I.length 0 a 0 c (errCode (s.ie)))) (ansW (X) (w.heap.size + 1) (.int .u32 ((0 : Nat) : Int)) (.int .u32 ((0 : Nat) : Int)) (.int .u64 (s.I.length : Int)) (.int .u64 ((0 : Nat) : Int)) (.slice a 0 c) (.int .u8 (errCode (s.ie) : Int)))) := fun X R1 a c hX hR => by
    have hb : Below W.heap.size W (X) := hX
    have hS := MSt.start hP.zm hb
    have hsz := hP.sz
    exact ⟨by omega, (hP.zm.below hX).cell 4, (MSt.start hP.zm hX).res hP, hS.res hP, StM.mk1 hS hP hz (BRow.nil _ _) rfl (fun h0 => absurd rfl h0)⟩
  obtain ⟨nb, hnb⟩ : ∃ nb, W.heap.size = nb := ⟨_, rfl⟩
  rw [hnb] at HSh HE
  have hz0 := errCode_zero (x := s.ie)
  rw [decide_eq_false hie] at hz0
  generalize hq : s.I.length = q at *
  generalize hec : errCode s.ie = ec at *
  clear hq hec
  clear hz hbd hnb hBW hE hie
  unfold opB ans0 at hW
  unfold opV
  clear h hP h0
  go_enter Tryz.func9, Tryz.ntmps9
  go_wp2_with fail
  refine Calls.mono HSh.out ?_
  rintro r V1 ⟨a, c, rfl, hb1, hb1s⟩
  have HB1 : Hid (Below nb W V1) := hb1
  have HB1s : Hid (nb ≤ V1.heap.size) := hb1s
  clear hb1 hb1s hW HSh m4 mf4
  go_upto_region 65 with fail
  obtain ⟨X0, hX0⟩ : ∃ X0, V1.alloc (.cells #[.int .u32 0, .int .u32 0, .int .u64 (q : Int), .int .u64 0, .slice a 0 c, .int .u8 (ec : Int)] 36) = X0 := ⟨_, rfl⟩
  rw [hX0]
  have hbx : X0.heap[V1.heap.size]? = some (.cells #[.int .u32 0, .int .u32 0, .int .u64 (q : Int), .int .u64 0, .slice a 0 c, .int .u8 (ec : Int)] 36 (0, 0)) := by rw [← hX0]; exact heap_alloc_new V1 _
  have hb2 : Below nb W X0 := by rw [← hX0]; exact HB1.out.alloc HB1s.out _
  have hR1 := HB1s.out
  clear hX0 HB1 HB1s
  generalize V1.heap.size = R1 at *
  obtain ⟨hne, k4, hres, hres2, hfin⟩ := HE.out X0 R1 a c hb2 hR1
  have HF : Hid _ := hfin
  have HRes : Hid _ := hres2
  have hne' := Ne.symm hne
  obtain ⟨r0, r1, r2, r3, r4, r5, rf⟩ := hres.cells
  obtain ⟨y0, y1, y2, y3, y4, y5, yf⟩ := boxm_cells hbx
  clear hfin hres hres2 hbx HE hb2 hR1
  go_wp2
  exact retStepM rfl rfl HRes.out HF.out

set_option maxRecDepth 100000 in
set_option maxHeartbeats 2000000 in
theorem zm10 {B : Nat} {w : World} {l : Ml} {s : ZSt} {o : OpD} (h : InN B w l s o) (h0 : o.kind = 10) :
    Calls Tryz.prog 9 #[.pointer (some ⟨l.sb, 0, none⟩), opV o] w (StM B w l s o) := by
  obtain ⟨W, hW⟩ : ∃ W, (w.alloc (opB o)).alloc ans0 = W := ⟨_, rfl⟩
  have hP := proM h hW
  have c0 : W.cell? ⟨w.heap.size, 0, none⟩ = some (.int .u8 (o.kind : Int)) := hP.cell 0

  have b0 : ((o.kind : Int) == 0) = false := by simp; omega
  have b1 : ((o.kind : Int) == 1) = false := by simp; omega
  have b2 : ((o.kind : Int) == 2) = false := by simp; omega
  have b3 : ((o.kind : Int) == 3) = false := by simp; omega
  have b4 : ((o.kind : Int) == 4) = false := by simp; omega
  have b5 : ((o.kind : Int) == 5) = false := by simp; omega
  have b6 : ((o.kind : Int) == 6) = false := by simp; omega
  have b7 : ((o.kind : Int) == 7) = false := by simp; omega
  have b8 : ((o.kind : Int) == 8) = false := by simp; omega
  have b9 : ((o.kind : Int) == 9) = false := by simp; omega
  have b10 : ((o.kind : Int) == 10) = true := by simp; omega
  have HP : Hid (ProM B w W l s o) := hP
  have hbd : Below W.heap.size W W.drew := (Below.refl _ _).drew
  have hBW : B ≤ W.heap.size := by have h1 := hP.Bw; have h2 := hP.sz; omega
  have hz : zstep s o = (s, ⟨0, 0, s.O.length, 0, s.O, errCode s.oe⟩) := by
    unfold zstep
    rw [if_neg (by omega), if_neg (by omega), if_neg (by omega), if_neg (by omega), if_neg (by omega), if_neg (by omega), if_neg (by omega), if_neg (by omega), if_neg (by omega), if_neg (by omega), if_pos h0]
    rfl
  have hol := hP.zm.ol
  have hlm := hP.zm.lim
  obtain ⟨q, hq⟩ : ∃ q, s.O.length = q := ⟨_, rfl⟩
  obtain ⟨ec, hec⟩ : ∃ ec, errCode s.oe = ec := ⟨_, rfl⟩
  rw [hq, hec] at hz
  have hlt := hP.z0.lt
  have HKm : Hid (∀ V, Below W.heap.size W V → V.cell? ⟨l.sb, 1, none⟩ = some (.slice l.oa q l.oc) ∧ V.cell? ⟨l.sb, 3, none⟩ = some (.int .u8 (ec : Int))) := fun V hV => ⟨by rw [← hq]; exact (hP.zm.below hV).cell 1, by rw [← hec]; exact (hP.zm.below hV).cell 3⟩
  have HKs : Hid (∀ V p q0 r t u x, (V.cell? ⟨l.sb, 1, none⟩ = some (.slice l.oa q l.oc) ∧ V.cell? ⟨l.sb, 3, none⟩ = some (.int .u8 (ec : Int))) → (ansW V (w.heap.size + 1) p q0 r t u x).cell? ⟨l.sb, 1, none⟩ = some (.slice l.oa q l.oc) ∧ (ansW V (w.heap.size + 1) p q0 r t u x).cell? ⟨l.sb, 3, none⟩ = some (.int .u8 (ec : Int))) := fun V p q0 r t u x hV => ⟨(Only.cell (ansW_only V (w.heap.size + 1) p q0 r t u x) (by omega)).trans hV.1, (Only.cell (ansW_only V (w.heap.size + 1) p q0 r t u x) (by omega)).trans hV.2⟩
  unfold ansW at HKs
  have HCo : Hid (Calls Tryz.prog 44 #[.slice l.oa q l.oc] W.drew fun r w' => ∃ a c, r = .returned (.slice a q c) ∧ Below W.heap.size W w' ∧ Res w' (w.heap.size + 1) ∧ StM B w l s o (.returned (ansV 0 0 q 0 a q c ec)) (ansW w' (w.heap.size + 1) (.int .u32 ((0 : Nat) : Int)) (.int .u32 ((0 : Nat) : Int)) (.int .u64 (q : Int)) (.int .u64 ((0 : Nat) : Int)) (.slice a q c) (.int .u8 (ec : Int)))) := by
    have h1 := copyOf_any s.O l.oc l.oa W.drew (hP.zm.rowO.1.below hbd) (by omega)
    rw [hq] at h1
    refine h1.mono ?_
    rintro r w' ⟨a, c, h2, h3, _, _, h5, h6⟩
    have h7 : Below W.heap.size W w' := hbd.trans h6
    have hS := MSt.start hP.zm h7
    have hsz := hP.sz
    exact ⟨a, c, h2, h7, hS.res hP, StM.mk1 hS hP hz h3 hq (fun h0 b o' he => by have h8 : W.heap.size ≤ b := h5 h0 b o' he; omega)⟩
  have hwq : IntKind.u64.wrap (q : Int) = (q : Int) := by simp [IntKind.wrap, IntKind.bits, IntKind.signed]; omega
  have HB0 : Hid (Below W.heap.size W W.drew) := hbd
  clear hz hbd hBW hol hlm hq hec hlt
  unfold opB ans0 at hW
  unfold opV
  clear h hP h0
  go_enter Tryz.func9, Tryz.ntmps9
  go_upto_region 43 with fail
  clear hW
  go_region_held3 (fun w' => w'.cell? ⟨l.sb, 1, none⟩ = some (.slice l.oa q l.oc) ∧ w'.cell? ⟨l.sb, 3, none⟩ = some (.int .u8 (ec : Int)))
    (first | with_reducible exact HKm.out _ HB0.out | with_reducible exact HKm.out _ HB1.out | with_reducible exact HKs.out _ _ _ _ _ _ _ (HKm.out _ HB1.out))
    (first
      | (go_at_call 44; refine Calls.mono HCo.out ?_; rintro r V1 ⟨a, c, rfl, hb1, hres, hfin⟩; have HB1 : Hid (Below W.heap.size W V1) := hb1; have HRes : Hid (Res V1 (w.heap.size + 1)) := hres; have HF : Hid _ := hfin; obtain ⟨r0, r1, r2, r3, r4, r5, rf⟩ := hres.cells; clear hb1 hres hfin))
  go_wp2
  exact retStepM rfl rfl HRes.out HF.out

set_option maxRecDepth 100000 in
set_option maxHeartbeats 2000000 in
theorem zm3 {B : Nat} {w : World} {l : Ml} {s : ZSt} {o : OpD} (h : InN B w l s o) (h0 : o.kind = 3) :
    Calls Tryz.prog 9 #[.pointer (some ⟨l.sb, 0, none⟩), opV o] w (StM B w l s o) := by
  obtain ⟨W, hW⟩ : ∃ W, (w.alloc (opB o)).alloc ans0 = W := ⟨_, rfl⟩
  have hP := proM h hW
  have c0 : W.cell? ⟨w.heap.size, 0, none⟩ = some (.int .u8 (o.kind : Int)) := hP.cell 0

  have b0 : ((o.kind : Int) == 0) = false := by simp; omega
  have b1 : ((o.kind : Int) == 1) = false := by simp; omega
  have b2 : ((o.kind : Int) == 2) = false := by simp; omega
  have b3 : ((o.kind : Int) == 3) = true := by simp; omega
  have HP : Hid (ProM B w W l s o) := hP
  have hbd : Below W.heap.size W W.drew := (Below.refl _ _).drew
  have hBW : B ≤ W.heap.size := by have h1 := hP.Bw; have h2 := hP.sz; omega
  have hz : zstep s o = (s, ⟨Crc.crc s.F, Flt.fl s.F, s.F.length, 0, [], 0⟩) := by
    unfold zstep
    rw [if_neg (by omega), if_neg (by omega), if_neg (by omega), if_pos h0]
  have hZ := hP.zm
  have hfm := h.fm
  obtain ⟨q, hq⟩ : ∃ q, s.F.length = q := ⟨_, rfl⟩
  obtain ⟨cr, hcr⟩ : ∃ cr, Crc.crc s.F = cr := ⟨_, rfl⟩
  obtain ⟨fl, hfl⟩ : ∃ fl, Flt.fl s.F = fl := ⟨_, rfl⟩
  rw [hq, hcr, hfl] at hz
  have HSc : Hid (∀ V, Below W.heap.size W V → Calls Tryz.prog 39 #[.slice l.fa q l.fc] V fun r w' => r = .returned (.int .u32 (cr : Int)) ∧ Below W.heap.size W w') := fun V hV => by
    rw [← hcr, ← hq]; exact (modelCrc_any s.F l.fc l.fa V (by omega) (hZ.below hV).rowF.1).mono (fun r w' ⟨h1, h2⟩ => ⟨h1, by rw [h2]; exact hV⟩)
  have HSf : Hid (∀ V, Below W.heap.size W V → Calls Tryz.prog 40 #[.slice l.fa q l.fc] V fun r w' => r = .returned (.int .u32 (fl : Int)) ∧ Below W.heap.size W w') := fun V hV => by
    rw [← hfl, ← hq]; exact (modelFlt_any s.F l.fc l.fa V (by omega) (hZ.below hV).rowF.1).mono (fun r w' ⟨h1, h2⟩ => ⟨h1, by rw [h2]; exact hV⟩)
  have HKd : Hid (∀ V, Below W.heap.size W V → V.cell? ⟨l.sb, 0, none⟩ = some (.slice l.fa q l.fc)) := fun V hV => by rw [← hq]; exact (hZ.below hV).cell 0
  have hlt := hP.z0.lt
  have HKs : Hid (∀ V p q0 r t u x, (V.cell? ⟨l.sb, 0, none⟩ = some (.slice l.fa q l.fc)) → (ansW V (w.heap.size + 1) p q0 r t u x).cell? ⟨l.sb, 0, none⟩ = some (.slice l.fa q l.fc)) := fun V p q0 r t u x hV => (Only.cell (ansW_only V (w.heap.size + 1) p q0 r t u x) (by omega)).trans hV
  unfold ansW at HKs
  have HE : Hid (∀ V, Below W.heap.size W V → Res V (w.heap.size + 1) ∧ StM B w l s o (.returned (ansV cr fl q 0 none 0 0 0)) (ansW V (w.heap.size + 1) (.int .u32 (cr : Int)) (.int .u32 (fl : Int)) (.int .u64 (q : Int)) (.int .u64 ((0 : Nat) : Int)) (.slice none 0 0) (.int .u8 ((0 : Nat) : Int)))) := fun V hV => ⟨(MSt.start hP.zm hV).res hP, StM.mk0 (MSt.start hP.zm hV) hP hz⟩
  have hwq : IntKind.u64.wrap (q : Int) = (q : Int) := by simp [IntKind.wrap, IntKind.bits, IntKind.signed]; omega
  have HB0 : Hid (Below W.heap.size W W.drew) := hbd
  obtain ⟨nb, hnb⟩ : ∃ nb, W.heap.size = nb := ⟨_, rfl⟩
  rw [hnb] at HSc HSf HKd HB0 HE
  clear hz hbd hq hcr hfl hnb hZ hlt hBW hfm
  unfold opB ans0 at hW
  unfold opV
  clear h hP h0
  go_enter Tryz.func9, Tryz.ntmps9
  go_upto_region 16 with fail
  clear hW
  go_region_held3 (fun w' => w'.cell? ⟨l.sb, 0, none⟩ = some (.slice l.fa q l.fc))
    (first | with_reducible exact HKd.out _ HB0.out | with_reducible exact HKd.out _ HB1.out | with_reducible exact HKd.out _ HB2.out | with_reducible exact HKs.out _ _ _ _ _ _ _ (HKd.out _ HB2.out))
    (first
      | (go_at_call 39; refine Calls.mono (HSc.out _ HB0.out) ?_; rintro r V1 ⟨rfl, hb⟩; have HB1 : Hid (Below nb W V1) := hb; clear hb)
      | (go_at_call 40; refine Calls.mono (HSf.out _ HB1.out) ?_; rintro r V2 ⟨rfl, hb⟩; have HB2 : Hid (Below nb W V2) := hb; have hfin := HE.out V2 hb; have HRes : Hid (Res V2 (w.heap.size + 1)) := hfin.1; have HF : Hid _ := hfin.2; obtain ⟨r0, r1, r2, r3, r4, r5, rf⟩ := hfin.1.cells; clear hb hfin))
  go_wp2
  exact retStepM rfl rfl HRes.out HF.out
end Go.Proofs.Qxb6500698aGreatDoor
