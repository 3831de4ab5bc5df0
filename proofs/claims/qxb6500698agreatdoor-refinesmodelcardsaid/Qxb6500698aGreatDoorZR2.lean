/-
  THE WALKS OF THE READER's METHODS THAT READ INTEGERS.
-/
import Derived.Test.Qxb6500698aGreatDoorZR
namespace Go.Proofs.Qxb6500698aGreatDoor
open Go.RowKit

theorem or_at16 (a b : Nat) (ha : a < 256) (hb : b < 256) : bits BinOp.or IntKind.u16 (a : Int) ((b : Int) * 256) = ((a + 256 * b : Nat) : Int) := by
  rw [show ((b : Int) * 256) = ((b * 256 : Nat) : Int) by omega, u16_or_nat a (b * 256) (by omega) (by omega)]
  congr 1
  have : a ||| b * 2 ^ 8 = a + 2 ^ 8 * b := by
    rw [Nat.mul_comm b, Nat.or_comm, ← Nat.two_pow_add_eq_or_of_lt (by omega) b]; omega
  exact this
theorem or_at64 (a b : Nat) (ha : a < 4294967296) (hb : b < 4294967296) : bits BinOp.or IntKind.u64 (a : Int) ((b : Int) * 4294967296) = ((a + 4294967296 * b : Nat) : Int) := by
  rw [show ((b : Int) * 4294967296) = ((b * 4294967296 : Nat) : Int) by omega, u64_or_nat a (b * 4294967296) (by omega) (by omega)]
  congr 1
  have : a ||| b * 2 ^ 32 = a + 2 ^ 32 * b := by
    rw [Nat.mul_comm b, Nat.or_comm, ← Nat.two_pow_add_eq_or_of_lt (by omega) b]; omega
  exact this

set_option maxRecDepth 100000 in
set_option maxHeartbeats 1000000 in
theorem u32_any8 (t0 t1 t2 t3 b o cap : Nat) (w : World) (c0 : w.cell? ⟨b, o, none⟩ = some (.int .u8 t0)) (c1 : w.cell? ⟨b, o + 1, none⟩ = some (.int .u8 t1)) (c2 : w.cell? ⟨b, o + 2, none⟩ = some (.int .u8 t2)) (c3 : w.cell? ⟨b, o + 3, none⟩ = some (.int .u8 t3))
    (h0 : t0 < 256) (h1 : t1 < 256) (h2 : t2 < 256) (h3 : t3 < 256) :
    Calls Tryz.prog 92 #[.slice (some ⟨b, o, none⟩) 8 cap] w fun r w' => r = .returned (.tuple #[.int .u32 ((undig [t0, t1, t2, t3] : Nat) : Int), .bool true]) ∧ ∃ m, w' = w.drewN m := by
  obtain ⟨s1, hs1⟩ : ∃ s1, t0 + 256 * t1 = s1 := ⟨_, rfl⟩
  obtain ⟨s2, hs2⟩ : ∃ s2, s1 + 65536 * t2 = s2 := ⟨_, rfl⟩
  obtain ⟨s3, hs3⟩ : ∃ s3, s2 + 16777216 * t3 = s3 := ⟨_, rfl⟩
  have o1 : bits BinOp.or IntKind.u32 (t0 : Int) ((t1 : Int) * 256) = (s1 : Int) := by rw [← hs1]; exact or_at t0 t1 8 256 rfl (by omega) (by omega) (by omega)
  have o2 : bits BinOp.or IntKind.u32 (s1 : Int) ((t2 : Int) * 65536) = (s2 : Int) := by rw [← hs2]; exact or_at s1 t2 16 65536 rfl (by omega) (by omega) (by omega)
  have o3 : bits BinOp.or IntKind.u32 (s2 : Int) ((t3 : Int) * 16777216) = (s3 : Int) := by rw [← hs3]; exact or_at s2 t3 24 16777216 rfl (by omega) (by omega) (by omega)
  have hu : undig [t0, t1, t2, t3] = s3 := by simp only [undig]; omega
  have hb1 : s1 < 65536 := by omega
  have hb2 : s2 < 16777216 := by omega
  have hb3 : s3 < 4294967296 := by omega
  rw [hu]
  clear hu hs1 hs2 hs3
  go_enter Tryz.func92, Tryz.ntmps92
  go_wp2
  go_quiet (fail)
  go_wp2
  go_ret2
  exact ⟨rfl, _, rfl⟩

section
variable {w : World}
set_option maxRecDepth 100000 in
theorem u16_short (n cap : Nat) (ao : Option Addr) (hn : n < 2) :
    Calls Tryz.prog 91 #[.slice ao n cap] w fun r w' => r = .returned (.tuple #[.int .u16 0, .bool false]) ∧ ∃ m, w' = w.drewN m := by
  have hn' : (n : Int) < 2 := by omega
  go_enter Tryz.func91, Tryz.ntmps91
  go_wp2
  go_ret2
  exact ⟨rfl, 0, rfl⟩
set_option maxRecDepth 100000 in
theorem u32_short (n cap : Nat) (ao : Option Addr) (hn : n < 4) :
    Calls Tryz.prog 92 #[.slice ao n cap] w fun r w' => r = .returned (.tuple #[.int .u32 0, .bool false]) ∧ ∃ m, w' = w.drewN m := by
  have hn' : (n : Int) < 4 := by omega
  go_enter Tryz.func92, Tryz.ntmps92
  go_wp2
  go_ret2
  exact ⟨rfl, 0, rfl⟩
set_option maxRecDepth 100000 in
theorem u64_short (n cap : Nat) (ao : Option Addr) (hn : n < 8) :
    Calls Tryz.prog 93 #[.slice ao n cap] w fun r w' => r = .returned (.tuple #[.int .u64 0, .bool false]) ∧ ∃ m, w' = w.drewN m := by
  have hn' : (n : Int) < 8 := by omega
  go_enter Tryz.func93, Tryz.ntmps93
  go_wp2
  go_ret2
  exact ⟨rfl, 0, rfl⟩
set_option maxRecDepth 100000 in
set_option maxHeartbeats 1000000 in
theorem u16_ok (bs : List Nat) (ao : Option Addr) (cap : Nat) (hrow : BRow w ao bs) (hl : bs.length = 2) :
    Calls Tryz.prog 91 #[.slice ao 2 cap] w fun r w' => r = .returned (.tuple #[.int .u16 ((undig bs : Nat) : Int), .bool true]) ∧ ∃ m, w' = w.drewN m := by
  obtain ⟨b, o, rfl, hc⟩ := hrow.row (by intro h0; rw [h0] at hl; simp at hl)
  obtain ⟨t0, t1, rfl⟩ : ∃ t0 t1, bs = [t0, t1] := by
    match bs, hl with
    | [a, b], _ => exact ⟨a, b, rfl⟩
  have c0 : w.cell? ⟨b, o, none⟩ = some (.int .u8 t0) := hc 0 (by simp)
  have c1 : w.cell? ⟨b, o + 1, none⟩ = some (.int .u8 t1) := hc 1 (by simp)
  have h0 := hrow.lt t0 (by simp)
  have h1 := hrow.lt t1 (by simp)
  obtain ⟨s1, hs1⟩ : ∃ s1, t0 + 256 * t1 = s1 := ⟨_, rfl⟩
  have o1 : bits BinOp.or IntKind.u16 (t0 : Int) ((t1 : Int) * 256) = (s1 : Int) := by rw [← hs1]; exact or_at16 t0 t1 h0 h1
  have hu : undig [t0, t1] = s1 := by simp only [undig]; omega
  rw [hu]
  clear hu hs1 hc hrow hl
  go_enter Tryz.func91, Tryz.ntmps91
  go_wp2
  go_quiet (fail)
  go_wp2
  go_ret2
  exact ⟨rfl, _, rfl⟩
theorem u32_ok (bs : List Nat) (ao : Option Addr) (cap : Nat) (hrow : BRow w ao bs) (hl : bs.length = 4) :
    Calls Tryz.prog 92 #[.slice ao 4 cap] w fun r w' => r = .returned (.tuple #[.int .u32 ((undig bs : Nat) : Int), .bool true]) ∧ ∃ m, w' = w.drewN m := by
  obtain ⟨b, o, rfl, hc⟩ := hrow.row (by intro h0; rw [h0] at hl; simp at hl)
  obtain ⟨t0, t1, t2, t3, rfl⟩ : ∃ t0 t1 t2 t3, bs = [t0, t1, t2, t3] := by
    match bs, hl with
    | [a, b, c, d], _ => exact ⟨a, b, c, d, rfl⟩
  exact u32_any t0 t1 t2 t3 b o cap w (hc 0 (by simp)) (hc 1 (by simp)) (hc 2 (by simp)) (hc 3 (by simp)) (hrow.lt _ (by simp)) (hrow.lt _ (by simp)) (hrow.lt _ (by simp)) (hrow.lt _ (by simp))
set_option maxRecDepth 100000 in
set_option maxHeartbeats 1000000 in
theorem u64_ok (bs : List Nat) (ao : Option Addr) (c : Nat) (hrow : BRow w ao bs) (hl : bs.length = 8) (hc8 : 8 ≤ c) (hc9 : c ≤ 9223372036854775807) :
    Calls Tryz.prog 93 #[.slice ao 8 c] w fun r w' => r = .returned (.tuple #[.int .u64 ((undig bs : Nat) : Int), .bool true]) ∧ ∃ m, w' = w.drewN m := by
  obtain ⟨b, o, rfl, hc⟩ := hrow.row (by intro h0; rw [h0] at hl; simp at hl)
  obtain ⟨t0, t1, t2, t3, t4, t5, t6, t7, rfl⟩ : ∃ t0 t1 t2 t3 t4 t5 t6 t7, bs = [t0, t1, t2, t3, t4, t5, t6, t7] := by
    match bs, hl with
    | [a, b, c, d, e, f, g, h], _ => exact ⟨a, b, c, d, e, f, g, h, rfl⟩
  have q : ∀ i x, i < 8 → [t0, t1, t2, t3, t4, t5, t6, t7].getD i 0 = x → w.cell? ⟨b, o + i, none⟩ = some (.int .u8 (x : Nat)) := fun i x hi hx => by rw [← hx]; exact hc i (by simpa using hi)
  have l : ∀ x ∈ [t0, t1, t2, t3, t4, t5, t6, t7], x < 256 := hrow.lt
  have b0 := l t0 (by simp)
  have b1 := l t1 (by simp)
  have b2 := l t2 (by simp)
  have b3 := l t3 (by simp)
  have b4 := l t4 (by simp)
  have b5 := l t5 (by simp)
  have b6 := l t6 (by simp)
  have b7 := l t7 (by simp)
  obtain ⟨s1, hs1⟩ : ∃ s1, undig [t0, t1, t2, t3] = s1 := ⟨_, rfl⟩
  obtain ⟨s2, hs2⟩ : ∃ s2, undig [t4, t5, t6, t7] = s2 := ⟨_, rfl⟩
  have HU1 : Hid (Calls Tryz.prog 92 #[.slice (some ⟨b, o, none⟩) 8 c] w fun r w' => r = .returned (.tuple #[.int .u32 (s1 : Int), .bool true]) ∧ ∃ m, w' = w.drewN m) := by
    rw [← hs1]
    exact u32_any8 t0 t1 t2 t3 b o c w (q 0 t0 (by omega) rfl) (q 1 t1 (by omega) rfl) (q 2 t2 (by omega) rfl) (q 3 t3 (by omega) rfl) b0 b1 b2 b3
  have HU2 : Hid (∀ m, Calls Tryz.prog 92 #[.slice (some ⟨b, o + 4, none⟩) 4 (c - 4)] (w.drewN m) fun r w' => r = .returned (.tuple #[.int .u32 (s2 : Int), .bool true]) ∧ ∃ m', w' = (w.drewN m).drewN m') := fun m => by
    rw [← hs2]
    have k : ∀ i x, w.cell? ⟨b, o + i, none⟩ = some x → (w.drewN m).cell? ⟨b, o + i, none⟩ = some x := fun i x hx => by rw [drewN_cell]; exact hx
    exact u32_any t4 t5 t6 t7 b (o + 4) (c - 4) (w.drewN m) (k 4 _ (q 4 t4 (by omega) rfl)) (k 5 _ (q 5 t5 (by omega) rfl)) (k 6 _ (q 6 t6 (by omega) rfl)) (k 7 _ (q 7 t7 (by omega) rfl)) b4 b5 b6 b7
  have hb1 : s1 < 4294967296 := by rw [← hs1]; simp only [undig]; omega
  have hb2 : s2 < 4294967296 := by rw [← hs2]; simp only [undig]; omega
  obtain ⟨s3, hs3⟩ : ∃ s3, s1 + 4294967296 * s2 = s3 := ⟨_, rfl⟩
  have o1 : bits BinOp.or IntKind.u64 (s1 : Int) ((s2 : Int) * 4294967296) = (s3 : Int) := by rw [← hs3]; exact or_at64 s1 s2 hb1 hb2
  have hu : undig [t0, t1, t2, t3, t4, t5, t6, t7] = s3 := by
    rw [← hs3, ← hs1, ← hs2]; simp only [undig]; omega
  rw [hu]
  have hcn : ¬ c = 4 := by omega
  have hc4 : (4 : Int) ≤ (c : Int) := by omega
  have hc84 : (8 : Int) ≤ (c : Int) := by omega
  clear hu hs1 hs2 hs3 hc hrow hl q l b0 b1 b2 b3 b4 b5 b6 b7
  go_enter Tryz.func93, Tryz.ntmps93
  go_wp2_with fail
  refine Calls.mono HU1.out ?_
  rintro r w' ⟨rfl, m, rfl⟩
  go_wp2_with fail
  refine Calls.mono (HU2.out m) ?_
  rintro r w' ⟨rfl, m', hw⟩
  rw [hw]
  clear HU1 HU2 hw
  go_wp2
  go_ret2
  exact ⟨rfl, _, rfl⟩
end
end Go.Proofs.Qxb6500698aGreatDoor
