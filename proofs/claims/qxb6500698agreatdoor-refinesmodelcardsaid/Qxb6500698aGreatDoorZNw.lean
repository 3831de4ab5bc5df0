/-
  THE TWO MACHINES AT THE START.
-/
import Derived.Test.Qxb6500698aGreatDoorZM
namespace Go.Proofs.Qxb6500698aGreatDoor
open Go.RowKit
def zst0 : ZSt := ⟨[], [], [], 256, none, none⟩

set_option maxRecDepth 100000 in
set_option maxHeartbeats 1000000 in
theorem newMachines_any (w : World) (e : Nat → Addr) : Calls Tryz.prog 5 #[] w fun r w' => ∃ l : Rl, r = .returned (.pointer (some ⟨l.d, 0, none⟩)) ∧ ZR w.heap.size w' e l zst0 ∧ l.bs = [] ∧ Below w.heap.size w w' := by
  have HC : Hid (Calls Tryz.prog 10 #[] w fun r w' => r = .returned (.pointer (some ⟨w.heap.size, 0, none⟩)) ∧ Below w.heap.size w w' ∧ Tabs w' w.heap.size) := newCrc_any w
  have HD : Hid (∀ V, Calls Tryz.prog 11 #[.pointer (some ⟨w.heap.size, 0, none⟩)] V fun r w' => r = .returned (.pointer (some ⟨V.heap.size, 0, none⟩)) ∧ Below V.heap.size V w' ∧ DigAt w' V.heap.size w.heap.size 0 0) := fun V => newDigest_any _ V
  have HW : Hid (∀ w : World, Calls Tryz.prog 12 #[.int .i64 256] w fun r w' => r = .returned (.pointer (some ⟨w.heap.size, 0, none⟩)) ∧ w' = w.alloc (.cells #[.slice none 0 0, .int .i64 256, .nilIface] 90)) := fun w => newWriter_any 256 (by omega)
  have HR : Hid (∀ w : World, Calls Tryz.prog 13 #[.slice none 0 0] w fun r w' => r = .returned (.pointer (some ⟨w.heap.size, 0, none⟩)) ∧ w' = w.alloc (.cells #[.slice none 0 0, .int .i64 0, .nilIface] 92)) := fun w => newReader_any none 0 0
  obtain ⟨tb, htb⟩ : ∃ tb, w.heap.size = tb := ⟨_, rfl⟩
  have HTb : Hid (w.heap.size = tb) := htb
  rw [htb] at HC HD ⊢
  clear htb
  go_enter Tryz.func5, Tryz.ntmps5
  go_wp2_with fail
  refine Calls.mono HC.out ?_
  rintro r w1 ⟨rfl, hb1, ht1⟩
  have H1 : Hid (Below tb w w1 ∧ Tabs w1 tb) := ⟨hb1, ht1⟩
  clear hb1 ht1 HC
  go_wp2_with fail
  refine Calls.mono (HD.out _) ?_
  rintro r w2 ⟨rfl, hb2, ht2⟩
  obtain ⟨cd, hcd⟩ : ∃ cd, w1.heap.size = cd := ⟨_, rfl⟩
  rw [hcd] at hb2 ht2 ⊢
  have H2 : Hid (Below cd w1 w2 ∧ DigAt w2 cd tb 0 0 ∧ w1.heap.size = cd) := ⟨hb2, ht2, hcd⟩
  clear hb2 ht2 HD hcd
  go_wp2_with fail
  refine Calls.mono (HW.out _) ?_
  rintro r w3 ⟨rfl, hw3⟩
  obtain ⟨wb, hwb⟩ : ∃ wb, w2.heap.size = wb := ⟨_, rfl⟩
  rw [hwb]
  have H3 : Hid (w3 = w2.alloc (.cells #[.slice none 0 0, .int .i64 256, .nilIface] 90) ∧ w2.heap.size = wb) := ⟨hw3, hwb⟩
  clear hw3 hwb HW
  go_wp2_with fail
  refine Calls.mono (HR.out _) ?_
  rintro r w4 ⟨rfl, hw4⟩
  obtain ⟨rb, hrb⟩ : ∃ rb, w3.heap.size = rb := ⟨_, rfl⟩
  rw [hrb]
  have HF : Hid (ZR tb (w4.alloc (.cells #[.pointer (some ⟨tb, 0, none⟩), .pointer (some ⟨cd, 0, none⟩), .int .u32 0, .int .u32 0, .int .u8 0, .bool false, .int .u64 0, .pointer (some ⟨wb, 0, none⟩), .pointer (some ⟨rb, 0, none⟩)] 50)) e ⟨w4.heap.size, tb, cd, wb, rb, .slice none 0 0, none, [], 0, 0⟩ zst0 ∧ Below tb w (w4.alloc (.cells #[.pointer (some ⟨tb, 0, none⟩), .pointer (some ⟨cd, 0, none⟩), .int .u32 0, .int .u32 0, .int .u8 0, .bool false, .int .u64 0, .pointer (some ⟨wb, 0, none⟩), .pointer (some ⟨rb, 0, none⟩)] 50))) := by
    obtain ⟨hb1, ht1⟩ := H1.out
    obtain ⟨hb2, hd2, hcd⟩ := H2.out
    obtain ⟨hw3, hwb⟩ := H3.out
    have htb := HTb.out
    have hb3 : Below w2.heap.size w2 w3 := by rw [hw3]; exact (Below.refl _ _).alloc (Nat.le_refl _) _
    have hb4 : Below w3.heap.size w3 w4 := by rw [hw4]; exact (Below.refl _ _).alloc (Nat.le_refl _) _
    obtain ⟨w5, hw5⟩ : ∃ w5, w4.alloc (.cells #[.pointer (some ⟨tb, 0, none⟩), .pointer (some ⟨cd, 0, none⟩), .int .u32 0, .int .u32 0, .int .u8 0, .bool false, .int .u64 0, .pointer (some ⟨wb, 0, none⟩), .pointer (some ⟨rb, 0, none⟩)] 50) = w5 := ⟨_, rfl⟩
    have hb5 : Below w4.heap.size w4 w5 := by rw [← hw5]; exact (Below.refl _ _).alloc (Nat.le_refl _) _
    have hat3 : w3.heap[wb]? = some (.cells #[.slice none 0 0, .int .i64 256, .nilIface] 90 (0, 0)) := by rw [hw3, ← hwb]; exact heap_alloc_new w2 _
    have hat4 : w4.heap[rb]? = some (.cells #[.slice none 0 0, .int .i64 0, .nilIface] 92 (0, 0)) := by rw [hw4, ← hrb]; exact heap_alloc_new w3 _
    have hat5 : w5.heap[w4.heap.size]? = some (.cells #[.pointer (some ⟨tb, 0, none⟩), .pointer (some ⟨cd, 0, none⟩), .int .u32 0, .int .u32 0, .int .u8 0, .bool false, .int .u64 0, .pointer (some ⟨wb, 0, none⟩), .pointer (some ⟨rb, 0, none⟩)] 50 (0, 0)) := by rw [← hw5]; exact heap_alloc_new w4 _
    rw [hw5]
    have s1 := ht1.lt
    have s2 := hd2.lt
    have s3 := heap_lt hat3
    have s4 := heap_lt hat4
    have z1 := hb1.size
    have z3 := hb3.size
    have z4 := hb4.size
    have z5 := hb5.size
    have hb2' : Below w1.heap.size w1 w2 := by rw [hcd]; exact hb2
    have b35 : Below w3.heap.size w3 w5 := hb4.trans (hb5.mono z4)
    have b25 : Below w2.heap.size w2 w5 := hb3.trans (b35.mono z3)
    have b15 : Below w1.heap.size w1 w5 := hb2'.trans (b25.mono hb2'.size)
    have z2 := hb2'.size
    refine ⟨⟨?_, ?_, ?_, ?_, ?_, rfl, ⟨?_, ?_, ?_⟩, ⟨?_, ?_, ?_, ?_⟩, ⟨?_, ?_, ?_⟩, ⟨?_, ?_, ?_⟩, ?_, ?_, ?_⟩, hb1.trans (b15.mono (by omega))⟩
    · exact FlAcc.start hat5
    · exact hd2.of_block (b25.block _ s2)
    · exact tabs_keep ht1 (b15.block _ s1)
    · exact ⟨(b35.block _ s3).trans hat3, by simpa [OwnB, zst0] using World.ownsRow_nil w5 tb 5 1, (by intro x hx; cases hx), Nat.zero_le _, by show 256 ≤ 1024; omega, (by intro hx; cases hx), (fun i hi => by cases hi), by show tb ≤ wb; omega⟩
    · exact ⟨(hb5.block _ s4).trans hat4, BRow.nil _ _, Nat.le_refl _, Nat.le_refl _, by show (0:Nat) ≤ _; omega, Nat.zero_le _, (fun i hi => by cases hi), (fun h0 => absurd rfl h0), by show tb ≤ rb; omega⟩
    all_goals first
      | (show (_ : Nat) ≤ _; simp only []; omega)
      | (show ¬ _; simp only []; omega)
      | (rintro b ⟨h0, _⟩; exact absurd rfl h0)
      | (intro b hb; cases hb; done)
  clear H1 H2 H3 hw4 hrb HR HTb
  go_wp2
  go_ret
  exact ⟨_, rfl, HF.out.1, rfl, HF.out.2⟩

set_option maxRecDepth 100000 in
theorem mnew_any (w : World) : Calls Tryz.prog 6 #[] w fun r w' => r = .returned (.pointer (some ⟨w.heap.size, 0, none⟩)) ∧ w' = w.alloc (.cells #[.slice none 0 0, .slice none 0 0, .int .i64 256, .int .u8 0, .slice none 0 0, .int .u8 0] 52) := by
  go_enter Tryz.func6, Tryz.ntmps6
  go_wp2
  go_ret
  exact ⟨rfl, rfl⟩
theorem zm_start {B : Nat} {w w' : World} (hB : B ≤ w.heap.size) (hw : w' = w.alloc (.cells #[.slice none 0 0, .slice none 0 0, .int .i64 256, .int .u8 0, .slice none 0 0, .int .u8 0] 52)) : ZM B w' ⟨w.heap.size, none, 0, none, 0, none, 0⟩ zst0 := by
  have hat : w'.heap[w.heap.size]? = some (.cells #[.slice none 0 0, .slice none 0 0, .int .i64 256, .int .u8 0, .slice none 0 0, .int .u8 0] 52 (0, 0)) := by rw [hw]; exact heap_alloc_new w _
  exact ⟨hat, by simpa [OwnB, zst0] using World.ownsRow_nil w' B 5 1, by simpa [OwnB, zst0] using World.ownsRow_nil w' B 5 1, BRow.nil _ _, Nat.le_refl _, by show (0:Nat) ≤ _; omega, Nat.zero_le _, Nat.zero_le _, by show 256 ≤ 1024; omega, (by intro x hx; cases hx), (by intro x hx; cases hx), hB, (by intro hx; cases hx), (by intro hx; cases hx), (by intro b hx; cases hx), (by rintro b ⟨h0, _⟩; exact absurd rfl h0)⟩
end Go.Proofs.Qxb6500698aGreatDoor
