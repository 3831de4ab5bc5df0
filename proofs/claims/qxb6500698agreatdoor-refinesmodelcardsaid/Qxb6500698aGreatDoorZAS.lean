/-
  Answer.Same OF TWO ANSWERS THAT SHOW THE SAME.
-/
import Derived.Test.Qxb6500698aGreatDoorZA
namespace Go.Proofs.Qxb6500698aGreatDoor
open Go.RowKit
theorem ne_selfN (n : Nat) : ((n : Int) != (n : Int)) = false := by simp

set_option maxRecDepth 100000 in
set_option maxHeartbeats 4000000 in
theorem asame_z (w : World) (cr fl ln v er : Nat) (da db : Option Addr) (D ca cb : Nat) (ds : List Nat) (hD : ds.length = D) (hl : D ≤ 65536) (ha : BRow w da ds) (hb : BRow w db ds) :
    Calls Tryz.prog 8 #[ansV cr fl ln v da D ca er, ansV cr fl ln v db D cb er] w fun r w' => r = .returned (.bool true) ∧ Below w.heap.size w w' := by
  obtain ⟨W, hW⟩ : ∃ W, (w.alloc (.cells #[.int .u32 (cr : Int), .int .u32 (fl : Int), .int .u64 (ln : Int), .int .u64 (v : Int), .slice da D ca, .int .u8 (er : Int)] 36)).alloc (.cells #[.int .u32 (cr : Int), .int .u32 (fl : Int), .int .u64 (ln : Int), .int .u64 (v : Int), .slice db D cb, .int .u8 (er : Int)] 36) = W := ⟨_, rfl⟩
  have hB : Below w.heap.size w W := by rw [← hW]; exact ((Below.refl _ _).alloc (Nat.le_refl _) _).alloc (by simp) _
  have HB : Hid (Below w.heap.size w W) := hB
  have hx0 : W.heap[w.heap.size]? = some (.cells #[.int .u32 (cr : Int), .int .u32 (fl : Int), .int .u64 (ln : Int), .int .u64 (v : Int), .slice da D ca, .int .u8 (er : Int)] 36 (0, 0)) := by
    rw [← hW, Below.heap_alloc _ _ _ (by simp)]; exact heap_alloc_new w _
  have hx1 : W.heap[w.heap.size + 1]? = some (.cells #[.int .u32 (cr : Int), .int .u32 (fl : Int), .int .u64 (ln : Int), .int .u64 (v : Int), .slice db D cb, .int .u8 (er : Int)] 36 (0, 0)) := by
    have h := heap_alloc_new (w.alloc (.cells #[.int .u32 (cr : Int), .int .u32 (fl : Int), .int .u64 (ln : Int), .int .u64 (v : Int), .slice da D ca, .int .u8 (er : Int)] 36)) (.cells #[.int .u32 (cr : Int), .int .u32 (fl : Int), .int .u64 (ln : Int), .int .u64 (v : Int), .slice db D cb, .int .u8 (er : Int)] 36)
    rw [hW] at h
    simpa using h
  have p0 : W.cell? ⟨w.heap.size, 0, none⟩ = some (.int .u32 (cr : Int)) := by simp [World.cell?, hx0]
  have p1 : W.cell? ⟨w.heap.size, 1, none⟩ = some (.int .u32 (fl : Int)) := by simp [World.cell?, hx0]
  have p2 : W.cell? ⟨w.heap.size, 2, none⟩ = some (.int .u64 (ln : Int)) := by simp [World.cell?, hx0]
  have p3 : W.cell? ⟨w.heap.size, 3, none⟩ = some (.int .u64 (v : Int)) := by simp [World.cell?, hx0]
  have p4 : W.cell? ⟨w.heap.size, 4, none⟩ = some (.slice da D ca) := by simp [World.cell?, hx0]
  have p5 : W.cell? ⟨w.heap.size, 5, none⟩ = some (.int .u8 (er : Int)) := by simp [World.cell?, hx0]
  have q0 : W.cell? ⟨w.heap.size + 1, 0, none⟩ = some (.int .u32 (cr : Int)) := by simp [World.cell?, hx1]
  have q1 : W.cell? ⟨w.heap.size + 1, 1, none⟩ = some (.int .u32 (fl : Int)) := by simp [World.cell?, hx1]
  have q2 : W.cell? ⟨w.heap.size + 1, 2, none⟩ = some (.int .u64 (ln : Int)) := by simp [World.cell?, hx1]
  have q3 : W.cell? ⟨w.heap.size + 1, 3, none⟩ = some (.int .u64 (v : Int)) := by simp [World.cell?, hx1]
  have q4 : W.cell? ⟨w.heap.size + 1, 4, none⟩ = some (.slice db D cb) := by simp [World.cell?, hx1]
  have q5 : W.cell? ⟨w.heap.size + 1, 5, none⟩ = some (.int .u8 (er : Int)) := by simp [World.cell?, hx1]
  have HA : Hid (BRow w da ds) := ha
  have HBr : Hid (BRow w db ds) := hb
  have HD : Hid (ds.length = D) := hD
  have e0 := ne_selfN cr
  have e1 := ne_selfN fl
  have e2 := ne_selfN ln
  have e3 := ne_selfN v
  have e5 := ne_selfN er
  have e4 := ne_selfN D
  clear ha hb hx0 hx1 hB hD
  go_enter Tryz.func8, Tryz.ntmps8
  go_wp2_with fail
  clear hW p0 p1 p2 p3 p5 q0 q1 q2 q3 q5
  go_loopw [49] (fun i wr => ∃ j : Nat, j ≤ D ∧ i = .int .i64 j ∧ Below W.heap.size W wr) (fun i _ => D - (intOf i).toNat)
  case atStart => exact ⟨0, Nat.zero_le _, rfl, Below.refl _ _⟩
  case round =>
    obtain ⟨j, hj, rfl, hbr⟩ := hrel
    have r4 := (hbr.cell (p := ⟨w.heap.size, 4, none⟩) (cell_lt p4)).trans p4
    have s4 := (hbr.cell (p := ⟨w.heap.size + 1, 4, none⟩) (cell_lt q4)).trans q4
    by_cases hlt : j < D
    · have hlt' : (j : Int) < (D : Int) := by omega
      have hjl : j < ds.length := by rw [HD.out]; exact hlt
      have hne : ds ≠ [] := by intro h0; rw [h0] at hjl; simp at hjl
      obtain ⟨b1, o1, rfl, hc1⟩ := ((HA.out.below HB.out).below hbr).row hne
      obtain ⟨b2, o2, rfl, hc2⟩ := ((HBr.out.below HB.out).below hbr).row hne
      have x1 := hc1 j hjl
      have x2 := hc2 j hjl
      generalize ds.getD j 0 = z at x1 x2
      have hzz := ne_selfN z
      have HBd : Hid (∀ q, Below W.heap.size W (wr.drewN q)) := fun q => hbr.trans (drewN_below _ _ _)
      clear hbr hc1 hc2 hne
      go_wp2
      go_quiet (fail)
      go_wp2
      go_roundw
      case rel => exact ⟨j + 1, by omega, by go_num, HBd.out _⟩
      case measure => simp [intOf]; omega
    · have hlt' : ¬ (j : Int) < (D : Int) := by omega
      have HBq : Hid (Below W.heap.size W wr) := hbr
      clear hbr
      go_wp2
      go_ret
      exact ⟨rfl, HB.out.trans (HBq.out.mono HB.out.size)⟩
end Go.Proofs.Qxb6500698aGreatDoor
