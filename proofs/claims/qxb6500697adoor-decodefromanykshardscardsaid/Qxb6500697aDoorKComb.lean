/-
  THE WALK OF combine.
-/
import Derived.Test.Qxb6500697aDoorKGen
namespace Go.Proofs.Qxb6500697aDoor
open Go.RowKit

set_option maxRecDepth 100000 in
set_option maxHeartbeats 1000000 in
theorem combine_any (ca ra : Option Addr) (cc rc k size : Nat) (u : Nat → Nat) (D : Nat → Nat → Nat) (w : World) (hu : FRow w ca k u) (hD : RMat w ra k size D) (hk : k ≤ 4096) (hsize : size ≤ 65536) :
    Calls Tryd.prog 51 #[.slice ca k cc, .slice ra k rc, .int .i64 size] w fun e w' => e = .returned (.slice (some ⟨w.heap.size, 0, none⟩) size size) ∧ Row w' w.heap.size size (fun c => gdot u (fun j => D j c) k) ∧ Below w.heap.size w w' ∧ w'.heap.size = w.heap.size + 1 := by
  have HU : Hid (FRow w ca k u) := hu
  have HD : Hid (RMat w ra k size D) := hD
  have hmk := run_make_row' (P := Tryd.prog) 30 5 (.int .u8 0) 1 Tryd.underlying30 Tryd.info5 rfl .i64 .i64 size (by omega) (by omega)
  clear hu hD
  go_enter Tryd.func51, Tryd.ntmps51
  go_wp2
  clear hmk
  go_loopw [14] (fun i wr => ∃ j : Nat, j ≤ k ∧ i = .int .i64 j ∧ Row wr w.heap.size size (fun c => gdot u (fun t => D t c) j) ∧ Below w.heap.size w wr ∧ wr.heap.size = w.heap.size + 1) (fun i _ => k - (intOf i).toNat)
  case atStart => exact ⟨0, Nat.zero_le _, rfl, ⟨fun _ _ => (by decide : (0 : Nat) < 256), World.rowIs_made w (.int .u8 0) size 5⟩, (Below.refl _ _).alloc (Nat.le_refl _) _, by simp⟩
  case round =>
    obtain ⟨j, hj, rfl, hR, hb, hs⟩ := hrel
    by_cases hlt : j < k
    · obtain ⟨b, o, rfl, hc⟩ := HU.out.2 (by omega)
      have c1 := hc j hlt
      have c1' : wr.cell? ⟨b, o + j, none⟩ = some (.int .u8 ((u j : Nat) : Int)) := (hb.cell (p := ⟨b, o + j, none⟩) (cell_lt c1)).trans c1
      have hu8 := HU.out.1 j hlt
      have hlt' : (j : Int) < (k : Int) := by omega
      by_cases h0 : u j = 0
      · have HF : Hid (Row wr w.heap.size size (fun c => gdot u (fun t => D t c) (j + 1)) ∧ Below w.heap.size w wr ∧ wr.heap.size = w.heap.size + 1) :=
          ⟨hR.congr (fun c _ => by rw [gdot, h0, gmul_zero, Nat.xor_zero]), hb, hs⟩
        rw [h0] at c1'
        clear hR hb hs hc c1 h0
        go_wp2
        go_roundw
        case rel => exact ⟨j + 1, by omega, by go_num, HF.out⟩
        case measure => simp [intOf]; omega
      · have hb1 : ((u j : Int) != 0) = true := by simp; omega
        obtain ⟨rb, ro, rfl, hr⟩ := HD.out (by omega)
        obtain ⟨so, sc, r1, r2, r3, r4⟩ := hr j hlt
        have r1' : wr.cell? ⟨rb, ro + j, none⟩ = some (.slice so size sc) := (hb.cell (p := ⟨rb, ro + j, none⟩) (cell_lt r1)).trans r1
        have hne : 0 < size → ∀ b o, so = some ⟨b, o, none⟩ → b ≠ w.heap.size := by
          intro h0 b o he e
          obtain ⟨b', o', he', hc'⟩ := r4.2 h0
          rw [he] at he'
          have := cell_lt (hc' 0 h0)
          have e2 : b = b' := congrArg (fun x : Option Addr => (x.getD ⟨0, 0, none⟩).block) he'
          omega
        have HM : Hid _ := mulAdd_any w.heap.size size size (fun c => gdot u (fun t => D t c) j) so size sc (D j) (u j) wr hR (r4.below hb) hne hu8 hsize hsize
        have HB : Hid (Below w.heap.size w wr) := hb
        have HS : Hid (wr.heap.size = w.heap.size + 1) := hs
        have h0' : ¬ (u j : Int) = 0 := by omega
        clear hR hb hs hc c1 r1 r4 hr hne
        obtain ⟨y, hy⟩ : ∃ y, u j = y := ⟨_, rfl⟩
        rw [hy] at c1' HM hb1 hu8 h0'
        have HY : Hid (u j = y) := hy
        clear h0 hy
        go_wp2_with fail
        refine Calls.mono HM.out ?_
        rintro r w2 ⟨rfl, h1, h2⟩
        have HF : Hid (Row w2 w.heap.size size (fun c => gdot u (fun t => D t c) (j + 1)) ∧ Below w.heap.size w w2 ∧ w2.heap.size = w.heap.size + 1) :=
          ⟨h1.congr (fun c hc => by simp [madd, hc, gdot, HY.out]), HB.out.trans (h2.below (Nat.le_refl _)), h2.size.trans HS.out⟩
        clear h1 h2 HM
        go_wp2
        go_roundw
        case rel => exact ⟨j + 1, by omega, by go_num, HF.out⟩
        case measure => simp [intOf]; omega
    · have hjk : j = k := by omega
      subst hjk
      have HF : Hid (Row wr w.heap.size size (fun c => gdot u (fun t => D t c) j) ∧ Below w.heap.size w wr ∧ wr.heap.size = w.heap.size + 1) := ⟨hR, hb, hs⟩
      clear hR hb hs
      go_wp2
      go_ret
      exact ⟨rfl, HF.out⟩
end Go.Proofs.Qxb6500697aDoor
