/-
  THE WALKS OF THE CRC ENGINE: NewCRC32 (the eight tables).
-/
import Derived.Test.Qxb6500698aGreatDoorSmall
import Derived.Test.Qxb6500698aGreatDoorCrc
import Derived.BigQuiet
namespace Go.Proofs.Qxb6500698aGreatDoor
open Go.RowKit

theorem and1 (r : Nat) (h : r < 4294967296) : bits .and .u32 (r : Int) 1 = ((r % 2 : Nat) : Int) := by
  have := u32_and_nat r 1 h (by decide)
  rw [show ((1 : Nat) : Int) = 1 from rfl] at this
  rw [this, Nat.and_one_is_mod]
theorem xor32 (a b : Nat) (ha : a < 4294967296) (hb : b < 4294967296) : bits .xor .u32 (a : Int) (b : Int) = ((a ^^^ b : Nat) : Int) := u32_xor_nat a b ha hb
theorem or32 (a b : Nat) (ha : a < 4294967296) (hb : b < 4294967296) : bits .or .u32 (a : Int) (b : Int) = ((a ||| b : Nat) : Int) := u32_or_nat a b ha hb
theorem xor8 (a b : Nat) (ha : a < 256) (hb : b < 256) : bits .xor .u8 (a : Int) (b : Int) = ((a ^^^ b : Nat) : Int) := u8_xor_nat a b ha hb

theorem cstep_odd (r : Nat) (h : r < 4294967296) (h1 : r % 2 = 1) : bits .xor .u32 ((r : Int) / 2) 3988292384 = ((Crc.cstep r : Nat) : Int) := by
  have e : ((r : Int) / 2) = ((r / 2 : Nat) : Int) := by omega
  rw [e, show (3988292384 : Int) = ((3988292384 : Nat) : Int) from rfl, xor32 _ _ (by omega) (by decide)]
  unfold Crc.cstep; rw [if_pos h1]; rfl
theorem cstep_even (r : Nat) (h1 : r % 2 = 0) : ((r : Int) / 2) = ((Crc.cstep r : Nat) : Int) := by
  unfold Crc.cstep; rw [if_neg (by omega), Nat.xor_zero]; omega

/-- The tables lie in block tb. -/
def Tabs (w : World) (tb : Nat) : Prop := ∀ k i, k < 8 → i < 256 → w.cell? ⟨tb, k * 256 + i, none⟩ = some (.int .u32 ((Crc.tab k i : Nat) : Int))

theorem Tabs.same {w w' : World} {tb : Nat} (h : Tabs w tb) (hs : ∀ b o, b < w.heap.size → w'.cell? ⟨b, o, none⟩ = w.cell? ⟨b, o, none⟩) : Tabs w' tb :=
  fun k i hk hi => (hs _ _ (cell_lt (h k i hk hi))).trans (h k i hk hi)
theorem Tabs.below {w w' : World} {tb : Nat} (h : Tabs w tb) (hb : Below w.heap.size w w') : Tabs w' tb := h.same fun b _ hlt => hb.cell (p := ⟨b, _, none⟩) hlt
theorem Tabs.lt {w : World} {tb : Nat} (h : Tabs w tb) : tb < w.heap.size := cell_lt (h 0 0 (by omega) (by omega))

def z2048 : Array Value := Array.replicate 2048 (.int .u32 0)
theorem zero_tab (w : World) : (zeroValue 85).run Tryz.prog w = .ok (.agg z2048) w := by kernel_rfl

/-- What the tables' block holds when the first n entries are laid. -/
def laid (n j : Nat) : Value := .int .u32 (if j < n then ((Crc.tab (j / 256) (j % 256) : Nat) : Int) else 0)

theorem laid_step (n j : Nat) : (if j = n then Value.int .u32 ((Crc.tab (n / 256) (n % 256) : Nat) : Int) else laid n j) = laid (n + 1) j := by
  unfold laid
  by_cases e : j = n
  · subst e; simp
  · rw [if_neg e]
    by_cases h : j < n
    · rw [if_pos h, if_pos (by omega)]
    · rw [if_neg h, if_neg (by omega)]

def TabTo (B : Nat) (w wr : World) (n : Nat) : Prop := wr.rowIs B 85 2048 (laid n) ∧ Below B w wr

theorem TabTo.set {B : Nat} {w wr : World} {n : Nat} (h : TabTo B w wr n) : TabTo B w (wr.setCell ⟨B, n, none⟩ (.int .u32 ((Crc.tab (n / 256) (n % 256) : Nat) : Int))) (n + 1) :=
  ⟨(h.1.set n _).congr fun j _ => laid_step n j, h.2.setCell (Nat.le_refl _) _⟩
theorem TabTo.drewN {B : Nat} {w wr : World} {n : Nat} (h : TabTo B w wr n) (m : Nat) : TabTo B w (wr.drewN m) n :=
  ⟨h.1.of_block rfl, h.2.trans (drewN_below _ _ _)⟩
theorem TabTo.drew {B : Nat} {w wr : World} {n : Nat} (h : TabTo B w wr n) : TabTo B w wr.drew n := ⟨h.1.drew, h.2.drew⟩

set_option maxRecDepth 100000 in
set_option maxHeartbeats 1000000 in
theorem newCrc_any (w : World) :
    Calls Tryz.prog 10 #[] w fun e w' => e = .returned (.pointer (some ⟨w.heap.size, 0, none⟩)) ∧ Below w.heap.size w w' ∧ Tabs w' w.heap.size := by
  have ha := zero_tab
  go_enter Tryz.func10, Tryz.ntmps10
  go_wp2
  clear ha
  go_loopw [8] (fun i wr => ∃ b : Nat, b ≤ 256 ∧ i = .int .i64 b ∧ TabTo w.heap.size w wr b) (fun i _ => 256 - (intOf i).toNat)
  case atStart =>
    refine ⟨0, by omega, rfl, ?_, (Below.refl _ _).alloc (Nat.le_refl _) _⟩
    have := World.rowIs_alloc w z2048 85 (laid 0) (by intro i hi; simp [z2048] at hi; simp [z2048, laid, hi])
    simpa [z2048] using this
  case round =>
    obtain ⟨b, hb, rfl, hT⟩ := hrel
    by_cases hlt : b < 256
    · have hlt' : (b : Int) < 256 := by omega
      go_wp2
      go_loop [13, 3] (fun i r => ∃ k : Nat, k ≤ 8 ∧ i = .int .i64 k ∧ r = .int .u32 ((Crc.steps k b : Nat) : Int)) (fun i _ => 8 - (intOf i).toNat)
      case atStart => exact ⟨0, by omega, rfl, rfl⟩
      case round =>
        obtain ⟨k, hk, rfl, rfl⟩ := hrel
        have hr : Crc.steps k b < 4294967296 := Crc.steps_lt k (by omega)
        have HS : Hid (Crc.steps (k + 1) b = Crc.cstep (Crc.steps k b)) := Crc.steps_succ k b
        by_cases hk8 : k < 8
        · have hk8' : (k : Int) < 8 := by omega
          generalize Crc.steps k b = r at *
          have h1 := and1 r hr
          by_cases ho : r % 2 = 1
          · rw [ho] at h1
            have HX : Hid (bits .xor .u32 ((r : Int) / 2) 3988292384 = ((Crc.cstep r : Nat) : Int)) := cstep_odd r hr ho
            clear hT ho
            go_wp2
            go_round
            case rel => exact ⟨k + 1, by omega, by go_num, by rw [HS.out]; exact congrArg _ HX.out⟩
            case measure => simp [intOf]; omega
          · have h0 : r % 2 = 0 := by omega
            rw [h0] at h1
            have HX : Hid (((r : Int) / 2) = ((Crc.cstep r : Nat) : Int)) := cstep_even r h0
            clear hT ho h0
            go_wp2
            go_round
            case rel => exact ⟨k + 1, by omega, by go_num, by rw [HS.out]; exact congrArg _ HX.out⟩
            case measure => simp [intOf]; omega
        · have : k = 8 := by omega
          subst this
          have hc := hT.1.cell (i := b) (by omega)
          have hf := hT.1.frozen b
          have HT : Hid (TabTo w.heap.size w (wr.setCell ⟨w.heap.size, b, none⟩ (.int .u32 ((Crc.steps 8 b : Nat) : Int))) (b + 1)) := by
            have := hT.set
            rw [show b / 256 = 0 by omega, show b % 256 = b by omega] at this
            exact this
          clear hT HS
          unfold laid at hc
          go_wp2
          go_roundw
          case rel => exact ⟨b + 1, by omega, by go_num, HT.out⟩
          case measure => simp [intOf]; omega
    · have : b = 256 := by omega
      subst this
      go_wp2
      go_loopw [4] (fun i wr => ∃ k : Nat, 1 ≤ k ∧ k ≤ 8 ∧ i = .int .i64 k ∧ TabTo w.heap.size w wr (256 * k)) (fun i _ => 8 - (intOf i).toNat)
      case atStart => exact ⟨1, by omega, by omega, rfl, hT⟩
      case round =>
        clear hT
        obtain ⟨k, hk1, hk8, rfl, hT⟩ := hrel
        by_cases hlt : k < 8
        · have hlt' : (k : Int) < 8 := by omega
          go_wp2
          go_loopw [36] (fun i wr => ∃ b : Nat, b ≤ 256 ∧ i = .int .i64 b ∧ TabTo w.heap.size w wr (256 * k + b)) (fun i _ => 256 - (intOf i).toNat)
          case atStart => exact ⟨0, by omega, rfl, hT⟩
          case round =>
            clear hT
            obtain ⟨b, hb, rfl, hT⟩ := hrel
            by_cases hb' : b < 256
            · have hb'' : (b : Int) < 256 := by omega
              have hp : Crc.tab (k - 1) b < 4294967296 := Crc.tab_lt _ _ (by omega)
              have hc1 : wr.cell? ⟨w.heap.size, (k - 1) * 256 + b, none⟩ = some (.int .u32 ((Crc.tab (k - 1) b : Nat) : Int)) := by
                rw [hT.1.cell (by omega)]
                unfold laid
                rw [if_pos (by omega), show ((k - 1) * 256 + b) / 256 = k - 1 by omega, show ((k - 1) * 256 + b) % 256 = b by omega]
              have hc0 : ∀ i : Nat, i < 256 → wr.cell? ⟨w.heap.size, i, none⟩ = some (.int .u32 ((Crc.tab 0 i : Nat) : Int)) := by
                intro i hi
                rw [hT.1.cell (by omega)]
                unfold laid
                rw [if_pos (by omega), show i / 256 = 0 by omega, show i % 256 = i by omega]
              have hc2 : wr.cell? ⟨w.heap.size, k * 256 + b, none⟩ = some (.int .u32 0) := by
                rw [hT.1.cell (by omega)]
                unfold laid
                rw [if_neg (by omega)]
              have hf := hT.1.frozen (k * 256 + b)
              have HT : Hid (TabTo w.heap.size w (wr.setCell ⟨w.heap.size, k * 256 + b, none⟩ (.int .u32 (bits .xor .u32 ((Crc.tab 0 (Crc.tab (k - 1) b % 256) : Nat) : Int) ((Crc.tab (k - 1) b : Int) / 256)))) (256 * k + (b + 1))) := by
                have := hT.set
                rw [show (256 * k + b) / 256 = k by omega, show (256 * k + b) % 256 = b by omega] at this
                have e : (bits .xor .u32 ((Crc.tab 0 (Crc.tab (k - 1) b % 256) : Nat) : Int) ((Crc.tab (k - 1) b : Int) / 256)) = ((Crc.tab k b : Nat) : Int) := by
                  rw [show ((Crc.tab (k - 1) b : Int) / 256) = ((Crc.tab (k - 1) b / 256 : Nat) : Int) by omega, xor32 _ _ (Crc.tab_lt _ _ (by omega)) (by omega)]
                  obtain ⟨m, rfl⟩ : ∃ m, k = m + 1 := ⟨k - 1, by omega⟩
                  rfl
                rw [e, Nat.mul_comm k]; exact this
              have hm : ∀ x : Nat, x % 256 < 256 := fun x => Nat.mod_lt _ (by decide)
              have hm' : ∀ x : Nat, (x : Int) % 256 < 256 := fun x => by omega
              clear hT
              generalize Crc.tab (k - 1) b = p at *
              go_wp2
              go_region
              all_goals
                go_wp2
                go_roundw
                case rel => exact ⟨b + 1, by omega, by go_num, HT.out.drew⟩
                case measure => simp [intOf]; omega
            · have : b = 256 := by omega
              subst this
              go_wp2
              go_roundw
              case rel => exact ⟨k + 1, by omega, by omega, by go_num, by rw [Nat.mul_add]; exact hT⟩
              case measure => simp [intOf]; omega
        · have : k = 8 := by omega
          subst this
          have HT : Hid (Below w.heap.size w wr ∧ Tabs wr w.heap.size) := by
            refine ⟨hT.2, fun k i hk hi => ?_⟩
            rw [hT.1.cell (by omega)]
            unfold laid
            rw [if_pos (by omega), show (k * 256 + i) / 256 = k by omega, show (k * 256 + i) % 256 = i by omega]
          clear hT
          go_wp2
          go_ret
          exact ⟨rfl, HT.out⟩

end Go.Proofs.Qxb6500698aGreatDoor
