/-
  THE WALK OF scribble.
-/
import Derived.Test.Qxb6500697aDoorKClone
namespace Go.Proofs.Qxb6500697aDoor
open Go.RowKit

set_option maxRecDepth 100000 in
set_option maxHeartbeats 2000000 in
theorem scribble_any (ao : Option Addr) (n cap : Nat) (s : Nat → Nat) (w : World) (h : 0 < n → ∃ g, ao = some ⟨g, 0, none⟩ ∧ WRow w g n s) (hn : n ≤ 140737488355328) :
    Calls Tryd.prog 37 #[.slice ao n cap] w fun e w' => e = .returned (.tuple #[]) ∧ ∀ d, (0 < n → ao = some ⟨d, 0, none⟩) → Only d w w' := by
  rcases Nat.eq_zero_or_pos n with h0 | h0
  · subst h0
    clear h
    go_enter Tryd.func37, Tryd.ntmps37
    go_wp2
    go_loopw [5] (fun i wr => i = .int .i64 0 ∧ wr = w) (fun _ _ => 0)
    case atStart => exact ⟨rfl, rfl⟩
    case round =>
      obtain ⟨rfl, rfl⟩ := hrel
      go_wp2
      go_end0
      exact ⟨rfl, fun d _ => Only.refl _ _⟩
  · obtain ⟨g, rfl, hW⟩ := h h0
    have HW : Hid (WRow w g n s) := hW
    clear h hW
    go_enter Tryd.func37, Tryd.ntmps37
    go_wp2
    go_loopw [5] (fun i wr => ∃ (j : Nat) (f : Nat → Nat), j ≤ n ∧ i = .int .i64 j ∧ WRow wr g n f ∧ Only g w wr) (fun i _ => n - (intOf i).toNat)
    case atStart => exact ⟨0, s, Nat.zero_le _, rfl, HW.out, Only.refl _ _⟩
    case round =>
      obtain ⟨j, f, hj, rfl, hR, hO⟩ := hrel
      by_cases hlt : j < n
      · have hlt' : (j : Int) < (n : Int) := by omega
        have h8 := hR.1 j hlt
        have c0 : wr.cell? ⟨g, j, none⟩ = some (.int .u8 ((f j : Nat) : Int)) := by
          obtain ⟨_, cs, t, h2, h3⟩ := hR
          simp [World.cell?, h2, h3 j hlt]
        have hfr := hR.frozen j
        have hx : bits .xor .u8 ((f j : Nat) : Int) 165 = ((f j ^^^ 165 : Nat) : Int) := u8_xor_nat (f j) 165 h8 (by decide)
        have hx8 := xor8n (f j) 165 h8 (by decide)
        have HR : Hid (WRow (wr.setCell ⟨g, j, none⟩ (.int .u8 ((f j ^^^ 165 : Nat) : Int))) g n (fun i => if i = j then f j ^^^ 165 else f i)) := hR.set j _ hx8
        have HO : Hid (Only g w (wr.setCell ⟨g, j, none⟩ (.int .u8 ((f j ^^^ 165 : Nat) : Int)))) := hO.setCell _ _
        clear hR hO
        obtain ⟨y, hy⟩ : ∃ y, f j = y := ⟨_, rfl⟩
        rw [hy] at HR HO c0 hx hx8 h8
        obtain ⟨z, hz⟩ : ∃ z, y ^^^ 165 = z := ⟨_, rfl⟩
        rw [hz] at HR HO hx hx8
        clear hy hz
        go_wp2
        go_roundw
        case rel => exact ⟨j + 1, _, by omega, by go_num, HR.out, HO.out⟩
        case measure => simp [intOf]; omega
      · have hlt' : ¬ (j : Int) < (n : Int) := by omega
        have HO : Hid (Only g w wr) := hO
        clear hR hO
        go_wp2
        go_end0
        exact ⟨rfl, HO.out⟩
end Go.Proofs.Qxb6500697aDoor
