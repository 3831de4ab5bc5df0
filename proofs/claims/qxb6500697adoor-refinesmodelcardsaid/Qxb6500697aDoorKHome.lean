/-
  THE WALK OF Home.
-/
import Derived.Test.Qxb6500697aDoorKPlan
import Derived.BigQuiet
namespace Go.Proofs.Qxb6500697aDoor
open Go.RowKit

/-- The unit in which a generation deals. -/
def hunit (g size : Nat) : Nat := if g = 3 then 8 else size

set_option maxRecDepth 100000 in
set_option maxHeartbeats 2000000 in
theorem home_any (g k size p : Nat) (w : World) (hk : 1 ≤ k) (hk16 : k ≤ 16) (hs : 0 < size) (hs2 : size ≤ 4096) (hp : p < k * size) :
    Calls Tryd.prog 35 #[.int .u8 g, .int .i64 k, .int .i64 size, .int .i64 p] w fun r w' => r = .returned (.tuple #[.int .i64 ((p / hunit g size % k : Nat) : Int), .int .i64 ((p / hunit g size / k * hunit g size + p % hunit g size : Nat) : Int)]) ∧ ∃ q, w' = w.drewN q := by
  have hp2 : p < 65536 := Nat.lt_of_lt_of_le hp (Nat.le_trans (Nat.mul_le_mul hk16 hs2) (by decide))
  by_cases hg : g = 3
  · subst hg
    have hu : hunit 3 size = 8 := rfl
    rw [hu]
    obtain ⟨b, hb⟩ : ∃ b, p / 8 = b := ⟨_, rfl⟩
    obtain ⟨r, hr⟩ : ∃ r, p % 8 = r := ⟨_, rfl⟩
    obtain ⟨bm, hbm⟩ : ∃ x, b % k = x := ⟨_, rfl⟩
    obtain ⟨bd, hbd⟩ : ∃ x, b / k = x := ⟨_, rfl⟩
    have hb2 : b ≤ 65536 := by rw [← hb]; exact Nat.le_trans (Nat.div_le_self _ _) (by omega)
    have hr2 : r < 8 := by rw [← hr]; exact Nat.mod_lt _ (by decide)
    have hbd2 : bd ≤ 65536 := by rw [← hbd]; exact Nat.le_trans (Nat.div_le_self _ _) hb2
    have hbm2 : bm < 16 := by rw [← hbm]; exact Nat.lt_of_lt_of_le (Nat.mod_lt _ (by omega)) hk16
    have d1 : (p : Int).tdiv 8 = (b : Int) := by rw [← hb]; rfl
    have d2 : (p : Int) / 8 = (b : Int) := by rw [← hb, Int.natCast_ediv]; rfl
    have d3 : (p : Int).tmod 8 = (r : Int) := by rw [← hr]; exact (Int.ofNat_tmod p 8).symm
    have d4 : (p : Int) % 8 = (r : Int) := by rw [← hr, Int.natCast_emod]; rfl
    have d5 : (b : Int).tmod (k : Int) = (bm : Int) := by rw [← hbm]; exact (Int.ofNat_tmod b k).symm
    have d6 : (b : Int) % (k : Int) = (bm : Int) := by rw [← hbm, Int.natCast_emod]
    have d7 : (b : Int).tdiv (k : Int) = (bd : Int) := by rw [← hbd]; rfl
    have d8 : (b : Int) / (k : Int) = (bd : Int) := by rw [← hbd, Int.natCast_ediv]
    have hk0 : ¬ (k : Int) = 0 := by omega
    have hkb : ((k : Int) == 0) = false := by simp; omega
    have hkp : (0 : Int) < (k : Int) := by omega
    have hkn : ¬ k = 0 := by omega
    rw [hb, hr, hbm, hbd]
    clear hb hr hbm hbd hp hu
    go_enter Tryd.func35, Tryd.ntmps35
    go_wp2
    go_quiet (fail)
    go_wp2
    go_ret2
    exact ⟨by go_num, _, rfl⟩
  · have hu : hunit g size = size := by unfold hunit; rw [if_neg hg]
    rw [hu]
    have hg' : ((g : Int) != 3) = true := by simp; omega
    have hq : p / size < k := by rw [Nat.div_lt_iff_lt_mul hs]; exact hp
    have e1 : p / size % k = p / size := Nat.mod_eq_of_lt hq
    have e2 : p / size / k = 0 := Nat.div_eq_of_lt hq
    rw [e1, e2, Nat.zero_mul, Nat.zero_add]
    obtain ⟨b, hb⟩ : ∃ b, p / size = b := ⟨_, rfl⟩
    obtain ⟨r, hr⟩ : ∃ r, p % size = r := ⟨_, rfl⟩
    have hb2 : b ≤ 65536 := by rw [← hb]; exact Nat.le_trans (Nat.div_le_self _ _) (by omega)
    have hr2 : r < 4096 := by rw [← hr]; exact Nat.lt_of_lt_of_le (Nat.mod_lt _ hs) hs2
    have d1 : (p : Int).tdiv (size : Int) = (b : Int) := by rw [← hb]; rfl
    have d2 : (p : Int) / (size : Int) = (b : Int) := by rw [← hb, Int.natCast_ediv]
    have d3 : (p : Int).tmod (size : Int) = (r : Int) := by rw [← hr]; exact (Int.ofNat_tmod p size).symm
    have d4 : (p : Int) % (size : Int) = (r : Int) := by rw [← hr, Int.natCast_emod]
    have hk0 : ¬ (size : Int) = 0 := by omega
    have hkb : ((size : Int) == 0) = false := by simp; omega
    have hkp : (0 : Int) < (size : Int) := by omega
    have hkn : ¬ size = 0 := by omega
    have hwr : IntKind.i64.wrap (r : Int) = (r : Int) := by simp [IntKind.wrap, IntKind.bits, IntKind.signed]; omega
    have hwr2 : IntKind.i64.wrap ((p : Int).tmod (size : Int)) = (r : Int) := by rw [d3]; exact hwr
    rw [hb, hr]
    clear hb hr hp hu hq e1 e2 hg
    go_enter Tryd.func35, Tryd.ntmps35
    go_wp2
    go_quiet (fail)
    go_wp2
    go_ret2
    exact ⟨by go_num, _, rfl⟩
end Go.Proofs.Qxb6500697aDoor
