/-
  THE REFUSALS OF planFor.
-/
import Derived.Test.Qxb6500697aDoorKPlan
namespace Go.Proofs.Qxb6500697aDoor
open Go.RowKit

def planZ : Value := .agg #[.int .u8 0, .int .i64 0, .int .i64 0]

set_option maxRecDepth 100000 in
set_option maxHeartbeats 1000000 in
theorem plan_long (n : Nat) (e : Nat → Addr) (w : World) (E : KErrs n w e) (hn : 2 < n) (cb g : Nat) (ol : Int) (hg : g = 1 ∨ g = 2 ∨ g = 3) (ho : ol < 0 ∨ 256 < ol) (h1 : -9223372036854775808 ≤ ol) (h2 : ol ≤ 9223372036854775807) :
    Calls Tryd.prog 49 #[.pointer (some ⟨cb, 0, none⟩), .int .u8 g, .int .i64 ol] w fun r w' => r = .returned (.tuple #[planZ, errV e (some 2)]) ∧ Below w.heap.size w w' := by
  have c2 := E.cell 2 hn
  have hlt := cell_lt c2
  clear E
  rcases ho with ho | ho
  · rcases hg with rfl | rfl | rfl
    all_goals
      go_enter Tryd.func49, Tryd.ntmps49
      go_wp2
      go_region
      all_goals
        go_wp2
        refine bodyPost_ret (v := .tuple #[planZ, errV e (some 2)]) (by simp [results, Tryd.results49, go_sem, planZ, errV]) rfl ⟨rfl, ?_⟩
        exact ((Below.refl _ _).alloc (Nat.le_refl _) _).drew
  · have ho' : ¬ ol < 0 := by omega
    rcases hg with rfl | rfl | rfl
    all_goals
      go_enter Tryd.func49, Tryd.ntmps49
      go_wp2
      go_region
      all_goals
        go_wp2
        refine bodyPost_ret (v := .tuple #[planZ, errV e (some 2)]) (by simp [results, Tryd.results49, go_sem, planZ, errV]) rfl ⟨rfl, ?_⟩
        exact ((Below.refl _ _).alloc (Nat.le_refl _) _).drew

set_option maxRecDepth 100000 in
set_option maxHeartbeats 1000000 in
theorem plan_gen (n : Nat) (e : Nat → Addr) (w : World) (E : KErrs n w e) (hn : 1 < n) (cb g : Nat) (ol : Int) (hg : ¬ (g = 1 ∨ g = 2 ∨ g = 3)) :
    Calls Tryd.prog 49 #[.pointer (some ⟨cb, 0, none⟩), .int .u8 g, .int .i64 ol] w fun r w' => r = .returned (.tuple #[planZ, errV e (some 1)]) ∧ Below w.heap.size w w' := by
  have c2 := E.cell 1 hn
  have hlt := cell_lt c2
  have g1 : ¬ (g : Int) = 1 := by omega
  have g2 : ¬ (g : Int) = 2 := by omega
  have g3 : ¬ (g : Int) = 3 := by omega
  have b1 : ((g : Int) != 1) = true := by simp; omega
  have b2 : ((g : Int) != 2) = true := by simp; omega
  have b3 : ((g : Int) != 3) = true := by simp; omega
  clear E hg
  go_enter Tryd.func49, Tryd.ntmps49
  go_wp2
  go_region
  all_goals
    go_wp2
    refine bodyPost_ret (v := .tuple #[planZ, errV e (some 1)]) (by simp [results, Tryd.results49, go_sem, planZ, errV]) rfl ⟨rfl, ?_⟩
    exact ((Below.refl _ _).alloc (Nat.le_refl _) _).drew
end Go.Proofs.Qxb6500697aDoor
