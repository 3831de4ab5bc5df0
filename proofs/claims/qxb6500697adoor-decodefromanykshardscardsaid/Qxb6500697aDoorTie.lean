/-
  DERIVED. GIVEN WITH THE SEED: THE PROGRAM's TIES (one call each: nine closed facts by the kernel) AND EACH ROW's TIE, after the 31st guide's Derived/Test/Toyas{Tie, Card}.lean. No idea stands in it: it is a product of the set-up. Laid BY PROGRAM, IN A SANDBOX (cutbox-door.mjs). By AI agents, Wed Nov 11 2026. No macro, syntax, notation, axiom, sorry.
-/
import Derived.Test.Qxb6500697aDoorRows
import Derived.LaidByTextLater
import Derived.SevenTiedAt
import Derived.LaidSub
import Derived.LaidOnce
namespace Go.Proofs.Qxb6500697aDoor
open Go
set_option maxRecDepth 100000
theorem seatTie1 : Tryd.prog.laidByTextLater [("e2e/code.ErrGeometry", Rows.laid_e2e_code_ErrGeometry), ("e2e/code.ErrGeneration", Rows.laid_e2e_code_ErrGeneration), ("e2e/code.ErrTooLong", Rows.laid_e2e_code_ErrTooLong), ("e2e/code.ErrIndex", Rows.laid_e2e_code_ErrIndex), ("e2e/code.ErrMixed", Rows.laid_e2e_code_ErrMixed), ("e2e/code.ErrDuplicate", Rows.laid_e2e_code_ErrDuplicate), ("e2e/code.ErrShape", Rows.laid_e2e_code_ErrShape), ("e2e/code.ErrTooFew", Rows.laid_e2e_code_ErrTooFew), ("e2e/code.ErrInconsistent", Rows.laid_e2e_code_ErrInconsistent), ("e2e/code.errSingular", Rows.laid_e2e_code_errSingular), ("e2e/codelaw.generations", Rows.laid_e2e_codelaw_generations)] [.sentinel, .sentinel, .sentinel, .sentinel, .sentinel, .sentinel, .sentinel, .sentinel, .sentinel, .sentinel, .data] true :=
  Program.laidByTextLater_by_one 204 8 4 (by kernel_rfl) (by kernel_rfl) (by kernel_rfl) (by kernel_rfl) (by kernel_rfl) (by kernel_rfl) (fun _ _ => by kernel_rfl)
theorem noOwnUnsafe : Tryd.pinned.checked.prog.headLifts.contains "ownunsafe" = false := by kernel_rfl
theorem tie : Tryd.prog.laidByTextLater [("e2e/code.ErrGeometry", Rows.laid_e2e_code_ErrGeometry), ("e2e/code.ErrGeneration", Rows.laid_e2e_code_ErrGeneration), ("e2e/code.ErrTooLong", Rows.laid_e2e_code_ErrTooLong), ("e2e/code.ErrIndex", Rows.laid_e2e_code_ErrIndex), ("e2e/code.ErrMixed", Rows.laid_e2e_code_ErrMixed), ("e2e/code.ErrDuplicate", Rows.laid_e2e_code_ErrDuplicate), ("e2e/code.ErrShape", Rows.laid_e2e_code_ErrShape), ("e2e/code.ErrTooFew", Rows.laid_e2e_code_ErrTooFew), ("e2e/code.ErrInconsistent", Rows.laid_e2e_code_ErrInconsistent), ("e2e/code.errSingular", Rows.laid_e2e_code_errSingular)] [.sentinel, .sentinel, .sentinel, .sentinel, .sentinel, .sentinel, .sentinel, .sentinel, .sentinel, .sentinel] true :=
  Program.laidByTextLater.sub seatTie1 ["e2e/code.ErrGeometry", "e2e/code.ErrGeneration", "e2e/code.ErrTooLong", "e2e/code.ErrIndex", "e2e/code.ErrMixed", "e2e/code.ErrDuplicate", "e2e/code.ErrShape", "e2e/code.ErrTooFew", "e2e/code.ErrInconsistent", "e2e/code.errSingular"] (by kernel_rfl) (by kernel_rfl)
theorem refinesModel_row_tie : Rows.refinesModelRow.laidByTextAt .later Tryd.pinned [.sentinel, .sentinel, .sentinel, .sentinel, .sentinel, .sentinel, .sentinel, .sentinel, .sentinel, .sentinel] true :=
  OpenClaim.laidByTextAt_later rfl rfl tie noOwnUnsafe
theorem tie2 : Tryd.prog.laidByTextLater [("e2e/code.ErrGeometry", Rows.laid_e2e_code_ErrGeometry), ("e2e/code.ErrGeneration", Rows.laid_e2e_code_ErrGeneration), ("e2e/code.ErrTooLong", Rows.laid_e2e_code_ErrTooLong), ("e2e/code.ErrIndex", Rows.laid_e2e_code_ErrIndex), ("e2e/code.ErrMixed", Rows.laid_e2e_code_ErrMixed), ("e2e/code.ErrDuplicate", Rows.laid_e2e_code_ErrDuplicate), ("e2e/code.ErrShape", Rows.laid_e2e_code_ErrShape), ("e2e/code.ErrTooFew", Rows.laid_e2e_code_ErrTooFew), ("e2e/code.ErrInconsistent", Rows.laid_e2e_code_ErrInconsistent), ("e2e/code.errSingular", Rows.laid_e2e_code_errSingular), ("e2e/codelaw.generations", Rows.laid_e2e_codelaw_generations)] [.sentinel, .sentinel, .sentinel, .sentinel, .sentinel, .sentinel, .sentinel, .sentinel, .sentinel, .sentinel, .data] true :=
  Program.laidByTextLater.sub seatTie1 ["e2e/code.ErrGeometry", "e2e/code.ErrGeneration", "e2e/code.ErrTooLong", "e2e/code.ErrIndex", "e2e/code.ErrMixed", "e2e/code.ErrDuplicate", "e2e/code.ErrShape", "e2e/code.ErrTooFew", "e2e/code.ErrInconsistent", "e2e/code.errSingular", "e2e/codelaw.generations"] (by kernel_rfl) (by kernel_rfl)
theorem decodeFromAnyKShards_row_tie : Rows.decodeFromAnyKShardsRow.laidByTextAt .later Tryd.pinned [.sentinel, .sentinel, .sentinel, .sentinel, .sentinel, .sentinel, .sentinel, .sentinel, .sentinel, .sentinel, .data] true :=
  OpenClaim.laidByTextAt_later rfl rfl tie2 noOwnUnsafe
theorem rebuildEqualsOriginal_row_tie : Rows.rebuildEqualsOriginalRow.laidByTextAt .later Tryd.pinned [.sentinel, .sentinel, .sentinel, .sentinel, .sentinel, .sentinel, .sentinel, .sentinel, .sentinel, .sentinel, .data] true :=
  OpenClaim.laidByTextAt_later rfl rfl tie2 noOwnUnsafe
theorem spareShardBetraysDamage_row_tie : Rows.spareShardBetraysDamageRow.laidByTextAt .later Tryd.pinned [.sentinel, .sentinel, .sentinel, .sentinel, .sentinel, .sentinel, .sentinel, .sentinel, .sentinel, .sentinel, .data] true :=
  OpenClaim.laidByTextAt_later rfl rfl tie2 noOwnUnsafe
theorem convertKeepsTheObject_row_tie : Rows.convertKeepsTheObjectRow.laidByTextAt .later Tryd.pinned [.sentinel, .sentinel, .sentinel, .sentinel, .sentinel, .sentinel, .sentinel, .sentinel, .sentinel, .sentinel, .data] true :=
  OpenClaim.laidByTextAt_later rfl rfl tie2 noOwnUnsafe
theorem paddingIsGuarded_row_tie : Rows.paddingIsGuardedRow.laidByTextAt .later Tryd.pinned [.sentinel, .sentinel, .sentinel, .sentinel, .sentinel, .sentinel, .sentinel, .sentinel, .sentinel, .sentinel, .data] true :=
  OpenClaim.laidByTextAt_later rfl rfl tie2 noOwnUnsafe
theorem resultsShareNoMemory_row_tie : Rows.resultsShareNoMemoryRow.laidByTextAt .later Tryd.pinned [.sentinel, .sentinel, .sentinel, .sentinel, .sentinel, .sentinel, .sentinel, .sentinel, .sentinel, .sentinel, .data] true :=
  OpenClaim.laidByTextAt_later rfl rfl tie2 noOwnUnsafe
theorem tie3 : Tryd.prog.laidByTextLater [("e2e/code.ErrGeometry", Rows.laid_e2e_code_ErrGeometry), ("e2e/code.ErrGeneration", Rows.laid_e2e_code_ErrGeneration), ("e2e/code.ErrTooLong", Rows.laid_e2e_code_ErrTooLong), ("e2e/codelaw.generations", Rows.laid_e2e_codelaw_generations)] [.sentinel, .sentinel, .sentinel, .data] true :=
  Program.laidByTextLater.sub seatTie1 ["e2e/code.ErrGeometry", "e2e/code.ErrGeneration", "e2e/code.ErrTooLong", "e2e/codelaw.generations"] (by kernel_rfl) (by kernel_rfl)
theorem shardsHaveTheStatedShape_row_tie : Rows.shardsHaveTheStatedShapeRow.laidByTextAt .later Tryd.pinned [.sentinel, .sentinel, .sentinel, .data] true :=
  OpenClaim.laidByTextAt_later rfl rfl tie3 noOwnUnsafe
end Go.Proofs.Qxb6500697aDoor
