/-
  NARROWER THAN 'FOR EVERY INPUT', by the rows' own cells (each row's printed sentence says how): RefinesModel: laid · DecodeFromAnyKShards: laid · RebuildEqualsOriginal: laid · ShardsHaveTheStatedShape: laid · SpareShardBetraysDamage: laid · ConvertKeepsTheObject: laid · PaddingIsGuarded: laid · ResultsShareNoMemory: laid.
  DERIVED. THE GIVEN ROWS OF THIS SEAT. 8 by the template 'for every input the law returns true; each argument reads behind the call as it read before'; 0 by the template 'total and deterministic' (their statements: Qxb6500697aDoorTotals.lean).
  GIVEN WITH THE SEED: the statements are not yours to turn. If you find one false, say at which input.
  Laid BY PROGRAM, IN A SANDBOX (cutbox-rows.mjs): the forced cells as the released guide's own fill.sh prints them over the translation 587cbbf13536c7c4… (all of the seat's roots in one cut). By AI agents, Wed Nov 11 2026. No macro, syntax, notation, axiom, sorry.
-/
import Derived.Test.Qxb6500697aDoorChecked
import GoSem.Claim
import GoSem.ClaimJoined
import GoSem.ClaimMapViews
import Derived.JoinedTies
import Derived.KernelRfl
namespace Go.Proofs.Qxb6500697aDoor
/- THE CELL 'sum', in the pinned program and in every row, IS THE sha256 OF THE DUMP (.gsa) THAT Qxb6500697aDoorProg.lean LOADS. Nothing in Lean hashes anything: it is a label: what it is worth is what the hold of that sum in a sandbox is worth. -/
noncomputable def Tryd.pinned : Pinned := { name := "qxb6500697adoor", sum := "587cbbf13536c7c456c1f3732703c2b37f8dcf6e7f30c98e9f60e512893baf84", checked := Tryd.checked }
namespace Rows
def none {H : Type} : Left H := { results := [], args := [] }

/- WHAT THE LISTED PACKAGE-LEVEL VARIABLES READ AS WHEN THE CALL BEGINS. Each datum BY PROGRAM (the guide's laid-datum.mjs) off the statement by which the dump's own 'gosem.cut.vars' lays the variable. In a bare row this is a premise. The card (Qxb6500697aDoorCards.lean) ties it to the program's text. -/
def laid_e2e_code_ErrGeometry {H : Type} : DataW H := .iface "*errors.errorString" (.ptr (.agg [.lit (.string [99, 111, 100, 101, 58, 32, 103, 101, 111, 109, 101, 116, 114, 121, 32, 110, 101, 101, 100, 115, 32, 49, 32, 60, 61, 32, 107, 44, 32, 49, 32, 60, 61, 32, 109, 32, 97, 110, 100, 32, 107, 43, 109, 32, 60, 61, 32, 49, 54])]))
def laid_e2e_code_ErrGeneration {H : Type} : DataW H := .iface "*errors.errorString" (.ptr (.agg [.lit (.string [99, 111, 100, 101, 58, 32, 117, 110, 107, 110, 111, 119, 110, 32, 115, 104, 97, 114, 100, 32, 103, 101, 110, 101, 114, 97, 116, 105, 111, 110])]))
def laid_e2e_code_ErrTooLong {H : Type} : DataW H := .iface "*errors.errorString" (.ptr (.agg [.lit (.string [99, 111, 100, 101, 58, 32, 111, 98, 106, 101, 99, 116, 32, 108, 101, 110, 103, 116, 104, 32, 111, 117, 116, 115, 105, 100, 101, 32, 48, 32, 116, 111, 32, 50, 53, 54, 32, 98, 121, 116, 101, 115])]))
def laid_e2e_code_ErrIndex {H : Type} : DataW H := .iface "*errors.errorString" (.ptr (.agg [.lit (.string [99, 111, 100, 101, 58, 32, 115, 104, 97, 114, 100, 32, 105, 110, 100, 101, 120, 32, 111, 117, 116, 115, 105, 100, 101, 32, 116, 104, 101, 32, 103, 101, 111, 109, 101, 116, 114, 121])]))
def laid_e2e_code_ErrMixed {H : Type} : DataW H := .iface "*errors.errorString" (.ptr (.agg [.lit (.string [99, 111, 100, 101, 58, 32, 115, 104, 97, 114, 100, 115, 32, 111, 102, 32, 109, 111, 114, 101, 32, 116, 104, 97, 110, 32, 111, 110, 101, 32, 103, 101, 110, 101, 114, 97, 116, 105, 111, 110])]))
def laid_e2e_code_ErrDuplicate {H : Type} : DataW H := .iface "*errors.errorString" (.ptr (.agg [.lit (.string [99, 111, 100, 101, 58, 32, 116, 119, 111, 32, 115, 104, 97, 114, 100, 115, 32, 119, 105, 116, 104, 32, 111, 110, 101, 32, 105, 110, 100, 101, 120])]))
def laid_e2e_code_ErrShape {H : Type} : DataW H := .iface "*errors.errorString" (.ptr (.agg [.lit (.string [99, 111, 100, 101, 58, 32, 115, 104, 97, 114, 100, 32, 108, 101, 110, 103, 116, 104, 115, 32, 100, 111, 32, 110, 111, 116, 32, 102, 105, 116, 32, 111, 110, 101, 32, 111, 98, 106, 101, 99, 116])]))
def laid_e2e_code_ErrTooFew {H : Type} : DataW H := .iface "*errors.errorString" (.ptr (.agg [.lit (.string [99, 111, 100, 101, 58, 32, 102, 101, 119, 101, 114, 32, 116, 104, 97, 110, 32, 107, 32, 115, 104, 97, 114, 100, 115])]))
def laid_e2e_code_ErrInconsistent {H : Type} : DataW H := .iface "*errors.errorString" (.ptr (.agg [.lit (.string [99, 111, 100, 101, 58, 32, 115, 104, 97, 114, 100, 115, 32, 100, 111, 32, 110, 111, 116, 32, 98, 101, 108, 111, 110, 103, 32, 116, 111, 32, 111, 110, 101, 32, 101, 110, 99, 111, 100, 105, 110, 103])]))
def laid_e2e_code_errSingular {H : Type} : DataW H := .iface "*errors.errorString" (.ptr (.agg [.lit (.string [99, 111, 100, 101, 58, 32, 103, 101, 110, 101, 114, 97, 116, 111, 114, 32, 114, 111, 119, 115, 32, 100, 111, 32, 110, 111, 116, 32, 105, 110, 118, 101, 114, 116])]))
def laid_e2e_codelaw_generations {H : Type} : DataW H := .slice [.lit (.int .u8 1), .lit (.int .u8 2), .lit (.int .u8 3)] []

/-- 'codelaw.RefinesModel': WHATEVER THE INPUT: true; the input reads as it did. -/
def refinesModelSpec : ChangeSpec := { name := "refinesModel", fn := fun _ => fun
  | [d] => { results := [.lit (.bool true)], args := [d] }
  | _ => none }
def refinesModelRow : OpenClaim := { program := "qxb6500697adoor", sum := "587cbbf13536c7c456c1f3732703c2b37f8dcf6e7f30c98e9f60e512893baf84", func := "e2e/codelaw.RefinesModel", spec := "refinesModel", inPlace := ["internal/reflectlite.TypeOf"], unfollowed := true, recurses := true, named := ["e2e/code.ErrGeometry", "e2e/code.ErrGeneration", "e2e/code.ErrTooLong", "e2e/code.ErrIndex", "e2e/code.ErrMixed", "e2e/code.ErrDuplicate", "e2e/code.ErrShape", "e2e/code.ErrTooFew", "e2e/code.ErrInconsistent", "e2e/code.errSingular"], plainKeys := false, apart := false, laid := [("e2e/code.ErrGeometry", laid_e2e_code_ErrGeometry), ("e2e/code.ErrGeneration", laid_e2e_code_ErrGeneration), ("e2e/code.ErrTooLong", laid_e2e_code_ErrTooLong), ("e2e/code.ErrIndex", laid_e2e_code_ErrIndex), ("e2e/code.ErrMixed", laid_e2e_code_ErrMixed), ("e2e/code.ErrDuplicate", laid_e2e_code_ErrDuplicate), ("e2e/code.ErrShape", laid_e2e_code_ErrShape), ("e2e/code.ErrTooFew", laid_e2e_code_ErrTooFew), ("e2e/code.ErrInconsistent", laid_e2e_code_ErrInconsistent), ("e2e/code.errSingular", laid_e2e_code_errSingular)] }
def RefinesModelSaid : Prop := refinesModelRow.holds Tryd.pinned (OpenSpec.ofChange refinesModelSpec)

/-- ITS FALSE NEIGHBOUR: 'it returns false'. Refute it at one input. -/
def refinesModelWrong : ChangeSpec := { name := "refinesModel", fn := fun _ => fun
  | [d] => { results := [.lit (.bool false)], args := [d] }
  | _ => none }
def RefinesModelWrongFalsely : Prop := refinesModelRow.holds Tryd.pinned (OpenSpec.ofChange refinesModelWrong)

/-- 'codelaw.DecodeFromAnyKShards': WHATEVER THE INPUT: true; the input reads as it did. -/
def decodeFromAnyKShardsSpec : ChangeSpec := { name := "decodeFromAnyKShards", fn := fun _ => fun
  | [d] => { results := [.lit (.bool true)], args := [d] }
  | _ => none }
def decodeFromAnyKShardsRow : OpenClaim := { program := "qxb6500697adoor", sum := "587cbbf13536c7c456c1f3732703c2b37f8dcf6e7f30c98e9f60e512893baf84", func := "e2e/codelaw.DecodeFromAnyKShards", spec := "decodeFromAnyKShards", inPlace := ["internal/reflectlite.TypeOf"], unfollowed := true, recurses := true, named := ["e2e/codelaw.generations", "e2e/code.ErrGeometry", "e2e/code.ErrGeneration", "e2e/code.ErrTooLong", "e2e/code.ErrInconsistent", "e2e/code.ErrIndex", "e2e/code.ErrMixed", "e2e/code.ErrDuplicate", "e2e/code.ErrTooFew", "e2e/code.ErrShape", "e2e/code.errSingular"], plainKeys := false, apart := false, laid := [("e2e/code.ErrGeometry", laid_e2e_code_ErrGeometry), ("e2e/code.ErrGeneration", laid_e2e_code_ErrGeneration), ("e2e/code.ErrTooLong", laid_e2e_code_ErrTooLong), ("e2e/code.ErrIndex", laid_e2e_code_ErrIndex), ("e2e/code.ErrMixed", laid_e2e_code_ErrMixed), ("e2e/code.ErrDuplicate", laid_e2e_code_ErrDuplicate), ("e2e/code.ErrShape", laid_e2e_code_ErrShape), ("e2e/code.ErrTooFew", laid_e2e_code_ErrTooFew), ("e2e/code.ErrInconsistent", laid_e2e_code_ErrInconsistent), ("e2e/code.errSingular", laid_e2e_code_errSingular), ("e2e/codelaw.generations", laid_e2e_codelaw_generations)] }
def DecodeFromAnyKShardsSaid : Prop := decodeFromAnyKShardsRow.holds Tryd.pinned (OpenSpec.ofChange decodeFromAnyKShardsSpec)

/-- ITS FALSE NEIGHBOUR: 'it returns false'. Refute it at one input. -/
def decodeFromAnyKShardsWrong : ChangeSpec := { name := "decodeFromAnyKShards", fn := fun _ => fun
  | [d] => { results := [.lit (.bool false)], args := [d] }
  | _ => none }
def DecodeFromAnyKShardsWrongFalsely : Prop := decodeFromAnyKShardsRow.holds Tryd.pinned (OpenSpec.ofChange decodeFromAnyKShardsWrong)

/-- 'codelaw.RebuildEqualsOriginal': WHATEVER THE INPUT: true; the input reads as it did. -/
def rebuildEqualsOriginalSpec : ChangeSpec := { name := "rebuildEqualsOriginal", fn := fun _ => fun
  | [d] => { results := [.lit (.bool true)], args := [d] }
  | _ => none }
def rebuildEqualsOriginalRow : OpenClaim := { program := "qxb6500697adoor", sum := "587cbbf13536c7c456c1f3732703c2b37f8dcf6e7f30c98e9f60e512893baf84", func := "e2e/codelaw.RebuildEqualsOriginal", spec := "rebuildEqualsOriginal", named := ["e2e/codelaw.generations", "e2e/code.ErrGeometry", "e2e/code.ErrGeneration", "e2e/code.ErrTooLong", "e2e/code.ErrIndex", "e2e/code.ErrInconsistent", "e2e/code.ErrMixed", "e2e/code.ErrDuplicate", "e2e/code.ErrTooFew", "e2e/code.ErrShape", "e2e/code.errSingular"], plainKeys := false, apart := false, laid := [("e2e/code.ErrGeometry", laid_e2e_code_ErrGeometry), ("e2e/code.ErrGeneration", laid_e2e_code_ErrGeneration), ("e2e/code.ErrTooLong", laid_e2e_code_ErrTooLong), ("e2e/code.ErrIndex", laid_e2e_code_ErrIndex), ("e2e/code.ErrMixed", laid_e2e_code_ErrMixed), ("e2e/code.ErrDuplicate", laid_e2e_code_ErrDuplicate), ("e2e/code.ErrShape", laid_e2e_code_ErrShape), ("e2e/code.ErrTooFew", laid_e2e_code_ErrTooFew), ("e2e/code.ErrInconsistent", laid_e2e_code_ErrInconsistent), ("e2e/code.errSingular", laid_e2e_code_errSingular), ("e2e/codelaw.generations", laid_e2e_codelaw_generations)] }
def RebuildEqualsOriginalSaid : Prop := rebuildEqualsOriginalRow.holds Tryd.pinned (OpenSpec.ofChange rebuildEqualsOriginalSpec)

/-- ITS FALSE NEIGHBOUR: 'it returns false'. Refute it at one input. -/
def rebuildEqualsOriginalWrong : ChangeSpec := { name := "rebuildEqualsOriginal", fn := fun _ => fun
  | [d] => { results := [.lit (.bool false)], args := [d] }
  | _ => none }
def RebuildEqualsOriginalWrongFalsely : Prop := rebuildEqualsOriginalRow.holds Tryd.pinned (OpenSpec.ofChange rebuildEqualsOriginalWrong)

/-- 'codelaw.ShardsHaveTheStatedShape': WHATEVER THE INPUT: true; the input reads as it did. -/
def shardsHaveTheStatedShapeSpec : ChangeSpec := { name := "shardsHaveTheStatedShape", fn := fun _ => fun
  | [d] => { results := [.lit (.bool true)], args := [d] }
  | _ => none }
def shardsHaveTheStatedShapeRow : OpenClaim := { program := "qxb6500697adoor", sum := "587cbbf13536c7c456c1f3732703c2b37f8dcf6e7f30c98e9f60e512893baf84", func := "e2e/codelaw.ShardsHaveTheStatedShape", spec := "shardsHaveTheStatedShape", named := ["e2e/codelaw.generations", "e2e/code.ErrGeometry", "e2e/code.ErrGeneration", "e2e/code.ErrTooLong"], plainKeys := false, apart := false, laid := [("e2e/code.ErrGeometry", laid_e2e_code_ErrGeometry), ("e2e/code.ErrGeneration", laid_e2e_code_ErrGeneration), ("e2e/code.ErrTooLong", laid_e2e_code_ErrTooLong), ("e2e/codelaw.generations", laid_e2e_codelaw_generations)] }
def ShardsHaveTheStatedShapeSaid : Prop := shardsHaveTheStatedShapeRow.holds Tryd.pinned (OpenSpec.ofChange shardsHaveTheStatedShapeSpec)

/-- ITS FALSE NEIGHBOUR: 'it returns false'. Refute it at one input. -/
def shardsHaveTheStatedShapeWrong : ChangeSpec := { name := "shardsHaveTheStatedShape", fn := fun _ => fun
  | [d] => { results := [.lit (.bool false)], args := [d] }
  | _ => none }
def ShardsHaveTheStatedShapeWrongFalsely : Prop := shardsHaveTheStatedShapeRow.holds Tryd.pinned (OpenSpec.ofChange shardsHaveTheStatedShapeWrong)

/-- 'codelaw.SpareShardBetraysDamage': WHATEVER THE INPUT: true; the input reads as it did. -/
def spareShardBetraysDamageSpec : ChangeSpec := { name := "spareShardBetraysDamage", fn := fun _ => fun
  | [d] => { results := [.lit (.bool true)], args := [d] }
  | _ => none }
def spareShardBetraysDamageRow : OpenClaim := { program := "qxb6500697adoor", sum := "587cbbf13536c7c456c1f3732703c2b37f8dcf6e7f30c98e9f60e512893baf84", func := "e2e/codelaw.SpareShardBetraysDamage", spec := "spareShardBetraysDamage", inPlace := ["internal/reflectlite.TypeOf"], unfollowed := true, recurses := true, named := ["e2e/codelaw.generations", "e2e/code.ErrGeometry", "e2e/code.ErrGeneration", "e2e/code.ErrTooLong", "e2e/code.ErrInconsistent", "e2e/code.ErrIndex", "e2e/code.ErrMixed", "e2e/code.ErrDuplicate", "e2e/code.ErrTooFew", "e2e/code.ErrShape", "e2e/code.errSingular"], plainKeys := false, apart := false, laid := [("e2e/code.ErrGeometry", laid_e2e_code_ErrGeometry), ("e2e/code.ErrGeneration", laid_e2e_code_ErrGeneration), ("e2e/code.ErrTooLong", laid_e2e_code_ErrTooLong), ("e2e/code.ErrIndex", laid_e2e_code_ErrIndex), ("e2e/code.ErrMixed", laid_e2e_code_ErrMixed), ("e2e/code.ErrDuplicate", laid_e2e_code_ErrDuplicate), ("e2e/code.ErrShape", laid_e2e_code_ErrShape), ("e2e/code.ErrTooFew", laid_e2e_code_ErrTooFew), ("e2e/code.ErrInconsistent", laid_e2e_code_ErrInconsistent), ("e2e/code.errSingular", laid_e2e_code_errSingular), ("e2e/codelaw.generations", laid_e2e_codelaw_generations)] }
def SpareShardBetraysDamageSaid : Prop := spareShardBetraysDamageRow.holds Tryd.pinned (OpenSpec.ofChange spareShardBetraysDamageSpec)

/-- ITS FALSE NEIGHBOUR: 'it returns false'. Refute it at one input. -/
def spareShardBetraysDamageWrong : ChangeSpec := { name := "spareShardBetraysDamage", fn := fun _ => fun
  | [d] => { results := [.lit (.bool false)], args := [d] }
  | _ => none }
def SpareShardBetraysDamageWrongFalsely : Prop := spareShardBetraysDamageRow.holds Tryd.pinned (OpenSpec.ofChange spareShardBetraysDamageWrong)

/-- 'codelaw.ConvertKeepsTheObject': WHATEVER THE INPUT: true; the input reads as it did. -/
def convertKeepsTheObjectSpec : ChangeSpec := { name := "convertKeepsTheObject", fn := fun _ => fun
  | [d] => { results := [.lit (.bool true)], args := [d] }
  | _ => none }
def convertKeepsTheObjectRow : OpenClaim := { program := "qxb6500697adoor", sum := "587cbbf13536c7c456c1f3732703c2b37f8dcf6e7f30c98e9f60e512893baf84", func := "e2e/codelaw.ConvertKeepsTheObject", spec := "convertKeepsTheObject", named := ["e2e/codelaw.generations", "e2e/code.ErrGeometry", "e2e/code.ErrGeneration", "e2e/code.ErrTooLong", "e2e/code.ErrInconsistent", "e2e/code.ErrIndex", "e2e/code.ErrMixed", "e2e/code.ErrDuplicate", "e2e/code.ErrTooFew", "e2e/code.ErrShape", "e2e/code.errSingular"], plainKeys := false, apart := false, laid := [("e2e/code.ErrGeometry", laid_e2e_code_ErrGeometry), ("e2e/code.ErrGeneration", laid_e2e_code_ErrGeneration), ("e2e/code.ErrTooLong", laid_e2e_code_ErrTooLong), ("e2e/code.ErrIndex", laid_e2e_code_ErrIndex), ("e2e/code.ErrMixed", laid_e2e_code_ErrMixed), ("e2e/code.ErrDuplicate", laid_e2e_code_ErrDuplicate), ("e2e/code.ErrShape", laid_e2e_code_ErrShape), ("e2e/code.ErrTooFew", laid_e2e_code_ErrTooFew), ("e2e/code.ErrInconsistent", laid_e2e_code_ErrInconsistent), ("e2e/code.errSingular", laid_e2e_code_errSingular), ("e2e/codelaw.generations", laid_e2e_codelaw_generations)] }
def ConvertKeepsTheObjectSaid : Prop := convertKeepsTheObjectRow.holds Tryd.pinned (OpenSpec.ofChange convertKeepsTheObjectSpec)

/-- ITS FALSE NEIGHBOUR: 'it returns false'. Refute it at one input. -/
def convertKeepsTheObjectWrong : ChangeSpec := { name := "convertKeepsTheObject", fn := fun _ => fun
  | [d] => { results := [.lit (.bool false)], args := [d] }
  | _ => none }
def ConvertKeepsTheObjectWrongFalsely : Prop := convertKeepsTheObjectRow.holds Tryd.pinned (OpenSpec.ofChange convertKeepsTheObjectWrong)

/-- 'codelaw.PaddingIsGuarded': WHATEVER THE INPUT: true; the input reads as it did. -/
def paddingIsGuardedSpec : ChangeSpec := { name := "paddingIsGuarded", fn := fun _ => fun
  | [d] => { results := [.lit (.bool true)], args := [d] }
  | _ => none }
def paddingIsGuardedRow : OpenClaim := { program := "qxb6500697adoor", sum := "587cbbf13536c7c456c1f3732703c2b37f8dcf6e7f30c98e9f60e512893baf84", func := "e2e/codelaw.PaddingIsGuarded", spec := "paddingIsGuarded", inPlace := ["internal/reflectlite.TypeOf"], unfollowed := true, recurses := true, named := ["e2e/codelaw.generations", "e2e/code.ErrGeometry", "e2e/code.ErrGeneration", "e2e/code.ErrTooLong", "e2e/code.ErrInconsistent", "e2e/code.ErrIndex", "e2e/code.ErrMixed", "e2e/code.ErrDuplicate", "e2e/code.ErrTooFew", "e2e/code.ErrShape", "e2e/code.errSingular"], plainKeys := false, apart := false, laid := [("e2e/code.ErrGeometry", laid_e2e_code_ErrGeometry), ("e2e/code.ErrGeneration", laid_e2e_code_ErrGeneration), ("e2e/code.ErrTooLong", laid_e2e_code_ErrTooLong), ("e2e/code.ErrIndex", laid_e2e_code_ErrIndex), ("e2e/code.ErrMixed", laid_e2e_code_ErrMixed), ("e2e/code.ErrDuplicate", laid_e2e_code_ErrDuplicate), ("e2e/code.ErrShape", laid_e2e_code_ErrShape), ("e2e/code.ErrTooFew", laid_e2e_code_ErrTooFew), ("e2e/code.ErrInconsistent", laid_e2e_code_ErrInconsistent), ("e2e/code.errSingular", laid_e2e_code_errSingular), ("e2e/codelaw.generations", laid_e2e_codelaw_generations)] }
def PaddingIsGuardedSaid : Prop := paddingIsGuardedRow.holds Tryd.pinned (OpenSpec.ofChange paddingIsGuardedSpec)

/-- ITS FALSE NEIGHBOUR: 'it returns false'. Refute it at one input. -/
def paddingIsGuardedWrong : ChangeSpec := { name := "paddingIsGuarded", fn := fun _ => fun
  | [d] => { results := [.lit (.bool false)], args := [d] }
  | _ => none }
def PaddingIsGuardedWrongFalsely : Prop := paddingIsGuardedRow.holds Tryd.pinned (OpenSpec.ofChange paddingIsGuardedWrong)

/-- 'codelaw.ResultsShareNoMemory': WHATEVER THE INPUT: true; the input reads as it did. -/
def resultsShareNoMemorySpec : ChangeSpec := { name := "resultsShareNoMemory", fn := fun _ => fun
  | [d] => { results := [.lit (.bool true)], args := [d] }
  | _ => none }
def resultsShareNoMemoryRow : OpenClaim := { program := "qxb6500697adoor", sum := "587cbbf13536c7c456c1f3732703c2b37f8dcf6e7f30c98e9f60e512893baf84", func := "e2e/codelaw.ResultsShareNoMemory", spec := "resultsShareNoMemory", named := ["e2e/codelaw.generations", "e2e/code.ErrGeometry", "e2e/code.ErrGeneration", "e2e/code.ErrTooLong", "e2e/code.ErrInconsistent", "e2e/code.ErrIndex", "e2e/code.ErrMixed", "e2e/code.ErrDuplicate", "e2e/code.ErrTooFew", "e2e/code.ErrShape", "e2e/code.errSingular"], plainKeys := false, apart := false, laid := [("e2e/code.ErrGeometry", laid_e2e_code_ErrGeometry), ("e2e/code.ErrGeneration", laid_e2e_code_ErrGeneration), ("e2e/code.ErrTooLong", laid_e2e_code_ErrTooLong), ("e2e/code.ErrIndex", laid_e2e_code_ErrIndex), ("e2e/code.ErrMixed", laid_e2e_code_ErrMixed), ("e2e/code.ErrDuplicate", laid_e2e_code_ErrDuplicate), ("e2e/code.ErrShape", laid_e2e_code_ErrShape), ("e2e/code.ErrTooFew", laid_e2e_code_ErrTooFew), ("e2e/code.ErrInconsistent", laid_e2e_code_ErrInconsistent), ("e2e/code.errSingular", laid_e2e_code_errSingular), ("e2e/codelaw.generations", laid_e2e_codelaw_generations)] }
def ResultsShareNoMemorySaid : Prop := resultsShareNoMemoryRow.holds Tryd.pinned (OpenSpec.ofChange resultsShareNoMemorySpec)

/-- ITS FALSE NEIGHBOUR: 'it returns false'. Refute it at one input. -/
def resultsShareNoMemoryWrong : ChangeSpec := { name := "resultsShareNoMemory", fn := fun _ => fun
  | [d] => { results := [.lit (.bool false)], args := [d] }
  | _ => none }
def ResultsShareNoMemoryWrongFalsely : Prop := resultsShareNoMemoryRow.holds Tryd.pinned (OpenSpec.ofChange resultsShareNoMemoryWrong)

end Rows
end Go.Proofs.Qxb6500697aDoor
