/-
  No cell of these rows narrows 'for every input' (looked for: loops, veiled, ifaces, maps, wideKeys, modest, calm, conditions, laid).
  DERIVED. THE GIVEN ROWS OF THIS SEAT. 6 by the template 'for every input the law returns true; each argument reads behind the call as it read before'; 0 by the template 'total and deterministic' (their statements: Qxb6500698aTotals.lean).
  GIVEN WITH THE SEED: the statements are not yours to turn. If you find one false, say at which input.
  Laid BY PROGRAM, IN A SANDBOX (cutbox-rows.mjs): the forced cells as the released guide's own fill.sh prints them over the translation f6d4c8c2e0d01958… (all of the seat's roots in one cut). By AI agents, Wed Nov 11 2026. No macro, syntax, notation, axiom, sorry.
-/
import Derived.Test.Qxb6500698aChecked
import GoSem.Claim
import GoSem.ClaimJoined
import GoSem.ClaimMapViews
import Derived.JoinedTies
import Derived.KernelRfl
namespace Go.Proofs.Qxb6500698a
/- THE CELL 'sum', in the pinned program and in every row, IS THE sha256 OF THE DUMP (.gsa) THAT Qxb6500698aProg.lean LOADS. Nothing in Lean hashes anything: it is a label: what it is worth is what the hold of that sum in a sandbox is worth. -/
noncomputable def Try.pinned : Pinned := { name := "qxb6500698a", sum := "f6d4c8c2e0d01958f8e0a0423a38f8cb706b012b4a0247dbd9d0ee2f4239a90c", checked := Try.checked }
namespace Rows
def none {H : Type} : Left H := { results := [], args := [] }

/-- 'sumlaw.CRC32TableIsLongDivision': WHATEVER THE INPUT: true; the input reads as it did. -/
def cRC32TableIsLongDivisionSpec : ChangeSpec := { name := "cRC32TableIsLongDivision", fn := fun _ => fun
  | [d] => { results := [.lit (.bool true)], args := [d] }
  | _ => none }
def cRC32TableIsLongDivisionRow : OpenClaim := { program := "qxb6500698a", sum := "f6d4c8c2e0d01958f8e0a0423a38f8cb706b012b4a0247dbd9d0ee2f4239a90c", func := "e2e/sumlaw.CRC32TableIsLongDivision", spec := "cRC32TableIsLongDivision", apart := false }
def CRC32TableIsLongDivisionSaid : Prop := cRC32TableIsLongDivisionRow.holds Try.pinned (OpenSpec.ofChange cRC32TableIsLongDivisionSpec)

/-- ITS FALSE NEIGHBOUR: 'it returns false'. Refute it at one input. -/
def cRC32TableIsLongDivisionWrong : ChangeSpec := { name := "cRC32TableIsLongDivision", fn := fun _ => fun
  | [d] => { results := [.lit (.bool false)], args := [d] }
  | _ => none }
def CRC32TableIsLongDivisionWrongFalsely : Prop := cRC32TableIsLongDivisionRow.holds Try.pinned (OpenSpec.ofChange cRC32TableIsLongDivisionWrong)

/-- 'sumlaw.CRC32CombineIsConcatenation': WHATEVER THE INPUT: true; the input reads as it did. -/
def cRC32CombineIsConcatenationSpec : ChangeSpec := { name := "cRC32CombineIsConcatenation", fn := fun _ => fun
  | [d] => { results := [.lit (.bool true)], args := [d] }
  | _ => none }
def cRC32CombineIsConcatenationRow : OpenClaim := { program := "qxb6500698a", sum := "f6d4c8c2e0d01958f8e0a0423a38f8cb706b012b4a0247dbd9d0ee2f4239a90c", func := "e2e/sumlaw.CRC32CombineIsConcatenation", spec := "cRC32CombineIsConcatenation", apart := false }
def CRC32CombineIsConcatenationSaid : Prop := cRC32CombineIsConcatenationRow.holds Try.pinned (OpenSpec.ofChange cRC32CombineIsConcatenationSpec)

/-- ITS FALSE NEIGHBOUR: 'it returns false'. Refute it at one input. -/
def cRC32CombineIsConcatenationWrong : ChangeSpec := { name := "cRC32CombineIsConcatenation", fn := fun _ => fun
  | [d] => { results := [.lit (.bool false)], args := [d] }
  | _ => none }
def CRC32CombineIsConcatenationWrongFalsely : Prop := cRC32CombineIsConcatenationRow.holds Try.pinned (OpenSpec.ofChange cRC32CombineIsConcatenationWrong)

/-- 'sumlaw.CRC32CatchesBursts': WHATEVER THE INPUT: true; the input reads as it did. -/
def cRC32CatchesBurstsSpec : ChangeSpec := { name := "cRC32CatchesBursts", fn := fun _ => fun
  | [d] => { results := [.lit (.bool true)], args := [d] }
  | _ => none }
def cRC32CatchesBurstsRow : OpenClaim := { program := "qxb6500698a", sum := "f6d4c8c2e0d01958f8e0a0423a38f8cb706b012b4a0247dbd9d0ee2f4239a90c", func := "e2e/sumlaw.CRC32CatchesBursts", spec := "cRC32CatchesBursts", apart := false }
def CRC32CatchesBurstsSaid : Prop := cRC32CatchesBurstsRow.holds Try.pinned (OpenSpec.ofChange cRC32CatchesBurstsSpec)

/-- ITS FALSE NEIGHBOUR: 'it returns false'. Refute it at one input. -/
def cRC32CatchesBurstsWrong : ChangeSpec := { name := "cRC32CatchesBursts", fn := fun _ => fun
  | [d] => { results := [.lit (.bool false)], args := [d] }
  | _ => none }
def CRC32CatchesBurstsWrongFalsely : Prop := cRC32CatchesBurstsRow.holds Try.pinned (OpenSpec.ofChange cRC32CatchesBurstsWrong)

/-- 'sumlaw.Fletcher32DeferredIsDefinition': WHATEVER THE INPUT: true; the input reads as it did. -/
def fletcher32DeferredIsDefinitionSpec : ChangeSpec := { name := "fletcher32DeferredIsDefinition", fn := fun _ => fun
  | [d] => { results := [.lit (.bool true)], args := [d] }
  | _ => none }
def fletcher32DeferredIsDefinitionRow : OpenClaim := { program := "qxb6500698a", sum := "f6d4c8c2e0d01958f8e0a0423a38f8cb706b012b4a0247dbd9d0ee2f4239a90c", func := "e2e/sumlaw.Fletcher32DeferredIsDefinition", spec := "fletcher32DeferredIsDefinition", apart := false }
def Fletcher32DeferredIsDefinitionSaid : Prop := fletcher32DeferredIsDefinitionRow.holds Try.pinned (OpenSpec.ofChange fletcher32DeferredIsDefinitionSpec)

/-- ITS FALSE NEIGHBOUR: 'it returns false'. Refute it at one input. -/
def fletcher32DeferredIsDefinitionWrong : ChangeSpec := { name := "fletcher32DeferredIsDefinition", fn := fun _ => fun
  | [d] => { results := [.lit (.bool false)], args := [d] }
  | _ => none }
def Fletcher32DeferredIsDefinitionWrongFalsely : Prop := fletcher32DeferredIsDefinitionRow.holds Try.pinned (OpenSpec.ofChange fletcher32DeferredIsDefinitionWrong)

/-- 'sumlaw.Fletcher32CatchesSmallChanges': WHATEVER THE INPUT: true; the input reads as it did. -/
def fletcher32CatchesSmallChangesSpec : ChangeSpec := { name := "fletcher32CatchesSmallChanges", fn := fun _ => fun
  | [d] => { results := [.lit (.bool true)], args := [d] }
  | _ => none }
def fletcher32CatchesSmallChangesRow : OpenClaim := { program := "qxb6500698a", sum := "f6d4c8c2e0d01958f8e0a0423a38f8cb706b012b4a0247dbd9d0ee2f4239a90c", func := "e2e/sumlaw.Fletcher32CatchesSmallChanges", spec := "fletcher32CatchesSmallChanges", apart := false }
def Fletcher32CatchesSmallChangesSaid : Prop := fletcher32CatchesSmallChangesRow.holds Try.pinned (OpenSpec.ofChange fletcher32CatchesSmallChangesSpec)

/-- ITS FALSE NEIGHBOUR: 'it returns false'. Refute it at one input. -/
def fletcher32CatchesSmallChangesWrong : ChangeSpec := { name := "fletcher32CatchesSmallChanges", fn := fun _ => fun
  | [d] => { results := [.lit (.bool false)], args := [d] }
  | _ => none }
def Fletcher32CatchesSmallChangesWrongFalsely : Prop := fletcher32CatchesSmallChangesRow.holds Try.pinned (OpenSpec.ofChange fletcher32CatchesSmallChangesWrong)

/-- 'sumlaw.FletcherBlockFits': WHATEVER THE INPUT: true; the input reads as it did. -/
def fletcherBlockFitsSpec : ChangeSpec := { name := "fletcherBlockFits", fn := fun _ => fun
  | [] => { results := [.lit (.bool true)], args := [] }
  | _ => none }
def fletcherBlockFitsRow : OpenClaim := { program := "qxb6500698a", sum := "f6d4c8c2e0d01958f8e0a0423a38f8cb706b012b4a0247dbd9d0ee2f4239a90c", func := "e2e/sumlaw.FletcherBlockFits", spec := "fletcherBlockFits", apart := false }
def FletcherBlockFitsSaid : Prop := fletcherBlockFitsRow.holds Try.pinned (OpenSpec.ofChange fletcherBlockFitsSpec)

/-- ITS FALSE NEIGHBOUR: 'it returns false'. Refute it at one input. -/
def fletcherBlockFitsWrong : ChangeSpec := { name := "fletcherBlockFits", fn := fun _ => fun
  | [] => { results := [.lit (.bool false)], args := [] }
  | _ => none }
def FletcherBlockFitsWrongFalsely : Prop := fletcherBlockFitsRow.holds Try.pinned (OpenSpec.ofChange fletcherBlockFitsWrong)

end Rows
end Go.Proofs.Qxb6500698a
