/-
  DERIVED. GIVEN WITH THE SEED: THE CARDS: each row of Qxb6500697aDoorRows.lean that lists a variable, with what it lists TIED to the program's text (the seventh form; the later family's looks); each row that meets fmt, with fmt's text TOLD by the authors' own Lean function (tested against real Go, not proved from fmt's source: count such statements apart). THE CARD IS WHAT COUNTS. Prove the row's statement (the work); the ties are given (Qxb6500697aDoorTie.lean); close each card by the builder's one call (the guide's Derived/Test/ToyasCard.lean, 'card_holds'). Laid BY PROGRAM, IN A SANDBOX (cutbox-door.mjs). By AI agents, Wed Nov 11 2026. No macro, syntax, notation, axiom, sorry.
-/
import Derived.Test.Qxb6500697aDoorRows
import GoSem.ClaimSeven
namespace Go.Proofs.Qxb6500697aDoor
namespace Rows

/-- THE TIED CARD OF 'codelaw.RefinesModel'. -/
def refinesModelCard : Claim7 := { stood := { row := refinesModelRow, standIns := [], harness := (true, "10e79c03a001f4b2cb876a5559a510b5c979a03f11e339d91615027df6ce37d6"), looks := true }, kinds := [], alts := [], laidByText := true, laidKinds := [.sentinel, .sentinel, .sentinel, .sentinel, .sentinel, .sentinel, .sentinel, .sentinel, .sentinel, .sentinel], laidTests := true, laidLooks := .later }
def RefinesModelCardSaid : Prop := Claim7.holds Tryd.pinned (.plain (OpenSpec.ofChange refinesModelSpec)) refinesModelCard

/-- THE TIED CARD OF 'codelaw.DecodeFromAnyKShards'. -/
def decodeFromAnyKShardsCard : Claim7 := { stood := { row := decodeFromAnyKShardsRow, standIns := [], harness := (true, "10e79c03a001f4b2cb876a5559a510b5c979a03f11e339d91615027df6ce37d6"), looks := true }, kinds := [], alts := [], laidByText := true, laidKinds := [.sentinel, .sentinel, .sentinel, .sentinel, .sentinel, .sentinel, .sentinel, .sentinel, .sentinel, .sentinel, .data], laidTests := true, laidLooks := .later }
def DecodeFromAnyKShardsCardSaid : Prop := Claim7.holds Tryd.pinned (.plain (OpenSpec.ofChange decodeFromAnyKShardsSpec)) decodeFromAnyKShardsCard

/-- THE TIED CARD OF 'codelaw.RebuildEqualsOriginal'. -/
def rebuildEqualsOriginalCard : Claim7 := { stood := { row := rebuildEqualsOriginalRow, standIns := [], harness := (true, "10e79c03a001f4b2cb876a5559a510b5c979a03f11e339d91615027df6ce37d6"), looks := true }, kinds := [], alts := [], laidByText := true, laidKinds := [.sentinel, .sentinel, .sentinel, .sentinel, .sentinel, .sentinel, .sentinel, .sentinel, .sentinel, .sentinel, .data], laidTests := true, laidLooks := .later }
def RebuildEqualsOriginalCardSaid : Prop := Claim7.holds Tryd.pinned (.plain (OpenSpec.ofChange rebuildEqualsOriginalSpec)) rebuildEqualsOriginalCard

/-- THE TIED CARD OF 'codelaw.ShardsHaveTheStatedShape'. -/
def shardsHaveTheStatedShapeCard : Claim7 := { stood := { row := shardsHaveTheStatedShapeRow, standIns := [], harness := (true, "10e79c03a001f4b2cb876a5559a510b5c979a03f11e339d91615027df6ce37d6"), looks := true }, kinds := [], alts := [], laidByText := true, laidKinds := [.sentinel, .sentinel, .sentinel, .data], laidTests := true, laidLooks := .later }
def ShardsHaveTheStatedShapeCardSaid : Prop := Claim7.holds Tryd.pinned (.plain (OpenSpec.ofChange shardsHaveTheStatedShapeSpec)) shardsHaveTheStatedShapeCard

/-- THE TIED CARD OF 'codelaw.SpareShardBetraysDamage'. -/
def spareShardBetraysDamageCard : Claim7 := { stood := { row := spareShardBetraysDamageRow, standIns := [], harness := (true, "10e79c03a001f4b2cb876a5559a510b5c979a03f11e339d91615027df6ce37d6"), looks := true }, kinds := [], alts := [], laidByText := true, laidKinds := [.sentinel, .sentinel, .sentinel, .sentinel, .sentinel, .sentinel, .sentinel, .sentinel, .sentinel, .sentinel, .data], laidTests := true, laidLooks := .later }
def SpareShardBetraysDamageCardSaid : Prop := Claim7.holds Tryd.pinned (.plain (OpenSpec.ofChange spareShardBetraysDamageSpec)) spareShardBetraysDamageCard

/-- THE TIED CARD OF 'codelaw.ConvertKeepsTheObject'. -/
def convertKeepsTheObjectCard : Claim7 := { stood := { row := convertKeepsTheObjectRow, standIns := [], harness := (true, "10e79c03a001f4b2cb876a5559a510b5c979a03f11e339d91615027df6ce37d6"), looks := true }, kinds := [], alts := [], laidByText := true, laidKinds := [.sentinel, .sentinel, .sentinel, .sentinel, .sentinel, .sentinel, .sentinel, .sentinel, .sentinel, .sentinel, .data], laidTests := true, laidLooks := .later }
def ConvertKeepsTheObjectCardSaid : Prop := Claim7.holds Tryd.pinned (.plain (OpenSpec.ofChange convertKeepsTheObjectSpec)) convertKeepsTheObjectCard

/-- THE TIED CARD OF 'codelaw.PaddingIsGuarded'. -/
def paddingIsGuardedCard : Claim7 := { stood := { row := paddingIsGuardedRow, standIns := [], harness := (true, "10e79c03a001f4b2cb876a5559a510b5c979a03f11e339d91615027df6ce37d6"), looks := true }, kinds := [], alts := [], laidByText := true, laidKinds := [.sentinel, .sentinel, .sentinel, .sentinel, .sentinel, .sentinel, .sentinel, .sentinel, .sentinel, .sentinel, .data], laidTests := true, laidLooks := .later }
def PaddingIsGuardedCardSaid : Prop := Claim7.holds Tryd.pinned (.plain (OpenSpec.ofChange paddingIsGuardedSpec)) paddingIsGuardedCard

/-- THE TIED CARD OF 'codelaw.ResultsShareNoMemory'. -/
def resultsShareNoMemoryCard : Claim7 := { stood := { row := resultsShareNoMemoryRow, standIns := [], harness := (true, "10e79c03a001f4b2cb876a5559a510b5c979a03f11e339d91615027df6ce37d6"), looks := true }, kinds := [], alts := [], laidByText := true, laidKinds := [.sentinel, .sentinel, .sentinel, .sentinel, .sentinel, .sentinel, .sentinel, .sentinel, .sentinel, .sentinel, .data], laidTests := true, laidLooks := .later }
def ResultsShareNoMemoryCardSaid : Prop := Claim7.holds Tryd.pinned (.plain (OpenSpec.ofChange resultsShareNoMemorySpec)) resultsShareNoMemoryCard
end Rows
end Go.Proofs.Qxb6500697aDoor
