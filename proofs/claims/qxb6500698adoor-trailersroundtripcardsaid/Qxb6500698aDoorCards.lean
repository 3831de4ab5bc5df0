/-
  DERIVED. GIVEN WITH THE SEED: THE CARDS: each row of Qxb6500698aDoorRows.lean that lists a variable, with what it lists TIED to the program's text (the seventh form; the later family's looks); each row that meets fmt, with fmt's text TOLD by the authors' own Lean function (tested against real Go, not proved from fmt's source: count such statements apart). THE CARD IS WHAT COUNTS. Prove the row's statement (the work); the ties are given (Qxb6500698aDoorTie.lean); close each card by the builder's one call (the guide's Derived/Test/ToyasCard.lean, 'card_holds'). Laid BY PROGRAM, IN A SANDBOX (cutbox-door.mjs). By AI agents, Wed Nov 11 2026. No macro, syntax, notation, axiom, sorry.
-/
import Derived.Test.Qxb6500698aDoorRows
import GoSem.ClaimSeven
namespace Go.Proofs.Qxb6500698aDoor
namespace Rows

/-- THE TIED CARD OF 'sumlaw.LittleEndianRoundTrip'. -/
def littleEndianRoundTripCard : Claim7 := { stood := { row := littleEndianRoundTripRow, standIns := [], harness := (true, "415a1db543ec54cb7ba864e4fd4d88a3dc27f7247ddca21e009eb014c34ce6d3"), looks := true }, kinds := [], alts := [], laidByText := true, laidKinds := [.sentinel, .sentinel, .sentinel, .sentinel, .sentinel, .sentinel], laidTests := true, laidLooks := .later }
def LittleEndianRoundTripCardSaid : Prop := Claim7.holds Tryd.pinned (.plain (OpenSpec.ofChange littleEndianRoundTripSpec)) littleEndianRoundTripCard

/-- THE TIED CARD OF 'sumlaw.TrailersRoundTrip'. -/
def trailersRoundTripCard : Claim7 := { stood := { row := trailersRoundTripRow, standIns := [], harness := (true, "415a1db543ec54cb7ba864e4fd4d88a3dc27f7247ddca21e009eb014c34ce6d3"), looks := true }, kinds := [], alts := [], laidByText := true, laidKinds := [.sentinel, .sentinel, .sentinel, .sentinel, .sentinel, .sentinel], laidTests := true, laidLooks := .later }
def TrailersRoundTripCardSaid : Prop := Claim7.holds Tryd.pinned (.plain (OpenSpec.ofChange trailersRoundTripSpec)) trailersRoundTripCard
end Rows
end Go.Proofs.Qxb6500698aDoor
