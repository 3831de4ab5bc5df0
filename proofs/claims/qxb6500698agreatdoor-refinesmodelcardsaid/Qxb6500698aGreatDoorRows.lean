/-
  NARROWER THAN 'FOR EVERY INPUT', by the rows' own cells (each row's printed sentence says how): RefinesModel: laid.
  DERIVED. THE GIVEN ROWS OF THIS SEAT. 1 by the template 'for every input the law returns true; each argument reads behind the call as it read before'; 0 by the template 'total and deterministic' (their statements: Qxb6500698aGreatDoorTotals.lean).
  GIVEN WITH THE SEED: the statements are not yours to turn. If you find one false, say at which input.
  Laid BY PROGRAM, IN A SANDBOX (cutbox-rows.mjs): the forced cells as the released guide's own fill.sh prints them over the translation a5e304d39cc1222e… (all of the seat's roots in one cut). By AI agents, Wed Nov 11 2026. No macro, syntax, notation, axiom, sorry.
-/
import Derived.Test.Qxb6500698aGreatDoorChecked
import GoSem.Claim
import GoSem.ClaimJoined
import GoSem.ClaimMapViews
import Derived.JoinedTies
import Derived.KernelRfl
namespace Go.Proofs.Qxb6500698aGreatDoor
/- THE CELL 'sum', in the pinned program and in every row, IS THE sha256 OF THE DUMP (.gsa) THAT Qxb6500698aGreatDoorProg.lean LOADS. Nothing in Lean hashes anything: it is a label: what it is worth is what the hold of that sum in a sandbox is worth. -/
noncomputable def Tryz.pinned : Pinned := { name := "qxb6500698agreatdoor", sum := "a5e304d39cc1222ea973231e5c8de6915ae786ef11451a797fd2604eb5c59201", checked := Tryz.checked }
namespace Rows
def none {H : Type} : Left H := { results := [], args := [] }

/- WHAT THE LISTED PACKAGE-LEVEL VARIABLES READ AS WHEN THE CALL BEGINS. Each datum BY PROGRAM (the guide's laid-datum.mjs) off the statement by which the dump's own 'gosem.cut.vars' lays the variable. In a bare row this is a premise. The card (Qxb6500698aGreatDoorCards.lean) ties it to the program's text. -/
def laid_e2e_sum_ErrShort {H : Type} : DataW H := .iface "*errors.errorString" (.ptr (.agg [.lit (.string [115, 117, 109, 58, 32, 102, 101, 119, 101, 114, 32, 98, 121, 116, 101, 115, 32, 116, 104, 97, 110, 32, 116, 104, 101, 32, 102, 105, 101, 108, 100, 32, 110, 101, 101, 100, 115])]))
def laid_e2e_sum_ErrWidth {H : Type} : DataW H := .iface "*errors.errorString" (.ptr (.agg [.lit (.string [115, 117, 109, 58, 32, 105, 110, 116, 101, 103, 101, 114, 32, 119, 105, 100, 116, 104, 32, 105, 115, 32, 110, 111, 116, 32, 49, 44, 32, 50, 44, 32, 52, 32, 111, 114, 32, 56, 32, 98, 121, 116, 101, 115])]))
def laid_e2e_sum_ErrRange {H : Type} : DataW H := .iface "*errors.errorString" (.ptr (.agg [.lit (.string [115, 117, 109, 58, 32, 118, 97, 108, 117, 101, 32, 100, 111, 101, 115, 32, 110, 111, 116, 32, 102, 105, 116, 32, 116, 104, 101, 32, 119, 105, 100, 116, 104, 44, 32, 111, 114, 32, 110, 101, 103, 97, 116, 105, 118, 101, 32, 99, 111, 117, 110, 116])]))
def laid_e2e_sum_ErrFull {H : Type} : DataW H := .iface "*errors.errorString" (.ptr (.agg [.lit (.string [115, 117, 109, 58, 32, 116, 104, 101, 32, 119, 114, 105, 116, 101, 114, 39, 115, 32, 108, 105, 109, 105, 116, 32, 119, 111, 117, 108, 100, 32, 98, 101, 32, 112, 97, 115, 115, 101, 100])]))
def laid_e2e_sum_ErrTrailing {H : Type} : DataW H := .iface "*errors.errorString" (.ptr (.agg [.lit (.string [115, 117, 109, 58, 32, 98, 121, 116, 101, 115, 32, 108, 101, 102, 116, 32, 97, 102, 116, 101, 114, 32, 116, 104, 101, 32, 108, 97, 115, 116, 32, 102, 105, 101, 108, 100])]))
def laid_e2e_sum_ErrMismatch {H : Type} : DataW H := .iface "*errors.errorString" (.ptr (.agg [.lit (.string [115, 117, 109, 58, 32, 99, 104, 101, 99, 107, 115, 117, 109, 32, 116, 114, 97, 105, 108, 101, 114, 32, 100, 111, 101, 115, 32, 110, 111, 116, 32, 109, 97, 116, 99, 104, 32, 105, 116, 115, 32, 112, 97, 121, 108, 111, 97, 100])]))

/-- 'sumlaw.RefinesModel': WHATEVER THE INPUT: true; the input reads as it did. -/
def refinesModelSpec : ChangeSpec := { name := "refinesModel", fn := fun _ => fun
  | [d] => { results := [.lit (.bool true)], args := [d] }
  | _ => none }
def refinesModelRow : OpenClaim := { program := "qxb6500698agreatdoor", sum := "a5e304d39cc1222ea973231e5c8de6915ae786ef11451a797fd2604eb5c59201", func := "e2e/sumlaw.RefinesModel", spec := "refinesModel", inPlace := ["internal/reflectlite.TypeOf"], unfollowed := true, recurses := true, named := ["e2e/sum.ErrWidth", "e2e/sum.ErrRange", "e2e/sum.ErrFull", "e2e/sum.ErrShort", "e2e/sum.ErrTrailing", "e2e/sum.ErrMismatch"], apart := false, laid := [("e2e/sum.ErrShort", laid_e2e_sum_ErrShort), ("e2e/sum.ErrWidth", laid_e2e_sum_ErrWidth), ("e2e/sum.ErrRange", laid_e2e_sum_ErrRange), ("e2e/sum.ErrFull", laid_e2e_sum_ErrFull), ("e2e/sum.ErrTrailing", laid_e2e_sum_ErrTrailing), ("e2e/sum.ErrMismatch", laid_e2e_sum_ErrMismatch)] }
def RefinesModelSaid : Prop := refinesModelRow.holds Tryz.pinned (OpenSpec.ofChange refinesModelSpec)

/-- ITS FALSE NEIGHBOUR: 'it returns false'. Refute it at one input. -/
def refinesModelWrong : ChangeSpec := { name := "refinesModel", fn := fun _ => fun
  | [d] => { results := [.lit (.bool false)], args := [d] }
  | _ => none }
def RefinesModelWrongFalsely : Prop := refinesModelRow.holds Tryz.pinned (OpenSpec.ofChange refinesModelWrong)

end Rows
end Go.Proofs.Qxb6500698aGreatDoor
