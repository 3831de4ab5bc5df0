/-
  THE MODEL's STEP, ANY KIND.
-/
import Derived.Test.Qxb6500697aDoorMM0b
import Derived.Test.Qxb6500697aDoorMM1
import Derived.Test.Qxb6500697aDoorMM6b
import Derived.Test.Qxb6500697aDoorMM5
import Derived.Test.Qxb6500697aDoorMM7
import Derived.Test.Qxb6500697aDoorMM8
namespace Go.Proofs.Qxb6500697aDoor
open Go.RowKit

/-- A STEP OF THE MODEL. -/
theorem stepM {B : Nat} {w : World} {bb sb cb mb k m k2 m2 : Nat} {v1 v2 : Value} {ss ts : List Sd} {pm : Nat} {o : KOp} (h : InM B w bb sb cb mb k m k2 m2 v1 ss v2 ts pm o) :
    Calls Tryd.prog 16 #[.pointer (some ⟨sb, 0, none⟩), opV o] w (StepM B w bb sb cb mb k m k2 m2 v1 ss v2 ts pm o) := by
  have hc : o.kind = 0 ∨ (o.kind = 1 ∨ o.kind = 2) ∨ o.kind = 3 ∨ o.kind = 4 ∨ o.kind = 5 ∨ o.kind = 6 ∨ o.kind = 7 ∨ o.kind = 8 ∨ o.kind = 9 ∨ 9 < o.kind := by omega
  rcases hc with h0 | h0 | h0 | h0 | h0 | h0 | h0 | h0 | h0 | h0
  · exact stepM0 h h0
  · exact stepM1 h h0
  · exact stepM3 h h0
  · exact stepM4 h h0
  · exact stepM5 h h0
  · exact stepM6 h h0
  · exact stepM7 h h0
  · exact stepM8 h h0
  · exact stepM9 h h0
  · exact stepM10 h h0
end Go.Proofs.Qxb6500697aDoor
