/-
  THE BENCH's STEP, ANY KIND.
-/
import Derived.Test.Qxb6500697aDoorMR0b
import Derived.Test.Qxb6500697aDoorMR1c
import Derived.Test.Qxb6500697aDoorMR3
import Derived.Test.Qxb6500697aDoorMR4b
import Derived.Test.Qxb6500697aDoorMR8
import Derived.Test.Qxb6500697aDoorMR9
namespace Go.Proofs.Qxb6500697aDoor
open Go.RowKit

section
variable {B : Nat} {w : World} {bb sb cb mb k m k2 m2 : Nat} {v1 v2 : Value} {ss ts : List Sd} {pm : Nat} {o : KOp} {e : Nat → Addr}
theorem stepR1 (h : InR B w bb sb cb mb k m k2 m2 v1 ss v2 ts pm o e) (h0 : o.kind = 1 ∨ o.kind = 2) :
    Calls Tryd.prog 14 #[.pointer (some ⟨bb, 0, none⟩), opV o] w (StepR B w bb sb k m k2 m2 ss v2 ts pm o) := by
  by_cases hg : goodG o.gen
  · by_cases hn : o.bs.length ≤ 256
    · rcases h0 with h0 | h0
      · exact stepR1_k1 h h0 hg hn
      · by_cases hf : ss.length + (k + m) ≤ 64
        · exact stepR1_k2yes h h0 hg hn hf
        · exact stepR1_k2no h h0 hg hn hf
    · have hbl := h.op.bl
      exact stepR1_err 2 (by omega) h h0 (Spec.k1 h0 (.inr (.inl ⟨hg, by omega, AnsEq.refl _, Stay.refl _ _ _⟩))) (fun V hE _ => plan_long 10 e V hE (by omega) cb o.gen o.bs.length hg (by omega) (by omega) (by omega))
  · exact stepR1_err 1 (by omega) h h0 (Spec.k1 h0 (.inl ⟨hg, AnsEq.refl _, Stay.refl _ _ _⟩)) (fun V hE _ => plan_gen 10 e V hE (by omega) cb o.gen o.bs.length hg)
/-- A STEP OF THE BENCH. -/
theorem stepR (h : InR B w bb sb cb mb k m k2 m2 v1 ss v2 ts pm o e) :
    Calls Tryd.prog 14 #[.pointer (some ⟨bb, 0, none⟩), opV o] w (StepR B w bb sb k m k2 m2 ss v2 ts pm o) := by
  have hc : o.kind = 0 ∨ (o.kind = 1 ∨ o.kind = 2) ∨ o.kind = 3 ∨ o.kind = 4 ∨ o.kind = 5 ∨ o.kind = 6 ∨ o.kind = 7 ∨ o.kind = 8 ∨ o.kind = 9 ∨ 9 < o.kind := by omega
  rcases hc with h0 | h0 | h0 | h0 | h0 | h0 | h0 | h0 | h0 | h0
  · cases hg : geo o.k o.m with
    | false => exact stepR0_bad h h0 hg
    | true => exact stepR0_ok h h0 hg
  · exact stepR1 h h0
  · exact stepR3 h h0
  · exact stepR4 h h0
  · exact stepR5 h h0
  · exact stepR6 h h0
  · exact stepR7 h h0
  · exact stepR8 h h0
  · exact stepR9 h h0
  · exact stepR10 h h0
end
end Go.Proofs.Qxb6500697aDoor
