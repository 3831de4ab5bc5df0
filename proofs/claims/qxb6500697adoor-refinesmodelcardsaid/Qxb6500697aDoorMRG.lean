/-
  THE BENCH's STEP: what an operation of the codec gives a step, in one form for every kind.
-/
import Derived.Test.Qxb6500697aDoorMCore
namespace Go.Proofs.Qxb6500697aDoor
open Go.RowKit

/-- The class of an answer. -/
def clsX : Option Nat → Nat
  | none => 0
  | some i => i + 1
theorem class_opt (w : World) (e : Nat → Addr) (E : KErrs 10 w e) (x : Option Nat) (hx : ∀ i, x = some i → i < 9) :
    Calls Tryd.prog 25 #[errV e x] w fun r w' => r = .returned (.int .u8 ((clsX x : Nat) : Int)) ∧ Below w.heap.size w w' := by
  cases x with
  | none => exact class_nil w e E
  | some i => exact class_any w e E i (hx i rfl)
theorem clsX_lt {x : Option Nat} (hx : ∀ i, x = some i → i < 9) : clsX x < 256 := by
  cases x with
  | none => show 0 < 256; omega
  | some i => show i + 1 < 256; have := hx i rfl; omega

section
variable {B : Nat} {w W V w2 w3 : World} {bb sb cb mb k m k2 m2 : Nat} {v1 v2 : Value} {ss ts : List Sd} {pm : Nat} {o : KOp} {e : Nat → Addr} {R : Nat} {mk : Value → Value → Value}
/-- What the operation leaves: the two machines as they were, its answer fit for the step's. -/
structure CB (B : Nat) (W : World) (bb sb cb mb k m k2 m2 : Nat) (v1 : Value) (ss : List Sd) (v2 : Value) (ts : List Sd) (pm : Nat) (o : KOp) (R : Nat) (ans : Value) (w2 : World) : Prop where
  rs : RS B w2 bb sb cb mb k m k2 m2 v1 ss v2 ts pm (fun b => b = R)
  mu : Mut mb W w2
  kp : Keeps W w2
  er : ∀ e, KErrs 10 W e → KErrs 10 w2 e
  mp : ¬ OpBlk W mb
  ans : ∃ A, Spec k m ss o A k m ss ∧ ∀ w3, Chg (fun b => PM sb v2 ts b ∨ b = R) w2 w3 → AnsOk w3 ans A
/-- An answer that is a slice and an error. -/
def CP (B : Nat) (W : World) (bb sb cb mb k m k2 m2 : Nat) (v1 : Value) (ss : List Sd) (v2 : Value) (ts : List Sd) (pm : Nat) (o : KOp) (R : Nat) (e : Nat → Addr) (mk : Value → Value → Value) (r : Ending) (w2 : World) : Prop :=
  ∃ a n c x, r = .returned (.tuple #[.slice a n c, errV e x]) ∧ (∀ i, x = some i → i < 9) ∧ CB B W bb sb cb mb k m k2 m2 v1 ss v2 ts pm o R (mk (.slice a n c) (.int .u8 ((clsX x : Nat) : Int))) w2

theorem CB.fin {a b c d f : Value} (h : CB B W bb sb cb mb k m k2 m2 v1 ss v2 ts pm o R (.agg #[a, b, c, d, f]) w2) (hb : Below w2.heap.size w2 w3) (hW : BelR B w W ∧ B ≤ W.heap.size) (hRw : w.heap.size ≤ R := by omega) : StepR B w bb sb k m k2 m2 ss v2 ts pm o (.returned (.agg #[a, b, c, d, f])) (ansW w3 R a b c d f) := by
  obtain ⟨A, hs, hA⟩ := h.ans
  refine finR (cb := cb) (mb := mb) (v1 := v1) ((h.rs.below hb).more (Nat.le_succ _)) hs ?_ (fun w4 hC => hA w4 ((Below.chg hb _).trans hC))
  have h1 : BelR B w w2 := bel_mut hW.1 h.mu hW.2 h.rs.ge.2.2 h.mp
  exact bel_trans h1 hb (Nat.le_trans hW.2 h.mu.size)
theorem CB.res {ans : Value} (h : CB B W bb sb cb mb k m k2 m2 v1 ss v2 ts pm o R ans w2) (hb : Below w2.heap.size w2 w3) (hR : Res W R) : Res w3 R := by
  have hz := h.rs.hz R rfl
  have hl : R < W.heap.size := heap_lt hR
  have hm : R ≠ mb := fun e => h.rs.noMb (.inr (.inr (.inr (.inr e.symm))))
  exact (hR.keep (h.mu.block R hl hm)).keep (hb.block R hz.1)
/-- What picks from the bench's tray gives. -/
theorem picked_R (h : RS B W bb sb cb mb k m k2 m2 v1 ss v2 ts pm (fun b => b = R)) (hop : OpOk W o) :
    Calls Tryd.prog 39 #[.pointer (some ⟨bb, 0, none⟩), .slice o.pa o.pick.length o.pc] W.drew fun r w' => ∃ v, r = .returned v ∧ SOut W.heap.size w' v (pk o.pick ss) ∧ Below W.heap.size W w' ∧ Keeps W w' := by
  obtain ⟨ao, cap, hv, hS⟩ := h.t1.row
  have hd : Below W.heap.size W W.drew := (Below.refl _ _).drew
  refine (picked_any W.drew bb ao cap ss o.pa o.pc o.pick ?_ (hS.keeps (Below.keeps hd)) h.l1 (hop.keeps (Below.keeps hd)).pk hop.pl).mono ?_
  · rw [← hv]; exact Below.keeps hd _ _ _ h.c1
  · rintro r w' ⟨v, hr, hs, hb⟩
    have h1 : Below W.heap.size W w' := hd.trans hb
    exact ⟨v, hr, hs, h1, Below.keeps h1⟩
/-- An operation that leaves memory as it was, or changes the codec's map alone. -/
theorem CB.of {ans : Value} {A : Ans} (h : RS B W bb sb cb mb k m k2 m2 v1 ss v2 ts pm (fun b => b = R)) (hb : Below W.heap.size W V) (hm : Mut mb V w2) (hc : Cache (XS bb sb v1 ss v2 ts (fun b => b = R)) w2 mb k (k + m)) (hs : Spec k m ss o A k m ss) (hA : ∀ w3, Chg (fun b => PM sb v2 ts b ∨ b = R) w2 w3 → AnsOk w3 ans A) : CB B W bb sb cb mb k m k2 m2 v1 ss v2 ts pm o R ans w2 := by
  have hM : Mut mb W w2 := (Below.mut hb mb).trans hm
  have hk : Keeps W w2 := h.keeps (fun b hb hn => hM.block b hb hn)
  obtain ⟨es, clock, hmm, _⟩ := h.cache.ents
  exact ⟨h.mut hM hc, hM, hk, fun e he => he.keeps hk (fun b hb ⟨c, t, f, hcc⟩ => hM.block b hb (fun e => by rw [e, hmm] at hcc; cases hcc)), h.cache.noOp, A, hs, hA⟩
/-- What neither the model's step nor the answer's box can write. -/
theorem RS.far (h : RS B W bb sb cb mb k m k2 m2 v1 ss v2 ts pm (fun b => b = R)) {b : Nat} (hb : W.heap.size ≤ b) : ¬ (PM sb v2 ts b ∨ b = R) := by
  rintro ((h1 | h1) | h1)
  · have := heap_lt h.hs; omega
  · have := (h.t2.lt h1).2; omega
  · have := (h.hz R rfl).1; omega
theorem pk_le {ps : List Int} {l : List Sd} {n : Nat} (h : ∀ s ∈ l, s.pl ≤ n) : ∀ s ∈ pk ps l, s.pl ≤ n := by
  intro s hs
  unfold pk at hs
  by_cases hne : l = []
  · rw [if_pos hne] at hs; cases hs
  · rw [if_neg hne] at hs
    obtain ⟨q, _, rfl⟩ := List.mem_map.1 hs
    have hl : place q l.length < l.length := place_lt _ _ (List.length_pos_iff.2 hne)
    rw [getD_lt hl]
    exact h _ (List.getElem_mem hl)
end
end Go.Proofs.Qxb6500697aDoor
