/-
  THE TWO MACHINES IN MEMORY: THE BENCH AND THE MODEL's STATE, SIDE BY SIDE.
-/
import Derived.Test.Qxb6500697aDoorMSusP
import Derived.Test.Qxb6500697aDoorMASame
namespace Go.Proofs.Qxb6500697aDoor
open Go.RowKit

/-- The blocks that the codec's map never touches; Z: boxes of the step that goes on. -/
def XS (bb sb : Nat) (v1 : Value) (ss : List Sd) (v2 : Value) (ts : List Sd) (Z : Nat → Prop) (b : Nat) : Prop := b = bb ∨ b = sb ∨ tblk v1 ss b ∨ tblk v2 ts b ∨ Z b
/-- No boxes. -/
def NoZ (_ : Nat) : Prop := False

/-- Block bb: the bench (its codec in cb, its tray v1); block sb: the model's state (k2, m2, its tray v2). -/
structure RS (B : Nat) (w : World) (bb sb cb mb k m k2 m2 : Nat) (v1 : Value) (ss : List Sd) (v2 : Value) (ts : List Sd) (pm : Nat) (Z : Nat → Prop) : Prop where
  hb : w.heap[bb]? = some (.cells #[.pointer (some ⟨cb, 0, none⟩), v1] 81 (0, 0))
  hs : w.heap[sb]? = some (.cells #[.int .i64 (k2 : Int), .int .i64 (m2 : Int), v2] 83 (0, 0))
  t1 : Tray B w v1 ss
  t2 : Tray B w v2 ts
  l1 : ss.length ≤ 64
  l2 : ts.length ≤ 64
  p1 : ∀ s ∈ ss, s.pl ≤ pm
  p2 : ∀ s ∈ ts, s.pl ≤ pm
  codec : CodecAt w (fun b => B ≤ b ∧ ¬ XS bb sb v1 ss v2 ts Z b) cb mb k m
  cache : Cache (XS bb sb v1 ss v2 ts Z) w mb k (k + m)
  noMb : ¬ XS bb sb v1 ss v2 ts Z mb
  ge : B ≤ bb ∧ B ≤ sb ∧ B ≤ mb
  ne : bb ≠ sb
  nb1 : ¬ tblk v1 ss bb ∧ ¬ tblk v1 ss sb
  nb2 : ¬ tblk v2 ts bb ∧ ¬ tblk v2 ts sb
  dt : ∀ b, tblk v1 ss b → ¬ tblk v2 ts b
  hz : ∀ b, Z b → b < w.heap.size ∧ B ≤ b ∧ b ≠ bb ∧ b ≠ sb ∧ ¬ tblk v1 ss b ∧ ¬ tblk v2 ts b
  g2 : 1 ≤ k2 ∧ 1 ≤ m2 ∧ k2 + m2 ≤ 16

section
variable {B : Nat} {w w' : World} {bb sb cb mb k m k2 m2 : Nat} {v1 v2 : Value} {ss ts : List Sd} {pm : Nat} {Z : Nat → Prop}
theorem RS.xlt (h : RS B w bb sb cb mb k m k2 m2 v1 ss v2 ts pm Z) : ∀ b, XS bb sb v1 ss v2 ts Z b → b < w.heap.size := by
  intro b hb
  rcases hb with rfl | rfl | hb | hb | hb
  · exact heap_lt h.hb
  · exact heap_lt h.hs
  · exact (h.t1.lt hb).2
  · exact (h.t2.lt hb).2
  · exact (h.hz b hb).1
theorem RS.xge (h : RS B w bb sb cb mb k m k2 m2 v1 ss v2 ts pm Z) : ∀ b, XS bb sb v1 ss v2 ts Z b → B ≤ b := by
  intro b hb
  rcases hb with rfl | rfl | hb | hb | hb
  · exact h.ge.1
  · exact h.ge.2.1
  · exact (h.t1.lt hb).1
  · exact (h.t2.lt hb).1
  · exact (h.hz b hb).2.1
theorem RS.keeps (h : RS B w bb sb cb mb k m k2 m2 v1 ss v2 ts pm Z) (hk : ∀ b, b < w.heap.size → b ≠ mb → w'.heap[b]? = w.heap[b]?) : Keeps w w' := by
  obtain ⟨es, clock, hm, _⟩ := h.cache.ents
  intro b o u hu
  have hne : b ≠ mb := map_cell hm hu
  exact (World.cell?_of_block (a := ⟨b, o, none⟩) (hk b (cell_lt hu) hne)).trans hu
/-- Blocks of the two machines as they were; the codec's map sound. -/
theorem RS.keep (h : RS B w bb sb cb mb k m k2 m2 v1 ss v2 ts pm Z) (hk : ∀ b, b < w.heap.size → b ≠ mb → w'.heap[b]? = w.heap[b]?) (hsz : w.heap.size ≤ w'.heap.size) (hc : Cache (XS bb sb v1 ss v2 ts Z) w' mb k (k + m)) : RS B w' bb sb cb mb k m k2 m2 v1 ss v2 ts pm Z := by
  have hx : ∀ b, XS bb sb v1 ss v2 ts Z b → w'.heap[b]? = w.heap[b]? := fun b hb => hk b (h.xlt b hb) (fun e => h.noMb (by rw [← e]; exact hb))
  exact ⟨(hx bb (.inl rfl)).trans h.hb, (hx sb (.inr (.inl rfl))).trans h.hs, h.t1.keep (fun b hb => hx b (.inr (.inr (.inl hb)))), h.t2.keep (fun b hb => hx b (.inr (.inr (.inr (.inl hb))))), h.l1, h.l2, h.p1, h.p2, h.codec.keeps (h.keeps hk), hc, h.noMb, h.ge, h.ne, h.nb1, h.nb2, h.dt, fun b hb => ⟨Nat.lt_of_lt_of_le (h.hz b hb).1 hsz, (h.hz b hb).2⟩, h.g2⟩
theorem RS.mut (h : RS B w bb sb cb mb k m k2 m2 v1 ss v2 ts pm Z) (hm : Mut mb w w') (hc : Cache (XS bb sb v1 ss v2 ts Z) w' mb k (k + m)) : RS B w' bb sb cb mb k m k2 m2 v1 ss v2 ts pm Z := h.keep (fun b hb hn => hm.block b hb hn) hm.size hc
theorem RS.below (h : RS B w bb sb cb mb k m k2 m2 v1 ss v2 ts pm Z) (hb : Below w.heap.size w w') : RS B w' bb sb cb mb k m k2 m2 v1 ss v2 ts pm Z := h.mut (Below.mut hb mb) (h.cache.below hb)
theorem RS.more {pm' : Nat} (h : RS B w bb sb cb mb k m k2 m2 v1 ss v2 ts pm Z) (hp : pm ≤ pm') : RS B w bb sb cb mb k m k2 m2 v1 ss v2 ts pm' Z := { h with p1 := fun s hs => Nat.le_trans (h.p1 s hs) hp, p2 := fun s hs => Nat.le_trans (h.p2 s hs) hp }
/-- A box of the step taken under guard. -/
theorem RS.addZ {R : Nat} (h : RS B w bb sb cb mb k m k2 m2 v1 ss v2 ts pm NoZ) (hb : Below w.heap.size w w') (h1 : w.heap.size ≤ R) (h2 : R < w'.heap.size) : RS B w' bb sb cb mb k m k2 m2 v1 ss v2 ts pm (fun b => b = R) := by
  have hlt := h.xlt
  have sub : ∀ b, XS bb sb v1 ss v2 ts (fun b => b = R) b → XS bb sb v1 ss v2 ts NoZ b ∨ w.heap.size ≤ b := fun b hb => by
    rcases hb with h3 | h3 | h3 | h3 | h3
    · exact .inl (.inl h3)
    · exact .inl (.inr (.inl h3))
    · exact .inl (.inr (.inr (.inl h3)))
    · exact .inl (.inr (.inr (.inr (.inl h3))))
    · exact .inr (by rw [h3]; exact h1)
  have h' := h.below hb
  refine ⟨h'.hb, h'.hs, h'.t1, h'.t2, h'.l1, h'.l2, h'.p1, h'.p2, ?_, h.cache.addX hb sub, fun hm => ?_, h'.ge, h'.ne, h'.nb1, h'.nb2, h'.dt, fun b hb' => ?_, h'.g2⟩
  · exact (h.codec.mono (F' := fun b => B ≤ b ∧ ¬ XS bb sb v1 ss v2 ts (fun b => b = R) b) (fun b hbs hF => ⟨hF.1, fun hx => by
      rcases sub b hx with h3 | h3
      · exact hF.2 h3
      · omega⟩)).below hb
  · rcases sub mb hm with h3 | h3
    · exact h.noMb h3
    · have := h.cache.lt; omega
  · subst hb'
    have hB : B ≤ b := Nat.le_trans (Nat.le_trans h.ge.1 (Nat.le_of_lt (heap_lt h.hb))) h1
    refine ⟨h2, hB, ?_, ?_, fun hx => ?_, fun hx => ?_⟩
    · have := heap_lt h.hb; omega
    · have := heap_lt h.hs; omega
    · have := (h.t1.lt hx).2; omega
    · have := (h.t2.lt hx).2; omega
theorem RS.dropZ (h : RS B w bb sb cb mb k m k2 m2 v1 ss v2 ts pm Z) : RS B w bb sb cb mb k m k2 m2 v1 ss v2 ts pm NoZ := by
  have sub : ∀ b, XS bb sb v1 ss v2 ts NoZ b → XS bb sb v1 ss v2 ts Z b := fun b hb => by
    rcases hb with h3 | h3 | h3 | h3 | h3
    · exact .inl h3
    · exact .inr (.inl h3)
    · exact .inr (.inr (.inl h3))
    · exact .inr (.inr (.inr (.inl h3)))
    · cases h3
  exact ⟨h.hb, h.hs, h.t1, h.t2, h.l1, h.l2, h.p1, h.p2, h.codec.mono (fun b _ hF => ⟨hF.1, fun hx => hF.2 (sub b hx)⟩), h.cache.weak sub, fun hm => h.noMb (sub mb hm), h.ge, h.ne, h.nb1, h.nb2, h.dt, fun b hb => (hb : False).elim, h.g2⟩
/-- A box of the step written. -/
theorem RS.putZ {R : Nat} (h : RS B w bb sb cb mb k m k2 m2 v1 ss v2 ts pm Z) (hR : Z R) (hO : Only R w w') : RS B w' bb sb cb mb k m k2 m2 v1 ss v2 ts pm Z := by
  obtain ⟨z1, z2, z3, z4, z5, z6⟩ := h.hz R hR
  have hx : ∀ b, b ≠ R → w'.heap[b]? = w.heap[b]? := fun b hb => hO.block b hb
  refine ⟨(hx bb (Ne.symm z3)).trans h.hb, (hx sb (Ne.symm z4)).trans h.hs, h.t1.keep (fun b hb => hx b (fun e => z5 (by rw [← e]; exact hb))), h.t2.keep (fun b hb => hx b (fun e => z6 (by rw [← e]; exact hb))), h.l1, h.l2, h.p1, h.p2, h.codec.keep (fun b hF _ => hx b (fun e => hF.2 (.inr (.inr (.inr (.inr (by rw [e]; exact hR))))))), h.cache.keepX h.noMb (fun b hn _ => hx b (fun e => hn (.inr (.inr (.inr (.inr (by rw [e]; exact hR))))))), h.noMb, h.ge, h.ne, h.nb1, h.nb2, h.dt, fun b hb => ⟨by rw [hO.size]; exact (h.hz b hb).1, (h.hz b hb).2⟩, h.g2⟩
theorem RS.c0 (h : RS B w bb sb cb mb k m k2 m2 v1 ss v2 ts pm Z) : w.cell? ⟨bb, 0, none⟩ = some (.pointer (some ⟨cb, 0, none⟩)) := by have := h.hb; simp [World.cell?, this]
theorem RS.c1 (h : RS B w bb sb cb mb k m k2 m2 v1 ss v2 ts pm Z) : w.cell? ⟨bb, 1, none⟩ = some v1 := by have := h.hb; simp [World.cell?, this]
theorem RS.fb (h : RS B w bb sb cb mb k m k2 m2 v1 ss v2 ts pm Z) (i : Nat) : w.frozen? ⟨bb, i, none⟩ = false := by have := h.hb; simp [World.frozen?, this]
theorem RS.s0 (h : RS B w bb sb cb mb k m k2 m2 v1 ss v2 ts pm Z) : w.cell? ⟨sb, 0, none⟩ = some (.int .i64 (k2 : Int)) := by have := h.hs; simp [World.cell?, this]
theorem RS.s1 (h : RS B w bb sb cb mb k m k2 m2 v1 ss v2 ts pm Z) : w.cell? ⟨sb, 1, none⟩ = some (.int .i64 (m2 : Int)) := by have := h.hs; simp [World.cell?, this]
theorem RS.s2 (h : RS B w bb sb cb mb k m k2 m2 v1 ss v2 ts pm Z) : w.cell? ⟨sb, 2, none⟩ = some v2 := by have := h.hs; simp [World.cell?, this]
theorem RS.fs (h : RS B w bb sb cb mb k m k2 m2 v1 ss v2 ts pm Z) (i : Nat) : w.frozen? ⟨sb, i, none⟩ = false := by have := h.hs; simp [World.frozen?, this]
end
/-- What a step of the model may write. -/
def PM (sb : Nat) (v2 : Value) (ts : List Sd) (b : Nat) : Prop := b = sb ∨ tblk v2 ts b

/-- An answer in memory. -/
def AnsOk (w : World) (v : Value) (A : Ans) : Prop := ∃ da dca ao ca la lca, v = ansV A.er da A.D dca ao A.sh.length ca la A.M lca A.n ∧ FRow w da A.D A.df ∧ OSdRow w ao A.sh ∧ ZRow w la A.M A.lf ∧ A.D ≤ 65536 ∧ A.sh.length ≤ 65536 ∧ A.M ≤ 65536 ∧ ∀ s ∈ A.sh, s.pl ≤ 65536
theorem SdRow.nil (w : World) (ao : Option Addr) : SdRow w ao [] := ⟨fun h => by simp at h, by simp⟩
theorem FRow.nil (w : World) (ao : Option Addr) (f : Nat → Nat) : FRow w ao 0 f := ⟨fun i hi => by omega, fun h => by omega⟩
theorem ZRow.nil (w : World) (ao : Option Addr) (f : Nat → Int) : ZRow w ao 0 f := fun h => by omega
/-- An answer of numbers alone. -/
theorem AnsOk.num (w : World) (er : Nat) (n : Int) : AnsOk w (.agg #[.int .u8 (er : Int), .slice none 0 0, .slice none 0 0, .slice none 0 0, .int .i64 n]) { ansE er with n := n } :=
  ⟨none, 0, none, 0, none, 0, rfl, FRow.nil _ _ _, (SdRow.nil _ _).o, ZRow.nil _ _ _, Nat.zero_le _, Nat.zero_le _, Nat.zero_le _, by intro s hs; cases hs⟩

/-- A block that holds a step of a script. -/
def OpBlk (w : World) (b : Nat) : Prop := ∃ c f, w.heap[b]? = some (.cells c 34 f)
/-- Such blocks are as they were. -/
def KeepOps (w w' : World) : Prop := ∀ b, OpBlk w b → w'.heap[b]? = w.heap[b]?
theorem KeepOps.trans {a b c : World} (h : KeepOps a b) (k : KeepOps b c) : KeepOps a c := fun i hi => by
  obtain ⟨x, f, hc⟩ := hi
  have h1 := h i ⟨x, f, hc⟩
  exact (k i ⟨x, f, h1.trans hc⟩).trans h1
theorem Below.keepOps {w w' : World} (hb : Below w.heap.size w w') : KeepOps w w' := fun b hi => by
  obtain ⟨c, f, hc⟩ := hi
  exact hb.block b (heap_lt hc)
theorem Chg.keepOps {P : Nat → Prop} {w w' : World} (hC : Chg P w w') (hP : ∀ b, P b → ¬ OpBlk w b) : KeepOps w w' := fun b hi => by
  have hi' := hi
  obtain ⟨c, f, hc⟩ := hi
  exact hC.block b (heap_lt hc) (fun h => hP b h hi')
theorem Mut.keepOps {mb : Nat} {w w' : World} (hM : Mut mb w w') (hm : ¬ OpBlk w mb) : KeepOps w w' := fun b hi => by
  have hi' := hi
  obtain ⟨c, f, hc⟩ := hi
  exact hM.block b (heap_lt hc) (fun e => hm (by rw [← e]; exact hi'))
theorem own_noOp {w : World} {B : Nat} {t : TypeId} {n s b : Nat} {v : Value} {xs : List Value} (h : w.ownsRow B t s v n xs) (ht : t ≠ 34) (hb : v.ownBlock = some b) : ¬ OpBlk w b := by
  rintro ⟨c, f, hc⟩
  rcases h.2 with ⟨hv, _⟩ | ⟨g, cap, cur, hv, _, hg, _⟩
  · rw [hv] at hb; cases hb
  · rw [hv] at hb
    have e : g = b := Option.some.inj hb
    rw [e] at hg
    rw [hg] at hc
    injection hc with hc
    injection hc with _ h2 _
    exact ht h2
theorem Tray.noOp {B : Nat} {w : World} {v : Value} {ss : List Sd} (h : Tray B w v ss) {b : Nat} (hb : tblk v ss b) : ¬ OpBlk w b := by
  rcases hb with hb | ⟨s, hs, hb⟩
  · exact own_noOp h.hdr (by decide) hb
  · exact own_noOp (h.pay s hs).1 (by decide) hb
theorem Cache.noOp {X : Nat → Prop} {w : World} {mb k N : Nat} (h : Cache X w mb k N) : ¬ OpBlk w mb := by
  obtain ⟨es, clock, hm, _⟩ := h.ents
  rintro ⟨c, f, hc⟩
  rw [hm] at hc; cases hc
/-- What a step of the bench keeps. -/
structure BelR (B : Nat) (w w' : World) : Prop where
  bel : Below B w w'
  ops : KeepOps w w'
theorem BelR.trans {B : Nat} {a b c : World} (h : BelR B a b) (k : BelR B b c) : BelR B a c := ⟨h.bel.trans k.bel, h.ops.trans k.ops⟩
theorem RS.noB {B : Nat} {w : World} {bb sb cb mb k m k2 m2 : Nat} {v1 v2 : Value} {ss ts : List Sd} {pm : Nat} {Z : Nat → Prop} (h : RS B w bb sb cb mb k m k2 m2 v1 ss v2 ts pm Z) : ¬ OpBlk w bb := by
  rintro ⟨c, f, hc⟩
  rw [h.hb] at hc
  injection hc with hc
  injection hc with _ h2 _
  exact absurd h2 (by decide)
/-- What a step of the bench gives. -/
def StepR (B : Nat) (w : World) (bb sb k m k2 m2 : Nat) (ss : List Sd) (v2 : Value) (ts : List Sd) (pm : Nat) (o : KOp) (r : Ending) (w' : World) : Prop :=
  ∃ ans A cb' mb' k' m' v1' ss', r = .returned ans ∧ Spec k m ss o A k' m' ss' ∧ RS B w' bb sb cb' mb' k' m' k2 m2 v1' ss' v2 ts (pm + 1) NoZ ∧ (∀ w2, Chg (PM sb v2 ts) w' w2 → AnsOk w2 ans A) ∧ BelR B w w'
/-- What a step of the model gives. -/
def StepM (B : Nat) (w : World) (bb sb cb mb k m k2 m2 : Nat) (v1 : Value) (ss : List Sd) (v2 : Value) (ts : List Sd) (pm : Nat) (o : KOp) (r : Ending) (w' : World) : Prop :=
  ∃ ans A k2' m2' v2' ts', r = .returned ans ∧ Spec k2 m2 ts o A k2' m2' ts' ∧ RS B w' bb sb cb mb k m k2' m2' v1 ss v2' ts' (pm + 1) NoZ ∧ AnsOk w' ans A ∧ Chg (PM sb v2 ts) w w'
end Go.Proofs.Qxb6500697aDoor
