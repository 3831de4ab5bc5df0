/-
  THE STATE RELATION WHEN A TRAY CHANGES; WHAT IS READ FROM MEMORY THAT IS NOT WRITTEN.
-/
import Derived.Test.Qxb6500697aDoorMR0
namespace Go.Proofs.Qxb6500697aDoor
open Go.RowKit

theorem FRow.chg {P : Nat → Prop} {w w2 : World} {ao : Option Addr} {n : Nat} {f : Nat → Nat} (h : FRow w ao n f) (hC : Chg P w w2) (hn : 0 < n → ∀ b o, ao = some ⟨b, o, none⟩ → ¬ P b) : FRow w2 ao n f := by
  rcases Nat.eq_zero_or_pos n with h0 | h0
  · exact ⟨h.1, fun h1 => by omega⟩
  · exact h.same (fun b o hb hl => hC.block b hl (hn h0 b o hb))
theorem SdRow.chg {P : Nat → Prop} {w w2 : World} {ao : Option Addr} {ss : List Sd} (h : SdRow w ao ss) (hC : Chg P w w2) (hh : ∀ b o, 0 < ss.length → ao = some ⟨b, o, none⟩ → ¬ P b) (hp : ∀ s ∈ ss, 0 < s.pl → ∀ b o, s.pa = some ⟨b, o, none⟩ → ¬ P b) : SdRow w2 ao ss := by
  refine ⟨fun h0 => ?_, fun s hs => { h.ok s hs with pay := (h.ok s hs).pay.chg hC (fun h1 => hp s hs h1) }⟩
  obtain ⟨b, ha, hr⟩ := h.row h0
  refine ⟨b, ha, fun j hj => ?_⟩
  obtain ⟨r0, r1, r2, r3⟩ := hr j hj
  have e : w2.heap[b]? = w.heap[b]? := hC.block b (cell_lt r0) (hh b 0 h0 ha)
  have c : ∀ i u, w.cell? ⟨b, i, none⟩ = some u → w2.cell? ⟨b, i, none⟩ = some u := fun i u hu => (World.cell?_of_block (a := ⟨b, i, none⟩) e).trans hu
  exact ⟨c _ _ r0, c _ _ r1, c _ _ r2, c _ _ r3⟩
theorem ZRow.chg {P : Nat → Prop} {w w2 : World} {ao : Option Addr} {n : Nat} {f : Nat → Int} (h : ZRow w ao n f) (hC : Chg P w w2) (hn : ∀ b o, 0 < n → ao = some ⟨b, o, none⟩ → ¬ P b) : ZRow w2 ao n f := fun h0 => by
  obtain ⟨b, o, ha, hc⟩ := h h0
  refine ⟨b, o, ha, fun i hi => ?_⟩
  exact (World.cell?_of_block (a := ⟨b, o + i, none⟩) (hC.block b (cell_lt (hc i hi)) (hn b o h0 ha))).trans (hc i hi)

theorem Cache.moveX {X X' : Nat → Prop} {w w' : World} {mb k N : Nat} (h : Cache X w mb k N) (hm : ¬ X mb) (hk : ∀ b, ¬ X b → b < w.heap.size → w'.heap[b]? = w.heap[b]?) (hX : ∀ b, X' b → X b ∨ w.heap.size ≤ b) : Cache X' w' mb k N := by
  obtain ⟨es, clock, h1, h2, h3⟩ := h.ents
  refine ⟨es, clock, (hk mb hm h.lt).trans h1, h2, h3.1, fun x hx => ?_⟩
  obtain ⟨fam, r, H, c, q1, q2, q3, q4, q5, q6, q7⟩ := h3.2 x hx
  have q8 := q7.mono (F' := fun b => ¬ X b ∧ ¬ X' b) (fun b hlt hn => ⟨hn, fun hx' => by
    rcases hX b hx' with h5 | h5
    · exact hn h5
    · omega⟩)
  have q9 := q8.keep (w' := w') (fun b hn hlt => hk b hn.1 hlt)
  exact ⟨fam, r, H, c, q1, q2, q3, q4, q5, q6, q9.mono (fun b _ hn => hn.2)⟩

section
variable {B : Nat} {w0 w : World} {bb sb cb mb k m k2 m2 : Nat} {v1 v2 v' : Value} {ss ts ss' : List Sd} {pm pm' : Nat} {Z : Nat → Prop}
/-- The bench's tray changed. -/
theorem RS.tray1 (h : RS B w0 bb sb cb mb k m k2 m2 v1 ss v2 ts pm Z) (hsz : w0.heap.size ≤ w.heap.size) (hbb : w.heap[bb]? = some (.cells #[.pointer (some ⟨cb, 0, none⟩), v'] 81 (0, 0)))
    (hk : ∀ b, b < w0.heap.size → b ≠ bb → ¬ tblk v1 ss b → w.heap[b]? = w0.heap[b]?) (hT : Tray B w v' ss') (hn : ∀ b, tblk v' ss' b → tblk v1 ss b ∨ w0.heap.size ≤ b) (hl : ss'.length ≤ 64) (hp : ∀ s ∈ ss', s.pl ≤ pm') (hpm : pm ≤ pm') :
    RS B w bb sb cb mb k m k2 m2 v' ss' v2 ts pm' Z := by
  have hlt := h.xlt
  have sub : ∀ b, XS bb sb v' ss' v2 ts Z b → XS bb sb v1 ss v2 ts Z b ∨ w0.heap.size ≤ b := fun b hb => by
    rcases hb with h3 | h3 | h3 | h3 | h3
    · exact .inl (.inl h3)
    · exact .inl (.inr (.inl h3))
    · rcases hn b h3 with h4 | h4
      · exact .inl (.inr (.inr (.inl h4)))
      · exact .inr h4
    · exact .inl (.inr (.inr (.inr (.inl h3))))
    · exact .inl (.inr (.inr (.inr (.inr h3))))
  have nX : ∀ b, ¬ XS bb sb v1 ss v2 ts Z b → b ≠ bb ∧ ¬ tblk v1 ss b := fun b hb => ⟨fun e => hb (.inl e), fun e => hb (.inr (.inr (.inl e)))⟩
  have hcx : ∀ b, ¬ XS bb sb v1 ss v2 ts Z b → b < w0.heap.size → w.heap[b]? = w0.heap[b]? := fun b hb hl => hk b hl (nX b hb).1 (nX b hb).2
  have nn : ∀ b, b < w0.heap.size → ¬ tblk v1 ss b → ¬ tblk v' ss' b := fun b hb h1 h2 => by
    rcases hn b h2 with h3 | h3
    · exact h1 h3
    · omega
  have hbl := heap_lt h.hb
  have hsl := heap_lt h.hs
  refine ⟨hbb, (hk sb hsl (Ne.symm h.ne) h.nb1.2).trans h.hs, hT, h.t2.keep (fun b hb => hk b (h.t2.lt hb).2 (fun e => h.nb2.1 (by rw [← e]; exact hb)) (fun h1 => h.dt b h1 hb)), hl, h.l2, hp, fun s hs => Nat.le_trans (h.p2 s hs) hpm, ?_, ?_, fun hm => ?_, h.ge, h.ne, ⟨nn bb hbl h.nb1.1, nn sb hsl h.nb1.2⟩, h.nb2, fun b hb h2 => ?_, fun b hb => ?_, h.g2⟩
  · exact (h.codec.mono (F' := fun b => (B ≤ b ∧ ¬ XS bb sb v1 ss v2 ts Z b) ∧ ¬ XS bb sb v' ss' v2 ts Z b) (fun b hbs hF => ⟨hF, fun hx => by
      rcases sub b hx with h3 | h3
      · exact hF.2 h3
      · omega⟩)).keep (fun b hF hlt => hcx b hF.1.2 hlt) |>.mono (fun b _ hF => ⟨hF.1.1, hF.2⟩)
  · exact h.cache.moveX h.noMb hcx sub
  · rcases sub mb hm with h3 | h3
    · exact h.noMb h3
    · have := h.cache.lt; omega
  · rcases hn b hb with h3 | h3
    · exact h.dt b h3 h2
    · have := (h.t2.lt h2).2; omega
  · obtain ⟨z1, z2, z3, z4, z5, z6⟩ := h.hz b hb
    exact ⟨Nat.lt_of_lt_of_le z1 hsz, z2, z3, z4, nn b z1 z5, z6⟩
/-- The model's tray, or its numbers, changed. -/
theorem RS.tray2 {k2' m2' : Nat} {ts' : List Sd} (h : RS B w0 bb sb cb mb k m k2 m2 v1 ss v2 ts pm Z) (hsz : w0.heap.size ≤ w.heap.size) (hbb : w.heap[sb]? = some (.cells #[.int .i64 (k2' : Int), .int .i64 (m2' : Int), v'] 83 (0, 0)))
    (hk : ∀ b, b < w0.heap.size → b ≠ sb → ¬ tblk v2 ts b → w.heap[b]? = w0.heap[b]?) (hT : Tray B w v' ts') (hn : ∀ b, tblk v' ts' b → tblk v2 ts b ∨ w0.heap.size ≤ b) (hl : ts'.length ≤ 64) (hp : ∀ s ∈ ts', s.pl ≤ pm') (hpm : pm ≤ pm') (hg : 1 ≤ k2' ∧ 1 ≤ m2' ∧ k2' + m2' ≤ 16) :
    RS B w bb sb cb mb k m k2' m2' v1 ss v' ts' pm' Z := by
  have hlt := h.xlt
  have sub : ∀ b, XS bb sb v1 ss v' ts' Z b → XS bb sb v1 ss v2 ts Z b ∨ w0.heap.size ≤ b := fun b hb => by
    rcases hb with h3 | h3 | h3 | h3 | h3
    · exact .inl (.inl h3)
    · exact .inl (.inr (.inl h3))
    · exact .inl (.inr (.inr (.inl h3)))
    · rcases hn b h3 with h4 | h4
      · exact .inl (.inr (.inr (.inr (.inl h4))))
      · exact .inr h4
    · exact .inl (.inr (.inr (.inr (.inr h3))))
  have hcx : ∀ b, ¬ XS bb sb v1 ss v2 ts Z b → b < w0.heap.size → w.heap[b]? = w0.heap[b]? := fun b hb hl => hk b hl (fun e => hb (.inr (.inl e))) (fun e => hb (.inr (.inr (.inr (.inl e)))))
  have nn : ∀ b, b < w0.heap.size → ¬ tblk v2 ts b → ¬ tblk v' ts' b := fun b hb h1 h2 => by
    rcases hn b h2 with h3 | h3
    · exact h1 h3
    · omega
  have hbl := heap_lt h.hb
  have hsl := heap_lt h.hs
  refine ⟨(hk bb hbl h.ne h.nb2.1).trans h.hb, hbb, h.t1.keep (fun b hb => hk b (h.t1.lt hb).2 (fun e => h.nb1.2 (by rw [← e]; exact hb)) (fun h1 => h.dt b hb h1)), hT, h.l1, hl, fun s hs => Nat.le_trans (h.p1 s hs) hpm, hp, ?_, ?_, fun hm => ?_, h.ge, h.ne, h.nb1, ⟨nn bb hbl h.nb2.1, nn sb hsl h.nb2.2⟩, fun b hb h2 => ?_, fun b hb => ?_, hg⟩
  · exact (h.codec.mono (F' := fun b => (B ≤ b ∧ ¬ XS bb sb v1 ss v2 ts Z b) ∧ ¬ XS bb sb v1 ss v' ts' Z b) (fun b hbs hF => ⟨hF, fun hx => by
      rcases sub b hx with h3 | h3
      · exact hF.2 h3
      · omega⟩)).keep (fun b hF hlt => hcx b hF.1.2 hlt) |>.mono (fun b _ hF => ⟨hF.1.1, hF.2⟩)
  · exact h.cache.moveX h.noMb hcx sub
  · rcases sub mb hm with h3 | h3
    · exact h.noMb h3
    · have := h.cache.lt; omega
  · rcases hn b h2 with h3 | h3
    · exact h.dt b hb h3
    · have := (h.t1.lt hb).2; omega
  · obtain ⟨z1, z2, z3, z4, z5, z6⟩ := h.hz b hb
    exact ⟨Nat.lt_of_lt_of_le z1 hsz, z2, z3, z4, z5, nn b z1 z6⟩
end
end Go.Proofs.Qxb6500697aDoor
