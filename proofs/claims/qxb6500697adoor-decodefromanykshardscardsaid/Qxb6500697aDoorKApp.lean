/-
  A SLICE OF SHARDS THAT GROWS BY append; THE WALK OF Missing.
-/
import Derived.Test.Qxb6500697aDoorKConv
import Derived.Test.Qxb6500697aDoorKCopies
namespace Go.Proofs.Qxb6500697aDoor
open Go.RowKit

theorem flat4 (ss : List Sd) (j i : Nat) (hj : j < ss.length) (hi : i < 4) : (ss.flatMap Sd.cells)[j * 4 + i]? = (ss[j]).cells[i]? := by
  induction ss generalizing j with
  | nil => simp at hj
  | cons t ts ih =>
    have hl : t.cells.length = 4 := rfl
    cases j with
    | zero =>
      rw [List.flatMap_cons, List.getElem?_append_left (by rw [hl]; omega)]
      simp
    | succ j =>
      rw [List.flatMap_cons, List.getElem?_append_right (by rw [hl]; omega), hl, show (j + 1) * 4 + i - 4 = j * 4 + i by omega, ih j (by simpa using hj)]
      simp
theorem flat4_len (ss : List Sd) : (ss.flatMap Sd.cells).length = ss.length * 4 := by
  induction ss with
  | nil => rfl
  | cons t ts ih =>
    have hl : t.cells.length = 4 := rfl
    rw [List.flatMap_cons, List.length_append, ih, hl, List.length_cons]
    omega

/-- The shards lie in a slice that is owned from B on; their payloads lie elsewhere. -/
structure SOut (B : Nat) (w : World) (v : Value) (ss : List Sd) : Prop where
  own : w.ownsRow B 60 4 v ss.length (ss.flatMap Sd.cells)
  ok : ∀ s ∈ ss, SdOk w s ∧ (0 < s.pl → ∀ b o, s.pa = some ⟨b, o, none⟩ → v.ownBlock ≠ some b)

theorem SOut.nil (B : Nat) (w : World) : SOut B w (.slice none 0 0) [] := ⟨by simpa using World.ownsRow_nil w B 60 4, by simp⟩
theorem SOut.below {B : Nat} {w w' : World} {v : Value} {ss : List Sd} (h : SOut B w v ss) (hb : Below w.heap.size w w') : SOut B w' v ss :=
  ⟨own_below h.own hb, fun s hs => ⟨(h.ok s hs).1.keeps (Below.keeps hb), (h.ok s hs).2⟩⟩
theorem SdOk.blocks {w w' : World} {s : Sd} (h : SdOk w s) (hk : 0 < s.pl → ∀ b o, s.pa = some ⟨b, o, none⟩ → b < w.heap.size → w'.heap[b]? = w.heap[b]?) : SdOk w' s := by
  refine { h with pay := ?_ }
  rcases Nat.eq_zero_or_pos s.pl with h0 | h0
  · exact ⟨h.pay.1, fun h1 => by omega⟩
  · exact h.pay.same (hk h0)
theorem FRow.at_lt {w : World} {ao : Option Addr} {m : Nat} {s : Nat → Nat} (h : FRow w ao m s) (h0 : 0 < m) {b o : Nat} (ha : ao = some ⟨b, o, none⟩) : b < w.heap.size := by
  obtain ⟨b', o', h1, h2⟩ := h.2 h0
  rw [ha] at h1
  have h3 : b = b' := congrArg (fun x : Option Addr => (x.getD ⟨0, 0, none⟩).block) h1
  rw [h3]
  exact cell_lt (h2 0 h0)
theorem SOut.push {B : Nat} {W w' : World} {v v' : Value} {ss : List Sd} {s : Sd} (h : SOut B W v ss) (hok : SdOk W s) (hfar : 0 < s.pl → ∀ b o, s.pa = some ⟨b, o, none⟩ → v.ownBlock ≠ some b)
    (h2 : w'.ownsRow B 60 4 v' (ss.length + 1) (ss.flatMap Sd.cells ++ s.cells)) (h3 : W.grownBy w' v.ownBlock) (h5 : v'.ownBlock = v.ownBlock ∨ v'.ownBlock = some W.heap.size) : SOut B w' v' (ss ++ [s]) := by
  have ne : ∀ b, b < W.heap.size → v.ownBlock ≠ some b → v'.ownBlock ≠ some b := by
    intro b hb hne
    rcases h5 with h5 | h5
    · rw [h5]; exact hne
    · rw [h5]; intro e; have e : W.heap.size = b := by simpa using e
      omega
  refine ⟨by simpa using h2, fun x hx => ?_⟩
  have hx' : SdOk W x ∧ (0 < x.pl → ∀ b o, x.pa = some ⟨b, o, none⟩ → v.ownBlock ≠ some b) := by
    rcases List.mem_append.1 hx with hx | hx
    · exact h.ok x hx
    · have : x = s := by simpa using hx
      rw [this]; exact ⟨hok, hfar⟩
  exact ⟨hx'.1.blocks (fun h0 b o he hl => h3.block b hl (fun e => hx'.2 h0 b o he e.symm)), fun h0 b o he => ne b (hx'.1.pay.at_lt h0 he) (hx'.2 h0 b o he)⟩

theorem SOut.form {B : Nat} {w : World} {v : Value} {ss : List Sd} (h : SOut B w v ss) : ∃ ao cap, v = .slice ao ss.length cap ∧ SdRow w ao ss := by
  rcases h.own.2 with ⟨hv, h0⟩ | ⟨g, cap, cur, hv, hb, hg, hle, hm, hs, ht⟩
  · exact ⟨none, 0, by rw [hv, h0], fun h => by omega, fun s hs => (h.ok s hs).1⟩
  · refine ⟨some ⟨g, 0, none⟩, cap, hv, fun _ => ⟨g, rfl, fun j hj => ?_⟩, fun s hs => (h.ok s hs).1⟩
    have c : ∀ i y, i < 4 → (ss[j]).cells[i]? = some y → w.cell? ⟨g, j * 4 + i, none⟩ = some y := by
      intro i y hi hy
      have := h.own.cells (g := g) (by rw [hv]; rfl) (j * 4 + i) y ((flat4 ss j i hj hi).trans hy)
      have e : (⟨g, 0, none⟩ : Addr).add (j * 4 + i) = ⟨g, 0 + (j * 4 + i), none⟩ := by unfold Addr.add; split <;> simp_all
      rwa [e, Nat.zero_add] at this
    exact ⟨c 0 _ (by omega) rfl, c 1 _ (by omega) rfl, c 2 _ (by omega) rfl, c 3 _ (by omega) rfl⟩

theorem SOut.of_rowIs {B : Nat} {w : World} {H : Nat} {ss : List Sd} {f : Nat → Sd} (h : w.rowIs H 60 (4 * ss.length) (sdc f)) (hB : B ≤ H) (hl : ss.length ≤ 65536) (hf : ∀ j (hj : j < ss.length), f j = ss[j]) (hok : ∀ s ∈ ss, SdOk w s ∧ (0 < s.pl → ∀ b o, s.pa = some ⟨b, o, none⟩ → b ≠ H)) : SOut B w (.slice (some ⟨H, 0, none⟩) ss.length ss.length) ss := by
  obtain ⟨c, h1, h2, h3⟩ := h
  refine ⟨⟨flat4_len ss, .inr ⟨H, ss.length, c, rfl, hB, h1, Nat.le_refl _, by unfold maxLen; omega, by omega, ?_⟩⟩, fun s hs => ⟨(hok s hs).1, fun h0 b o he e => (hok s hs).2 h0 b o he (by simpa [Value.ownBlock] using e.symm)⟩⟩
  refine List.ext_getElem? (fun p => ?_)
  rw [List.getElem?_take]
  by_cases hp : p < ss.length * 4
  · rw [if_pos hp, Array.getElem?_toList, h3 p (by omega)]
    have e : p = p / 4 * 4 + p % 4 := by omega
    have hj : p / 4 < ss.length := by omega
    rw [e, flat4 ss (p / 4) (p % 4) hj (by omega), ← e]
    have hm : p % 4 = 0 ∨ p % 4 = 1 ∨ p % 4 = 2 ∨ p % 4 = 3 := by omega
    unfold sdc
    rw [hf _ hj]
    rcases hm with hm | hm | hm | hm <;> simp [hm, Sd.cells]
  · rw [if_neg hp, List.getElem?_eq_none (by rw [flat4_len]; omega)]

theorem wpList_append_sd (W : World) {ops : Array Oper} {rest : List Oper} {o : Oper} {a : Act} {Q : Exit → Act → World → Prop} (hgd : o.guard = none) (s x : Operand)
    (ho : o.op = .call { callee := .builtin .append, args := #[s, x], argTypes := #[36, 36] })
    (B : Nat) (v : Value) (ss : List Sd) (hs : a.eval s = v) (hT : SOut B W v ss) (hB : B ≤ W.heap.size) (hlen : ss.length ≤ 65536)
    (g c : Nat) (hx : a.eval x = .slice (some ⟨g, 0, none⟩) 1 c) (y : Sd) (hblk : W.heap[g]? = some (.cells #[.int .u8 y.g, .int .i64 y.ix, .int .i64 y.ol, .slice y.pa y.pl y.pc] 60 (0, 0)))
    (hok : SdOk W y) (hfar : 0 < y.pl → ∀ b o, y.pa = some ⟨b, o, none⟩ → v.ownBlock ≠ some b)
    (h : ∀ v' w', SOut B w' v' (ss ++ [y]) → W.grownBy w' v.ownBlock → wpList Tryd.prog ops Q rest (a.put o.dst v') w') :
    wpList Tryd.prog ops Q (o :: rest) a W := by
  obtain ⟨i0, hi, hzz⟩ := Option.map_eq_some_iff.1 Tryd.info60
  simp only [Prod.mk.injEq] at hzz
  obtain ⟨hz0, hz1, hz2⟩ := hzz
  refine wpList_append_own_at W hgd s x 36 ho B 60 i0 _ 4 48 Tryd.underlying36 hi hz0 hz1 hz2 rfl (by decide) v ss.length _ hs hT.own ⟨g, 0, none⟩ 1 c y.cells hx (by rfl)
    (by
      intro j y' hj
      have e : (⟨g, 0, none⟩ : Addr).add j = ⟨g, 0 + j, none⟩ := by unfold Addr.add; split <;> simp_all
      rw [e]
      simp only [World.cell?, hblk, Nat.zero_add]
      simpa [Sd.cells] using hj) (by
      intro u hu
      simp [Sd.cells] at hu
      rcases hu with rfl | rfl | rfl | rfl <;> rfl) (by unfold maxLen; omega) (by omega) hB ?_
  intro v' w' h2 h3 _ h5
  exact h v' w' (hT.push hok hfar h2 h3 h5) h3

theorem CpRel.sout {w wr : World} {ss : List Sd} {f : Nat → Sd} {ao : Option Addr} (h : CpRel w wr ss f ss.length) (hS : SdRow w ao ss) (hl : ss.length ≤ 65536) : SOut w.heap.size wr (.slice (some ⟨w.heap.size, 0, none⟩) ss.length ss.length) (cps f ss.length) := by
  have e : (cps f ss.length).length = ss.length := by simp [cps]
  have h0 := SOut.of_rowIs (B := w.heap.size) (H := w.heap.size) (ss := cps f ss.length) (f := f) (w := wr) (by rw [e]; exact h.row.congr (fun p hp => by rw [if_pos hp])) (Nat.le_refl _) (by rw [e]; exact hl) (fun j hj => by simp [cps]) (fun s hs => ⟨(h.sdrow hS).ok s hs, fun hp b o he => ?_⟩)
  · rw [e] at h0; exact h0
  · obtain ⟨i, hi, rfl⟩ := List.mem_map.1 hs
    obtain ⟨g, q1, q2, _⟩ := h.own i (List.mem_range.1 hi) hp
    rw [he] at q1
    have : b = g := congrArg (fun x : Option Addr => (x.getD ⟨0, 0, none⟩).block) q1
    omega
end Go.Proofs.Qxb6500697aDoor
