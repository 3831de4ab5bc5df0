/-
  THE MODEL IN MEMORY.
-/
import Derived.Test.Qxb6500698aGreatDoorZT3
import Derived.Test.Qxb6500698aGreatDoorFltM
namespace Go.Proofs.Qxb6500698aGreatDoor
open Go.RowKit

/-- Where the model lies. -/
structure Ml where
  sb : Nat
  fa : Option Addr
  fc : Nat
  oa : Option Addr
  oc : Nat
  ia : Option Addr
  ic : Nat
/-- The block of an address. -/
def blk (a : Option Addr) : Option Nat := a.map (·.block)
theorem own_blk (a : Option Addr) (n c : Nat) : (Value.slice a n c).ownBlock = blk a := by cases a <;> rfl
/-- What a step of the model may write. -/
def MW (l : Ml) (b : Nat) : Prop := b = l.sb ∨ blk l.fa = some b ∨ blk l.oa = some b
/-- The block of what is still to be read. -/
def MI (l : Ml) (s : ZSt) (b : Nat) : Prop := s.I ≠ [] ∧ ∃ o, l.ia = some ⟨b, o, none⟩
structure ZM (B : Nat) (w : World) (l : Ml) (s : ZSt) : Prop where
  at_ : w.heap[l.sb]? = some (.cells #[.slice l.fa s.F.length l.fc, .slice l.oa s.O.length l.oc, .int .i64 (s.lim : Int), .int .u8 (errCode s.oe : Int), .slice l.ia s.I.length l.ic, .int .u8 (errCode s.ie : Int)] 52 (0, 0))
  ownF : OwnB w B (.slice l.fa s.F.length l.fc) s.F
  ownO : OwnB w B (.slice l.oa s.O.length l.oc) s.O
  rowI : BRow w l.ia s.I
  ic1 : s.I.length ≤ l.ic
  ic2 : l.ic ≤ 9223372036854775807
  il : s.I.length ≤ 65536
  ol : s.O.length ≤ s.lim
  lim : s.lim ≤ 1024
  fb : ∀ x ∈ s.F, x < 256
  ob : ∀ x ∈ s.O, x < 256
  hB : B ≤ l.sb
  nF : blk l.fa ≠ some l.sb
  nO : blk l.oa ≠ some l.sb
  nFO : ∀ b, blk l.fa = some b → blk l.oa ≠ some b
  nI : ∀ b, MI l s b → b ≠ l.sb ∧ blk l.fa ≠ some b ∧ blk l.oa ≠ some b
section
variable {B : Nat} {w w' w1 w2 : World} {l l1 l2 : Ml} {s s1 s2 : ZSt}
theorem ZM.rowF (h : ZM B w l s) : BRow w l.fa s.F ∧ s.F.length ≤ l.fc ∧ l.fc ≤ 9223372036854775807 := by
  obtain ⟨ao, cap, h1, h2, h3, h4, _⟩ := BRow.of_owns h.ownF h.fb
  obtain ⟨rfl, _, rfl⟩ : l.fa = ao ∧ s.F.length = s.F.length ∧ l.fc = cap := by simpa using h1
  exact ⟨h4, h2, by unfold maxLen at h3; omega⟩
theorem ZM.rowO (h : ZM B w l s) : BRow w l.oa s.O ∧ s.O.length ≤ l.oc ∧ l.oc ≤ 9223372036854775807 := by
  obtain ⟨ao, cap, h1, h2, h3, h4, _⟩ := BRow.of_owns h.ownO h.ob
  obtain ⟨rfl, _, rfl⟩ : l.oa = ao ∧ s.O.length = s.O.length ∧ l.oc = cap := by simpa using h1
  exact ⟨h4, h2, by unfold maxLen at h3; omega⟩
theorem ZM.cell (h : ZM B w l s) (i : Nat) : w.cell? ⟨l.sb, i, none⟩ = (#[Value.slice l.fa s.F.length l.fc, .slice l.oa s.O.length l.oc, .int .i64 (s.lim : Int), .int .u8 (errCode s.oe : Int), .slice l.ia s.I.length l.ic, .int .u8 (errCode s.ie : Int)])[i]? := by simp [World.cell?, h.at_]
theorem ZM.fr (h : ZM B w l s) (i : Nat) : w.frozen? ⟨l.sb, i, none⟩ = false := by simp [World.frozen?, h.at_]
theorem ZM.lt (h : ZM B w l s) : l.sb < w.heap.size := heap_lt h.at_
theorem ZM.flt (h : ZM B w l s) {b : Nat} (hb : blk l.fa = some b) : B ≤ b ∧ b < w.heap.size := h.ownF.lt b (by rw [own_blk]; exact hb)
theorem ZM.olt (h : ZM B w l s) {b : Nat} (hb : blk l.oa = some b) : B ≤ b ∧ b < w.heap.size := h.ownO.lt b (by rw [own_blk]; exact hb)
theorem ZM.mlt (h : ZM B w l s) {b : Nat} (hb : MW l b) : B ≤ b ∧ b < w.heap.size := by
  rcases hb with rfl | hb | hb
  · exact ⟨h.hB, h.lt⟩
  · exact h.flt hb
  · exact h.olt hb
theorem ZM.ilt (h : ZM B w l s) {b : Nat} (hb : MI l s b) : b < w.heap.size := by
  obtain ⟨h0, o, ha⟩ := hb
  exact h.rowI.at_lt h0 ha
theorem ZM.keep (h : ZM B w l s) (hk : ∀ b, MW l b ∨ MI l s b → w'.heap[b]? = w.heap[b]?) (hs : w.heap.size ≤ w'.heap.size) : ZM B w' l s :=
  { h with
    at_ := (hk _ (.inl (.inl rfl))).trans h.at_
    ownF := own_same h.ownF (fun b hb => hk b (.inl (.inr (.inl (by rw [own_blk] at hb; exact hb))))) hs
    ownO := own_same h.ownO (fun b hb => hk b (.inl (.inr (.inr (by rw [own_blk] at hb; exact hb))))) hs
    rowI := brow_keep h.rowI (fun h0 b o ha => hk b (.inr ⟨h0, o, ha⟩)) }
theorem ZM.below (h : ZM B w l s) (hb : Below w.heap.size w w') : ZM B w' l s := h.keep (fun b hx => hb.block b (by
  rcases hx with hx | hx
  · exact (h.mlt hx).2
  · exact h.ilt hx)) hb.size
/-- From w to w' the model went from l to l', and holds s'. -/
structure MSt (B : Nat) (w w' : World) (l l' : Ml) (s s' : ZSt) : Prop where
  zm : ZM B w' l' s'
  chg : Chg (MW l) w w'
  sb : l'.sb = l.sb
  new : ∀ b, MW l' b ∨ MI l' s' b → MW l b ∨ MI l s b ∨ w.heap.size ≤ b
  nw : ∀ b, MW l' b → MW l b ∨ w.heap.size ≤ b
theorem MSt.refl (h : ZM B w l s) : MSt B w w l l s s := ⟨h, Chg.refl _ _, rfl, fun b hb => by rcases hb with hb | hb; exact .inl hb; exact .inr (.inl hb), fun _ hb => .inl hb⟩
theorem MSt.trans (h : MSt B w w1 l l1 s s1) (k : MSt B w1 w2 l1 l2 s1 s2) : MSt B w w2 l l2 s s2 := by
  have hs := h.chg.size
  refine ⟨k.zm, h.chg.then k.chg h.nw, k.sb.trans h.sb, fun b hb => ?_, fun b hb => ?_⟩
  · rcases k.new b hb with h1 | h1 | h1
    · exact h.new b (.inl h1)
    · exact h.new b (.inr h1)
    · exact .inr (.inr (by omega))
  · rcases k.nw b hb with h1 | h1
    · exact h.nw b h1
    · exact .inr (by omega)
theorem MSt.below (h : MSt B w w1 l l1 s s1) (hb : Below w1.heap.size w1 w2) : MSt B w w2 l l1 s s1 := h.trans ⟨h.zm.below hb, Below.chg hb _, rfl, fun b hx => by rcases hx with hx | hx; exact .inl hx; exact .inr (.inl hx), fun _ hx => .inl hx⟩
theorem MSt.start (h : ZM B w l s) (hb : Below w.heap.size w w1) : MSt B w w1 l l s s := (MSt.refl h).below hb

/-- The reader's error turns, and nothing else. -/
theorem ZM.ie (h : ZM B w l s) (ie : Option Nat) : MSt B w (w.setCell ⟨l.sb, 5, none⟩ (.int .u8 (errCode ie : Int))) l l s { s with ie := ie } := by
  have hO : Only l.sb w (w.setCell ⟨l.sb, 5, none⟩ (.int .u8 (errCode ie : Int))) := (Only.refl _ _).setCell _ _
  refine ⟨{ h with at_ := ?_, ownF := own_same h.ownF (fun b hb => hO.block b (fun e => h.nF (by rw [own_blk] at hb; rw [hb, e]))) (Nat.le_of_eq hO.size.symm), ownO := own_same h.ownO (fun b hb => hO.block b (fun e => h.nO (by rw [own_blk] at hb; rw [hb, e]))) (Nat.le_of_eq hO.size.symm), rowI := brow_keep h.rowI (fun h0 b o ha => hO.block b (h.nI b ⟨h0, o, ha⟩).1) }, Only.chg hO (.inl rfl), rfl, fun b hb => by rcases hb with hb | hb; exact .inl hb; exact .inr (.inl hb), fun _ hb => .inl hb⟩
  have h1 := h.at_
  simp [World.setCell, Array.getElem?_modify, h1]
/-- The writer's error turns, and nothing else. -/
theorem ZM.oe (h : ZM B w l s) (oe : Option Nat) : MSt B w (w.setCell ⟨l.sb, 3, none⟩ (.int .u8 (errCode oe : Int))) l l s { s with oe := oe } := by
  have hO : Only l.sb w (w.setCell ⟨l.sb, 3, none⟩ (.int .u8 (errCode oe : Int))) := (Only.refl _ _).setCell _ _
  refine ⟨{ h with at_ := ?_, ownF := own_same h.ownF (fun b hb => hO.block b (fun e => h.nF (by rw [own_blk] at hb; rw [hb, e]))) (Nat.le_of_eq hO.size.symm), ownO := own_same h.ownO (fun b hb => hO.block b (fun e => h.nO (by rw [own_blk] at hb; rw [hb, e]))) (Nat.le_of_eq hO.size.symm), rowI := brow_keep h.rowI (fun h0 b o ha => hO.block b (h.nI b ⟨h0, o, ha⟩).1) }, Only.chg hO (.inl rfl), rfl, fun b hb => by rcases hb with hb | hb; exact .inl hb; exact .inr (.inl hb), fun _ hb => .inl hb⟩
  have h1 := h.at_
  simp [World.setCell, Array.getElem?_modify, h1]
/-- What is still to be read turns. -/
theorem ZM.inp (h : ZM B w l s) {a : Option Addr} {c : Nat} {I : List Nat} (hr : BRow w a I) (h1 : I.length ≤ c) (h2 : c ≤ 9223372036854775807) (h3 : I.length ≤ 65536) (ha : I ≠ [] → ∀ b o, a = some ⟨b, o, none⟩ → (MI l s b ∨ ¬ MW l b)) {w0 : World} (hw : Below w0.heap.size w0 w) (hlb : I ≠ [] → ∀ b o, a = some ⟨b, o, none⟩ → MI l s b ∨ w0.heap.size ≤ b) : MSt B w0 (w.setCell ⟨l.sb, 4, none⟩ (.slice a I.length c)) l { l with ia := a, ic := c } s { s with I := I } := by
  have hO : Only l.sb w (w.setCell ⟨l.sb, 4, none⟩ (.slice a I.length c)) := (Only.refl _ _).setCell _ _
  have hn : ∀ b, I ≠ [] ∧ (∃ o, a = some ⟨b, o, none⟩) → b ≠ l.sb ∧ blk l.fa ≠ some b ∧ blk l.oa ≠ some b := fun b hb => by
    obtain ⟨h0, o, he⟩ := hb
    rcases ha h0 b o he with h4 | h4
    · exact h.nI b h4
    · exact ⟨fun e => h4 (.inl e), fun e => h4 (.inr (.inl e)), fun e => h4 (.inr (.inr e))⟩
  refine ⟨{ h with at_ := ?_, ownF := own_same h.ownF (fun b hb => hO.block b (fun e => h.nF (by rw [own_blk] at hb; rw [hb, e]))) (Nat.le_of_eq hO.size.symm), ownO := own_same h.ownO (fun b hb => hO.block b (fun e => h.nO (by rw [own_blk] at hb; rw [hb, e]))) (Nat.le_of_eq hO.size.symm), rowI := brow_keep hr (fun h0 b o he => hO.block b (hn b ⟨h0, o, he⟩).1), ic1 := h1, ic2 := h2, il := h3, nI := fun b hb => hn b hb }, (Below.chg hw _).trans (Only.chg hO (.inl rfl)), rfl, fun b hb => ?_, fun _ hb => .inl hb⟩
  · have h1 := h.at_
    simp [World.setCell, Array.getElem?_modify, h1]
  · rcases hb with hb | hb
    · exact .inl hb
    · obtain ⟨h0, o, he⟩ := hb
      exact .inr (hlb h0 b o he)
end

set_option maxRecDepth 100000 in
set_option maxHeartbeats 1000000 in
theorem copyOf_any (bs : List Nat) (c : Nat) (a : Option Addr) (w : World) (hrow : BRow w a bs) (hl : bs.length ≤ 140737488355328) :
    Calls Tryz.prog 44 #[.slice a bs.length c] w fun r w' => ∃ a' c', r = .returned (.slice a' bs.length c') ∧ BRow w' a' bs ∧ bs.length ≤ c' ∧ c' ≤ 9223372036854775807 ∧ (bs ≠ [] → ∀ b o, a' = some ⟨b, o, none⟩ → w.heap.size ≤ b) ∧ Below w.heap.size w w' := by
  have HOw : Hid (OwnB w w.heap.size (.slice none 0 0) [] ∧ BRow w a bs) := ⟨by simpa [OwnB] using World.ownsRow_nil w w.heap.size 5 1, hrow⟩
  have hsum : ([] : List Nat).length + bs.length ≤ 140737488355328 := by simpa using hl
  have hnb : w.heap.size ≤ w.heap.size := Nat.le_refl _
  have HF : Hid (∀ V v', OwnB V w.heap.size v' ([] ++ bs) → w.grownBy V (Value.ownBlock (.slice none 0 0)) → ∃ a' c', v' = .slice a' bs.length c' ∧ BRow V a' bs ∧ bs.length ≤ c' ∧ c' ≤ 9223372036854775807 ∧ (bs ≠ [] → ∀ b o, a' = some ⟨b, o, none⟩ → w.heap.size ≤ b) ∧ Below w.heap.size w V) := fun V v' h1 h2 => by
    obtain ⟨ya, yc, hy, hc1, hc2, hyr, hyb, _⟩ := BRow.of_owns (bs := bs) h1 hrow.lt
    exact ⟨ya, yc, hy, hyr, hc1, by unfold maxLen at hc2; omega, fun _ b o he => (hyb b o he).1, ⟨h2.os, h2.tape, h2.output, h2.size, fun b hb => h2.block b hb (fun hx => by cases hx)⟩⟩
  clear hrow hl
  go_enter Tryz.func44, Tryz.ntmps44
  go_wp2_with (at_builtin; refine wpList_append_bytes _ rfl _ _ rfl w.heap.size (.slice none 0 0) [] bs rfl HOw.out.1 a c rfl HOw.out.2 hsum hnb ?_; intro v' V g1 g2 g3; obtain ⟨ya, yc, hy, hq⟩ := HF.out V v' g1 g2; subst hy; have HQ : Hid _ := hq; clear g1 g2 g3 hq)
  go_ret
  exact ⟨_, _, rfl, HQ.out⟩

set_option maxRecDepth 100000 in
set_option maxHeartbeats 1000000 in
theorem value_any (bs : List Nat) (c : Nat) (a : Option Addr) (w : World) (hrow : BRow w a bs) (hl : bs.length ≤ 8) :
    Calls Tryz.prog 47 #[.slice a bs.length c] w fun r w' => r = .returned (.int .u64 (undig bs : Int)) ∧ w' = w := by
  have HR : Hid (BRow w a bs) := hrow
  obtain ⟨L, hL⟩ : ∃ L, bs.length = L := ⟨_, rfl⟩
  have HC : Hid (∀ i, i < L → ∃ b o, a = some ⟨b, o, none⟩ ∧ w.cell? ⟨b, o + i, none⟩ = some (.int .u8 ((bs.getD i 0 : Nat) : Int)) ∧ bs.getD i 0 < 256) := fun i hi => by
    obtain ⟨b, o, ha, hc⟩ := hrow.row (by intro e; rw [e] at hL; simp at hL; omega)
    have hi' : i < bs.length := by omega
    refine ⟨b, o, ha, hc i hi', hrow.lt _ ?_⟩
    rw [List.getD_eq_getElem?_getD, List.getElem?_eq_getElem hi']
    exact List.getElem_mem hi'
  have HU : Hid (∀ j, j < L → undig (bs.drop j) = bs.getD j 0 + 256 * undig (bs.drop (j + 1))) := fun j hj => undig_drop bs j (by omega)
  have HT : Hid (∀ j, j ≤ L → undig (bs.drop j) < 256 ^ (L - j)) := fun j hj => by
    have h1 := undig_lt (bs.drop j) (fun x hx => hrow.lt x (List.mem_of_mem_drop hx))
    rw [List.length_drop, hL] at h1
    exact h1
  have HE : Hid (undig (bs.drop L) = 0) := by show undig (bs.drop L) = 0; rw [← hL, List.drop_length]; rfl
  have h0 : Hid (undig (bs.drop 0) = undig bs) := rfl
  rw [hL] at hl ⊢
  clear hrow hL
  go_enter Tryz.func47, Tryz.ntmps47
  go_wp2
  go_loop [3, 4] (fun x i => ∃ j u : Nat, j ≤ L ∧ i = .int .i64 ((j : Int) - 1) ∧ x = .int .u64 (u : Int) ∧ u = undig (bs.drop j)) (fun _ i => ((intOf i) + 1).toNat)
  case atStart => exact ⟨L, 0, Nat.le_refl _, rfl, rfl, HE.out.symm⟩
  case round =>
    obtain ⟨j, u, hj, rfl, rfl, hu⟩ := hrel
    cases j with
    | zero =>
      have hu0 : u = undig bs := hu.trans h0.out
      subst hu0
      clear hu
      go_wp2
      go_ret
      exact ⟨rfl, rfl⟩
    | succ k =>
      obtain ⟨b, o, rfl, hc, hd⟩ := HC.out k (by omega)
      have hux := HU.out k (by omega)
      have ht := HT.out k (by omega)
      have ht2 := HT.out (k + 1) (by omega)
      rw [← hu] at hux ht2
      have hp : 256 ^ (L - k) ≤ 256 ^ 8 := Nat.pow_le_pow_right (by decide) (by omega)
      have hp2 : 256 ^ (L - (k + 1)) ≤ 256 ^ 7 := Nat.pow_le_pow_right (by decide) (by omega)
      generalize hdd : bs.getD k 0 = d at *
      have hk1 : ((k + 1 : Nat) : Int) - 1 = (k : Int) := by omega
      have hw1 : IntKind.u64.wrap ((u : Int) * 256) = (u : Int) * 256 := by simp [IntKind.wrap, IntKind.bits, IntKind.signed]; omega
      have hw2 : IntKind.u64.wrap ((u : Int) * 256 + (d : Int)) = (u : Int) * 256 + (d : Int) := by simp [IntKind.wrap, IntKind.bits, IntKind.signed]; omega
      rw [hk1]
      clear hu hp hp2 ht ht2
      go_wp2
      go_round
      case rel => exact ⟨k, d + 256 * u, by omega, by go_num, by go_num, hux.symm⟩
      case measure => simp [intOf]
end Go.Proofs.Qxb6500698aGreatDoor
