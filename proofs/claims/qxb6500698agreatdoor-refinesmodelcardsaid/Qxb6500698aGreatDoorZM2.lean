/-
  THE MODEL's HELPERS: field, readerShows, write.
-/
import Derived.Test.Qxb6500698aGreatDoorZM
import Derived.Deep.RegionHeld3
namespace Go.Proofs.Qxb6500698aGreatDoor
open Go.RowKit
/-- The bytes of a field. -/
def fld (v : Nat) (n : Int) : List Nat := if cf v n = none then dig v n.toNat else []
theorem fld_lt (v : Nat) (n : Int) : ∀ x ∈ fld v n, x < 256 := by
  intro x hx
  unfold fld at hx
  by_cases h : cf v n = none
  · rw [if_pos h] at hx; exact dig_lt _ _ x hx
  · rw [if_neg h] at hx; cases hx
set_option maxRecDepth 100000 in
set_option maxHeartbeats 1000000 in
theorem field_any (v : Nat) (n : Int) (w : World) (h1 : -9223372036854775808 ≤ n) (h2 : n ≤ 9223372036854775807) (hv : v < 18446744073709551616) :
    Calls Tryz.prog 41 #[.int .u64 v, .int .i64 n] w fun r w' => ∃ a c, r = .returned (.tuple #[.slice a (fld v n).length c, .int .u8 (errCode (cf v n) : Int)]) ∧ BRow w' a (fld v n) ∧ (fld v n).length ≤ c ∧ (∀ b o, a = some ⟨b, o, none⟩ → w.heap.size ≤ b) ∧ Below w.heap.size w w' := by
  have HG : Hid (Calls Tryz.prog 46 #[.int .i64 n] w fun r w' => r = .returned (.bool (okW n)) ∧ Below w.heap.size w w') := goodWidth_any n w h1 h2
  by_cases hok : okW n = true
  · obtain ⟨k, rfl, hk⟩ := okW_nat hok
    rw [hok] at HG
    have HDg : Hid (∀ V, Below w.heap.size w V → Calls Tryz.prog 43 #[.int .u64 v, .int .i64 (k : Int)] V fun r w' => ∃ a c, r = .returned (.tuple #[.slice a k c, .bool (decide (v < 256 ^ k))]) ∧ BRow w' a (dig v k) ∧ k ≤ c ∧ (∀ b o, a = some ⟨b, o, none⟩ → w.heap.size ≤ b) ∧ Below w.heap.size w w') := fun V hV => (digits_any v k V (by omega) hv).mono (fun r w' ⟨v', h3, h4, h5⟩ => by
      obtain ⟨ya, yc, hy, hc1, hc2, hyr, hyb, _⟩ := BRow.of_owns h4 (dig_lt _ _)
      rw [dig_length] at hy hc1
      exact ⟨ya, yc, by rw [h3, hy], hyr, hc1, (fun b o he => Nat.le_trans hV.size (hyb b o he).1), hV.trans (h5.mono hV.size)⟩)
    by_cases hlt : v < 256 ^ k
    · have hcf : cf v (k : Int) = none := by unfold cf; rw [if_pos hok, if_pos (by simpa using hlt)]
      have hfl : fld v (k : Int) = dig v k := by unfold fld; rw [if_pos hcf]; rfl
      rw [hcf, hfl, dig_length]
      rw [decide_eq_true hlt] at HDg
      clear hcf hfl hlt hok
      go_enter Tryz.func41, Tryz.ntmps41
      go_wp2_with fail
      refine Calls.mono HG.out ?_
      rintro r V1 ⟨rfl, hb1⟩
      have HD1 : Hid _ := HDg.out V1 hb1
      clear hb1 HG HDg
      go_wp2_with fail
      refine Calls.mono HD1.out ?_
      rintro r V2 ⟨a, c, rfl, hq⟩
      have HQ : Hid _ := hq
      clear hq HD1
      go_wp2
      go_ret2
      exact ⟨_, _, rfl, HQ.out⟩
    · have hcf : cf v (k : Int) = some 2 := by unfold cf; rw [if_pos hok, if_neg (by simpa using hlt)]
      have hfl : fld v (k : Int) = [] := by unfold fld; rw [if_neg (by rw [hcf]; simp)]
      rw [hcf, hfl]
      rw [decide_eq_false hlt] at HDg
      clear hcf hfl hlt hok
      go_enter Tryz.func41, Tryz.ntmps41
      go_wp2_with fail
      refine Calls.mono HG.out ?_
      rintro r V1 ⟨rfl, hb1⟩
      have HD1 : Hid _ := HDg.out V1 hb1
      clear hb1 HG HDg
      go_wp2_with fail
      refine Calls.mono HD1.out ?_
      rintro r V2 ⟨a, c, rfl, hq⟩
      have HQ : Hid _ := hq.2.2.2
      clear hq HD1
      go_wp2
      go_ret2
      exact ⟨none, 0, rfl, BRow.nil _ _, Nat.le_refl _, (fun b o he => (by cases he)), HQ.out⟩
  · have hok' : okW n = false := by simpa using hok
    have hcf : cf v n = some 1 := by unfold cf; rw [if_neg hok]
    have hfl : fld v n = [] := by unfold fld; rw [if_neg (by rw [hcf]; simp)]
    rw [hcf, hfl]
    rw [hok'] at HG
    clear hcf hfl hok hok'
    go_enter Tryz.func41, Tryz.ntmps41
    go_wp2_with fail
    refine Calls.mono HG.out ?_
    rintro r V1 ⟨rfl, hb1⟩
    have HQ : Hid _ := hb1
    clear hb1 HG
    go_wp2
    go_ret2
    exact ⟨none, 0, rfl, BRow.nil _ _, Nat.le_refl _, (fun b o he => (by cases he)), HQ.out⟩

set_option maxRecDepth 100000 in
theorem retShows {Q : Ending → World → Prop} {V : World} {R : Nat} {a b c d e f : Value} {A : Act} (hA : A.tmps.getD 6 undef = .pointer (some ⟨R, 0, none⟩)) (hD : A.defers = []) (hR : Res V R) (hQ : Q (.returned (.agg #[a, b, c, d, e, f])) (ansW V R a b c d e f)) : bodyPost Tryz.prog Tryz.f45 Q .ret A (ansW V R a b c d e f) := by
  obtain ⟨y0, y1, y2, y3, y4, y5⟩ := ansW_cells (a := a) (b := b) (c := c) (d := d) (e := e) (f := f) hR
  generalize ansW V R a b c d e f = W at *
  refine bodyPost_ret (v := .agg #[a, b, c, d, e, f]) ?_ hD hQ
  have hA' : A.tmps[6]?.getD undef = .pointer (some ⟨R, 0, none⟩) := by simpa using hA
  simp [results, Tryz.results45, go_sem, hA', y0, y1, y2, y3, y4, y5]

set_option maxRecDepth 100000 in
set_option maxHeartbeats 2000000 in
theorem shows_any2 {B : Nat} {w : World} {l : Ml} {s : ZSt} {x n c : Nat} {a : Option Addr} {dat : List Nat} (h : ZM B w l s) (hrow : BRow w a dat) (hn : dat.length = n) (hl : n ≤ 65536) :
    Calls Tryz.prog 45 #[.pointer (some ⟨l.sb, 0, none⟩), .int .u64 (x : Int), .slice a n c] w fun r w' => ∃ a' c', r = .returned (ansV 0 0 s.I.length x a' n c' (errCode s.ie)) ∧ BRow w' a' dat ∧ (dat ≠ [] → ∀ b o, a' = some ⟨b, o, none⟩ → w.heap.size ≤ b) ∧ Below w.heap.size w w' := by
  obtain ⟨W, hW⟩ : ∃ W, w.alloc ans0 = W := ⟨_, rfl⟩
  have hB : Below w.heap.size w W := by rw [← hW]; exact (Below.refl _ _).alloc (Nat.le_refl _) _
  have hRes : Res W w.heap.size := by rw [← hW]; exact Res.new w
  have hsz : W.heap.size = w.heap.size + 1 := by rw [← hW]; simp
  have hlt := h.lt
  have hil := h.il
  have hZ := h.below hB
  obtain ⟨q, hq⟩ : ∃ q, s.I.length = q := ⟨_, rfl⟩
  obtain ⟨ec, hec⟩ : ∃ ec, errCode s.ie = ec := ⟨_, rfl⟩
  have HK : Hid (∀ V, Below W.heap.size W V → V.cell? ⟨l.sb, 4, none⟩ = some (.slice l.ia q l.ic) ∧ V.cell? ⟨l.sb, 5, none⟩ = some (.int .u8 (ec : Int))) := fun V hV => ⟨by rw [(hZ.below hV).cell 4, ← hq]; rfl, by rw [(hZ.below hV).cell 5, ← hec]; rfl⟩
  have HKs : Hid (∀ V p q' r t u x', (V.cell? ⟨l.sb, 4, none⟩ = some (.slice l.ia q l.ic) ∧ V.cell? ⟨l.sb, 5, none⟩ = some (.int .u8 (ec : Int))) → (ansW V w.heap.size p q' r t u x').cell? ⟨l.sb, 4, none⟩ = some (.slice l.ia q l.ic) ∧ (ansW V w.heap.size p q' r t u x').cell? ⟨l.sb, 5, none⟩ = some (.int .u8 (ec : Int))) := fun V p q' r t u x' hV => ⟨(Only.cell (ansW_only V w.heap.size p q' r t u x') (by omega)).trans hV.1, (Only.cell (ansW_only V w.heap.size p q' r t u x') (by omega)).trans hV.2⟩
  unfold ansW at HKs
  have HCo : Hid (Calls Tryz.prog 44 #[.slice a n c] W.drew fun r w' => ∃ a' c', r = .returned (.slice a' n c') ∧ Below W.heap.size W w' ∧ Res w' w.heap.size ∧ ∀ p q r t u x', BRow (ansW w' w.heap.size p q r t u x') a' dat ∧ (dat ≠ [] → ∀ b o, a' = some ⟨b, o, none⟩ → w.heap.size ≤ b) ∧ Below w.heap.size w (ansW w' w.heap.size p q r t u x')) := by
    have h1 := copyOf_any dat c a W.drew ((hrow.below hB).below ((Below.refl _ _).drew)) (by omega)
    rw [hn] at h1
    refine h1.mono ?_
    rintro r w' ⟨a', c', h2, h3, _, _, h5, h6⟩
    have h7 : Below W.heap.size W w' := ((Below.refl W.heap.size W).drew).trans h6
    refine ⟨a', c', h2, h7, hRes.below h7, fun p q r t u x' => ⟨brow_keep h3 (fun h0 b o he => (ansW_only w' w.heap.size p q r t u x').block b (by have h8 : W.heap.size ≤ b := h5 h0 b o he; omega)), (fun h0 b o he => (by have h8 : W.heap.size ≤ b := h5 h0 b o he; omega)), (hB.trans (h7.mono hB.size)).trans ((ansW_only w' w.heap.size p q r t u x').below (Nat.le_refl _))⟩⟩
  have hwq : IntKind.u64.wrap (q : Int) = (q : Int) := by simp [IntKind.wrap, IntKind.bits, IntKind.signed]; omega
  have HB0 : Hid (Below W.heap.size W W.drew) := (Below.refl _ _).drew
  rw [hq, hec]
  unfold ans0 at hW
  clear h hB hRes hZ hq hec hrow hn hl hlt hil hsz
  go_enter Tryz.func45, Tryz.ntmps45
  go_upto_region 1 with fail
  clear hW
  go_region_held3 (fun w' => w'.cell? ⟨l.sb, 4, none⟩ = some (.slice l.ia q l.ic) ∧ w'.cell? ⟨l.sb, 5, none⟩ = some (.int .u8 (ec : Int)))
    (first | with_reducible exact HK.out _ HB0.out | with_reducible exact HK.out _ HB1.out | with_reducible exact HKs.out _ _ _ _ _ _ _ (HK.out _ HB1.out))
    (first
      | (go_at_call 44; refine Calls.mono HCo.out ?_; rintro r V1 ⟨a', c', rfl, hb1, hr1, hq⟩; have HB1 : Hid (Below W.heap.size W V1) := hb1; have HRes : Hid (Res V1 w.heap.size) := hr1; have HQ : Hid (∀ p q r t u x', BRow (ansW V1 w.heap.size p q r t u x') a' dat ∧ (dat ≠ [] → ∀ b o, a' = some ⟨b, o, none⟩ → w.heap.size ≤ b) ∧ Below w.heap.size w (ansW V1 w.heap.size p q r t u x')) := hq; obtain ⟨r0, r1, r2, r3, r4, r5, rf⟩ := hr1.cells; clear hb1 hr1 hq))
  go_wp2
  exact retShows rfl rfl HRes.out ⟨_, _, rfl, HQ.out _ _ _ _ _ _⟩

section
variable {B : Nat} {w w1 : World} {l : Ml} {s : ZSt}
/-- The bytes written grew. -/
theorem ZM.wrote {O' : List Nat} {ya : Option Addr} {yc : Nat} (h : ZM B w l s) (ho : OwnB w1 B (.slice ya O'.length yc) O') (hg : Gr (.slice l.oa s.O.length l.oc) (.slice ya O'.length yc) w w1) (hb : ∀ x ∈ O', x < 256) (hl : O'.length ≤ s.lim) : w1.cell? ⟨l.sb, 1, none⟩ = some (.slice l.oa s.O.length l.oc) ∧ w1.frozen? ⟨l.sb, 1, none⟩ = false ∧ MSt B w (w1.setCell ⟨l.sb, 1, none⟩ (.slice ya O'.length yc)) l { l with oa := ya, oc := yc } s { s with O := O' } := by
  have hO : Only l.sb w1 (w1.setCell ⟨l.sb, 1, none⟩ (.slice ya O'.length yc)) := (Only.refl _ _).setCell _ _
  have hk : ∀ b, b < w.heap.size → blk l.oa ≠ some b → w1.heap[b]? = w.heap[b]? := fun b hb hx => hg.chg.block b hb (fun hy => hx (by have hy : (Value.slice l.oa s.O.length l.oc).ownBlock = some b := hy; rw [own_blk] at hy; exact hy))
  have hnw : ∀ b, blk ya = some b → blk l.oa = some b ∨ w.heap.size ≤ b := fun b hb => by have := hg.new b (by rw [own_blk]; exact hb); rw [own_blk] at this; exact this
  have hsb := hk l.sb h.lt h.nO
  have hat := hsb.trans h.at_
  refine ⟨by simp [World.cell?, hat], by simp [World.frozen?, hat], { h with at_ := ?_, ownF := ?_, ownO := ?_, rowI := ?_, ol := hl, ob := hb, nO := ?_, nFO := ?_, nI := ?_ }, ?_, rfl, fun b hb => ?_, fun b hb => ?_⟩
  · simp [World.setCell, Array.getElem?_modify, hat]
  · exact own_same h.ownF (fun b hb => by rw [own_blk] at hb; exact (hO.block b (fun e => h.nF (by rw [hb, e]))).trans (hk b (h.flt hb).2 (h.nFO b hb))) (by rw [hO.size]; exact hg.chg.size)
  · refine own_same ho (fun b hb => hO.block b (fun e => ?_)) (Nat.le_of_eq hO.size.symm)
    rw [own_blk] at hb
    rcases hnw b hb with h1 | h1
    · exact h.nO (by rw [h1, e])
    · have := h.lt; omega
  · exact brow_keep h.rowI (fun h0 b o ha => (hO.block b (h.nI b ⟨h0, o, ha⟩).1).trans (hk b (h.ilt ⟨h0, o, ha⟩) (h.nI b ⟨h0, o, ha⟩).2.2))
  · intro e
    rcases hnw l.sb e with h1 | h1
    · exact h.nO h1
    · have := h.lt; omega
  · intro b hb e
    rcases hnw _ e with h1 | h1
    · exact h.nFO b hb h1
    · have := h.flt hb; omega
  · intro b hb
    have h2 := h.nI b hb
    refine ⟨h2.1, h2.2.1, fun e => ?_⟩
    rcases hnw _ e with h1 | h1
    · exact h2.2.2 h1
    · have := h.ilt hb; omega
  · exact (hg.chg.mono (fun b hb => by rw [own_blk] at hb; exact .inr (.inr hb))).trans (Only.chg hO (.inl rfl))
  · rcases hb with (hb | hb | hb) | hb
    · exact .inl (.inl hb)
    · exact .inl (.inr (.inl hb))
    · rcases hnw b hb with h1 | h1
      · exact .inl (.inr (.inr h1))
      · exact .inr (.inr h1)
    · exact .inr (.inl hb)
  · rcases hb with hb | hb | hb
    · exact .inl (.inl hb)
    · exact .inl (.inr (.inl hb))
    · rcases hnw b hb with h1 | h1
      · exact .inl (.inr (.inr h1))
      · exact .inr h1
/-- The bytes fed grew. -/
theorem ZM.fed {F' : List Nat} {ya : Option Addr} {yc : Nat} (h : ZM B w l s) (ho : OwnB w1 B (.slice ya F'.length yc) F') (hg : Gr (.slice l.fa s.F.length l.fc) (.slice ya F'.length yc) w w1) (hb : ∀ x ∈ F', x < 256) : w1.cell? ⟨l.sb, 0, none⟩ = some (.slice l.fa s.F.length l.fc) ∧ w1.frozen? ⟨l.sb, 0, none⟩ = false ∧ MSt B w (w1.setCell ⟨l.sb, 0, none⟩ (.slice ya F'.length yc)) l { l with fa := ya, fc := yc } s { s with F := F' } := by
  have hO : Only l.sb w1 (w1.setCell ⟨l.sb, 0, none⟩ (.slice ya F'.length yc)) := (Only.refl _ _).setCell _ _
  have hk : ∀ b, b < w.heap.size → blk l.fa ≠ some b → w1.heap[b]? = w.heap[b]? := fun b hb hx => hg.chg.block b hb (fun hy => hx (by have hy : (Value.slice l.fa s.F.length l.fc).ownBlock = some b := hy; rw [own_blk] at hy; exact hy))
  have hnw : ∀ b, blk ya = some b → blk l.fa = some b ∨ w.heap.size ≤ b := fun b hb => by have := hg.new b (by rw [own_blk]; exact hb); rw [own_blk] at this; exact this
  have hsb := hk l.sb h.lt h.nF
  have hat := hsb.trans h.at_
  refine ⟨by simp [World.cell?, hat], by simp [World.frozen?, hat], { h with at_ := ?_, ownF := ?_, ownO := ?_, rowI := ?_, fb := hb, nF := ?_, nFO := ?_, nI := ?_ }, ?_, rfl, fun b hb => ?_, fun b hb => ?_⟩
  · simp [World.setCell, Array.getElem?_modify, hat]
  · refine own_same ho (fun b hb => hO.block b (fun e => ?_)) (Nat.le_of_eq hO.size.symm)
    rw [own_blk] at hb
    rcases hnw b hb with h1 | h1
    · exact h.nF (by rw [h1, e])
    · have := h.lt; omega
  · exact own_same h.ownO (fun b hb => by rw [own_blk] at hb; exact (hO.block b (fun e => h.nO (by rw [hb, e]))).trans (hk b (h.olt hb).2 (fun e => h.nFO b e hb))) (by rw [hO.size]; exact hg.chg.size)
  · exact brow_keep h.rowI (fun h0 b o ha => (hO.block b (h.nI b ⟨h0, o, ha⟩).1).trans (hk b (h.ilt ⟨h0, o, ha⟩) (h.nI b ⟨h0, o, ha⟩).2.1))
  · intro e
    rcases hnw l.sb e with h1 | h1
    · exact h.nF h1
    · have := h.lt; omega
  · intro b hb e
    rcases hnw _ hb with h1 | h1
    · exact h.nFO b h1 e
    · have := h.olt e; omega
  · intro b hb
    have h2 := h.nI b hb
    refine ⟨h2.1, fun e => ?_, h2.2.2⟩
    rcases hnw _ e with h1 | h1
    · exact h2.2.1 h1
    · have := h.ilt hb; omega
  · exact (hg.chg.mono (fun b hb => by rw [own_blk] at hb; exact .inr (.inl hb))).trans (Only.chg hO (.inl rfl))
  · rcases hb with (hb | hb | hb) | hb
    · exact .inl (.inl hb)
    · rcases hnw b hb with h1 | h1
      · exact .inl (.inr (.inl h1))
      · exact .inr (.inr h1)
    · exact .inl (.inr (.inr hb))
    · exact .inr (.inl hb)
  · rcases hb with hb | hb | hb
    · exact .inl (.inl hb)
    · rcases hnw b hb with h1 | h1
      · exact .inl (.inr (.inl h1))
      · exact .inr h1
    · exact .inl (.inr (.inr hb))
theorem ZM.drewN (h : ZM B w l s) (m : Nat) : ZM B (w.drewN m) l s := h.below (drewN_below _ _ _)
theorem errCode_zero {x : Option Nat} : ((errCode x : Int) == 0) = decide (x = none) := by
  cases x with
  | none => rfl
  | some i => simp [errCode]; omega

set_option maxRecDepth 100000 in
set_option maxHeartbeats 2000000 in
theorem mwrite_any {p : List Nat} {a : Option Addr} {c : Nat} (h : ZM B w l s) (hBw : B ≤ w.heap.size) (hrow : BRow w a p) (hpl : p.length ≤ 65536) :
    Calls Tryz.prog 42 #[.pointer (some ⟨l.sb, 0, none⟩), .slice a p.length c] w fun r w' => r = .returned (.tuple #[]) ∧ ∃ ya yc, MSt B w w' l { l with oa := ya, oc := yc } s (zwr s (wwrite s.O s.lim s.oe p)) := by
  have c1 : w.cell? ⟨l.sb, 1, none⟩ = some (.slice l.oa s.O.length l.oc) := h.cell 1
  have c2 : w.cell? ⟨l.sb, 2, none⟩ = some (.int .i64 (s.lim : Int)) := h.cell 2
  have c3 : w.cell? ⟨l.sb, 3, none⟩ = some (.int .u8 (errCode s.oe : Int)) := h.cell 3
  have f3 := h.fr 3
  have hlim := h.lim
  have hol := h.ol
  have hz0 := errCode_zero (x := s.oe)
  by_cases hoe : s.oe = none
  · rw [decide_eq_true hoe] at hz0
    by_cases hfit : s.O.length + p.length ≤ s.lim
    · have hw : zwr s (wwrite s.O s.lim s.oe p) = { s with O := s.O ++ p } := by unfold wwrite zwr; rw [if_pos hoe, if_pos hfit, ← hoe]
      rw [hw]
      have HOw : Hid (∀ m, OwnB (w.drewN m) B (.slice l.oa s.O.length l.oc) s.O ∧ BRow (w.drewN m) a p ∧ B ≤ (w.drewN m).heap.size) := fun m => ⟨ownB_drewN h.ownO m, hrow.drewN m, by rw [(World.drewN_alike w m).1]; exact hBw⟩
      have hsum : s.O.length + p.length ≤ 140737488355328 := by omega
      have HF : Hid (∀ m v' w1, OwnB w1 B v' (s.O ++ p) → Gr (.slice l.oa s.O.length l.oc) v' (w.drewN m) w1 → ∃ ya yc yl, v' = .slice ya yl yc ∧ w1.cell? ⟨l.sb, 1, none⟩ = some (.slice l.oa s.O.length l.oc) ∧ w1.frozen? ⟨l.sb, 1, none⟩ = false ∧ MSt B w (w1.setCell ⟨l.sb, 1, none⟩ (.slice ya yl yc)) l { l with oa := ya, oc := yc } s { s with O := s.O ++ p }) := fun m v' w1 h1 h2 => by
        obtain ⟨ya, yc, hy⟩ := OwnB.form h1
        subst hy
        obtain ⟨x1, x2, x3⟩ := (h.drewN m).wrote h1 h2 (fun x hx => by
          rcases List.mem_append.1 hx with hx | hx
          · exact h.ob x hx
          · exact hrow.lt x hx) (by rw [List.length_append]; exact hfit)
        exact ⟨ya, yc, _, rfl, x1, x2, (MSt.start h (drewN_below _ m _)).trans x3⟩
      have hle : ¬ (s.lim : Int) < (s.O.length : Int) + (p.length : Int) := by omega
      have hwp : IntKind.i64.wrap ((s.O.length : Int) + (p.length : Int)) = (s.O.length : Int) + (p.length : Int) := by simp [IntKind.wrap, IntKind.bits, IntKind.signed]; omega
      clear h hrow hw hfit
      generalize hec : errCode s.oe = ec at *
      clear hec
      go_enter Tryz.func42, Tryz.ntmps42
      go_wp2
      go_quiet (fail)
      go_wp2_with (at_builtin; refine wpList_append_bytes _ rfl _ _ rfl B (.slice l.oa s.O.length l.oc) s.O p rfl (HOw.out _).1 a c rfl (HOw.out _).2.1 hsum (HOw.out _).2.2 ?_; intro v' w1 h1 g2 g3; have h2 := Gr.mk0 g2 g3; clear g2 g3; obtain ⟨ya, yc, yl, hy, x1, x2, x3⟩ := HF.out _ v' w1 h1 h2; subst hy; have HX : Hid _ := x3; clear x3 h1 h2)
      go_end0
      exact ⟨rfl, _, _, HX.out⟩
    · have hw : zwr s (wwrite s.O s.lim s.oe p) = { s with oe := some 3 } := by unfold wwrite zwr; rw [if_pos hoe, if_neg hfit]
      rw [hw]
      have HF : Hid (∀ m, MSt B w ((w.drewN m).setCell ⟨l.sb, 3, none⟩ (.int .u8 (4 : Int))) l l s { s with oe := some 3 }) := fun m => (MSt.start h (drewN_below _ m _)).trans ((h.drewN m).oe (some 3))
      have hle : (s.lim : Int) < (s.O.length : Int) + (p.length : Int) := by omega
      have hwp : IntKind.i64.wrap ((s.O.length : Int) + (p.length : Int)) = (s.O.length : Int) + (p.length : Int) := by simp [IntKind.wrap, IntKind.bits, IntKind.signed]; omega
      clear h hrow hw hfit
      generalize hec : errCode s.oe = ec at *
      clear hec
      go_enter Tryz.func42, Tryz.ntmps42
      go_wp2
      go_quiet (fail)
      go_wp2
      ((try simp only [Exit.inBlock, Exit.then]); refine bodyPost_ret (results_none rfl _ _ _) rfl ?_)
      exact ⟨rfl, l.oa, l.oc, HF.out _⟩
  · have hw : zwr s (wwrite s.O s.lim s.oe p) = s := by unfold wwrite zwr; rw [if_neg hoe]
    rw [hw]
    rw [decide_eq_false hoe] at hz0
    have HX : Hid (MSt B w w l l s s) := MSt.refl h
    clear h hrow hw
    generalize hec : errCode s.oe = ec at *
    clear hec
    go_enter Tryz.func42, Tryz.ntmps42
    go_wp2
    ((try simp only [Exit.inBlock, Exit.then]); refine bodyPost_ret (results_none rfl _ _ _) rfl ?_)
    exact ⟨rfl, l.oa, l.oc, HX.out⟩
end
end Go.Proofs.Qxb6500698aGreatDoor
