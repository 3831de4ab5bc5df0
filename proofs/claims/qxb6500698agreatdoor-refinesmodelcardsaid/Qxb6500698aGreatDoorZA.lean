/-
  ANSWERS OF THE SUM LAYER IN MEMORY; THE WALKS OF wrote, read, feed.
-/
import Derived.Test.Qxb6500698aGreatDoorZS
import Derived.Deep.RegionHeld3
import Derived.Deep.CutRange
namespace Go.Proofs.Qxb6500698aGreatDoor
open Go.RowKit

abbrev ans0 : Obj := .cells #[.int .u32 0, .int .u32 0, .int .u64 0, .int .u64 0, .slice none 0 0, .int .u8 0] 36
/-- The answer laid into its box. -/
def ansW (V : World) (R : Nat) (a b c d e f : Value) : World := (((((V.setCell ⟨R, 0, none⟩ a).setCell ⟨R, 1, none⟩ b).setCell ⟨R, 2, none⟩ c).setCell ⟨R, 3, none⟩ d).setCell ⟨R, 4, none⟩ e).setCell ⟨R, 5, none⟩ f
theorem ansW_only (V : World) (R : Nat) (a b c d e f : Value) : Only R V (ansW V R a b c d e f) := ((((((Only.refl _ _).setCell _ _).setCell _ _).setCell _ _).setCell _ _).setCell _ _).setCell _ _
theorem ansW_cells {V : World} {R : Nat} {a b c d e f : Value} {t : TypeId} {p0 p1 p2 p3 p4 p5 : Value} (h : V.heap[R]? = some (.cells #[p0, p1, p2, p3, p4, p5] t (0, 0))) : (ansW V R a b c d e f).cell? ⟨R, 0, none⟩ = some a ∧ (ansW V R a b c d e f).cell? ⟨R, 1, none⟩ = some b ∧ (ansW V R a b c d e f).cell? ⟨R, 2, none⟩ = some c ∧ (ansW V R a b c d e f).cell? ⟨R, 3, none⟩ = some d ∧ (ansW V R a b c d e f).cell? ⟨R, 4, none⟩ = some e ∧ (ansW V R a b c d e f).cell? ⟨R, 5, none⟩ = some f := by
  have h1 : (ansW V R a b c d e f).heap[R]? = some (.cells #[a, b, c, d, e, f] t (0, 0)) := by simp [ansW, World.setCell, Array.getElem?_modify, h]
  generalize ansW V R a b c d e f = W at h1
  refine ⟨?_, ?_, ?_, ?_, ?_, ?_⟩ <;> simp [World.cell?, h1]
/-- The answer's box, still empty. -/
def Res (V : World) (R : Nat) : Prop := V.heap[R]? = some (.cells #[.int .u32 0, .int .u32 0, .int .u64 0, .int .u64 0, .slice none 0 0, .int .u8 0] 36 (0, 0))
theorem Res.cells {V : World} {R : Nat} (h : Res V R) : V.cell? ⟨R, 0, none⟩ = some (.int .u32 0) ∧ V.cell? ⟨R, 1, none⟩ = some (.int .u32 0) ∧ V.cell? ⟨R, 2, none⟩ = some (.int .u64 0) ∧ V.cell? ⟨R, 3, none⟩ = some (.int .u64 0) ∧ V.cell? ⟨R, 4, none⟩ = some (.slice none 0 0) ∧ V.cell? ⟨R, 5, none⟩ = some (.int .u8 0) ∧ ∀ i, V.frozen? ⟨R, i, none⟩ = false := by
  unfold Res at h
  refine ⟨?_, ?_, ?_, ?_, ?_, ?_, fun i => ?_⟩ <;> simp [World.cell?, World.frozen?, h]
theorem Res.keep {V V' : World} {R : Nat} (h : Res V R) (hb : V'.heap[R]? = V.heap[R]?) : Res V' R := hb.trans h
theorem Res.below {V V' : World} {R : Nat} (h : Res V R) (hb : Below V.heap.size V V') : Res V' R := h.keep (hb.block R (heap_lt h))
theorem Res.new (w : World) : Res (w.alloc ans0) w.heap.size := heap_alloc_new w _
abbrev ansV (cr fl ln v : Nat) (a : Option Addr) (n c er : Nat) : Value := .agg #[.int .u32 (cr : Int), .int .u32 (fl : Int), .int .u64 (ln : Int), .int .u64 (v : Int), .slice a n c, .int .u8 (er : Int)]

set_option maxRecDepth 100000 in
theorem retWrote {Q : Ending → World → Prop} {V : World} {R : Nat} {a b c d e f : Value} {A : Act} (hA : A.tmps.getD 2 undef = .pointer (some ⟨R, 0, none⟩)) (hD : A.defers = []) (hR : Res V R) (hQ : Q (.returned (.agg #[a, b, c, d, e, f])) (ansW V R a b c d e f)) : bodyPost Tryz.prog Tryz.f29 Q .ret A (ansW V R a b c d e f) := by
  obtain ⟨y0, y1, y2, y3, y4, y5⟩ := ansW_cells (a := a) (b := b) (c := c) (d := d) (e := e) (f := f) hR
  generalize ansW V R a b c d e f = W at *
  refine bodyPost_ret (v := .agg #[a, b, c, d, e, f]) ?_ hD hQ
  have hA' : A.tmps[2]?.getD undef = .pointer (some ⟨R, 0, none⟩) := by simpa using hA
  simp [results, Tryz.results29, go_sem, hA', y0, y1, y2, y3, y4, y5]

set_option maxRecDepth 100000 in
theorem retRead {Q : Ending → World → Prop} {V : World} {R : Nat} {a b c d e f : Value} {A : Act} (hA : A.tmps.getD 6 undef = .pointer (some ⟨R, 0, none⟩)) (hD : A.defers = []) (hR : Res V R) (hQ : Q (.returned (.agg #[a, b, c, d, e, f])) (ansW V R a b c d e f)) : bodyPost Tryz.prog Tryz.f31 Q .ret A (ansW V R a b c d e f) := by
  obtain ⟨y0, y1, y2, y3, y4, y5⟩ := ansW_cells (a := a) (b := b) (c := c) (d := d) (e := e) (f := f) hR
  generalize ansW V R a b c d e f = W at *
  refine bodyPost_ret (v := .agg #[a, b, c, d, e, f]) ?_ hD hQ
  have hA' : A.tmps[6]?.getD undef = .pointer (some ⟨R, 0, none⟩) := by simpa using hA
  simp [results, Tryz.results31, go_sem, hA', y0, y1, y2, y3, y4, y5]

set_option maxRecDepth 100000 in
theorem retFeed {Q : Ending → World → Prop} {V : World} {R : Nat} {a b c d e f : Value} {A : Act} (hA : A.tmps.getD 4 undef = .pointer (some ⟨R, 0, none⟩)) (hD : A.defers = []) (hR : Res V R) (hQ : Q (.returned (.agg #[a, b, c, d, e, f])) (ansW V R a b c d e f)) : bodyPost Tryz.prog Tryz.f16 Q .ret A (ansW V R a b c d e f) := by
  obtain ⟨y0, y1, y2, y3, y4, y5⟩ := ansW_cells (a := a) (b := b) (c := c) (d := d) (e := e) (f := f) hR
  generalize ansW V R a b c d e f = W at *
  refine bodyPost_ret (v := .agg #[a, b, c, d, e, f]) ?_ hD hQ
  have hA' : A.tmps[4]?.getD undef = .pointer (some ⟨R, 0, none⟩) := by simpa using hA
  simp [results, Tryz.results16, go_sem, hA', y0, y1, y2, y3, y4, y5]

set_option maxRecDepth 100000 in
theorem retStep {Q : Ending → World → Prop} {V : World} {R : Nat} {a b c d e f : Value} {A : Act} (hA : A.tmps.getD 4 undef = .pointer (some ⟨R, 0, none⟩)) (hD : A.defers = []) (hR : Res V R) (hQ : Q (.returned (.agg #[a, b, c, d, e, f])) (ansW V R a b c d e f)) : bodyPost Tryz.prog Tryz.f7 Q .ret A (ansW V R a b c d e f) := by
  obtain ⟨y0, y1, y2, y3, y4, y5⟩ := ansW_cells (a := a) (b := b) (c := c) (d := d) (e := e) (f := f) hR
  generalize ansW V R a b c d e f = W at *
  refine bodyPost_ret (v := .agg #[a, b, c, d, e, f]) ?_ hD hQ
  have hA' : A.tmps[4]?.getD undef = .pointer (some ⟨R, 0, none⟩) := by simpa using hA
  simp [results, Tryz.results7, go_sem, hA', y0, y1, y2, y3, y4, y5]

section
variable {B : Nat} {w : World} {e : Nat → Addr} {l : Rl} {s : ZSt}
theorem ZR.m0 (h : ZR B w e l s) : w.cell? ⟨l.d, 0, none⟩ = some (.pointer (some ⟨l.tb, 0, none⟩)) := by
  obtain ⟨low, _, hF, _⟩ := h.fl
  unfold FdAt at hF
  simp [World.cell?, hF]
theorem ZR.m1 (h : ZR B w e l s) : w.cell? ⟨l.d, 1, none⟩ = some (.pointer (some ⟨l.cd, 0, none⟩)) := by
  obtain ⟨low, _, hF, _⟩ := h.fl
  unfold FdAt at hF
  simp [World.cell?, hF]
theorem ZR.m7 (h : ZR B w e l s) : w.cell? ⟨l.d, 7, none⟩ = some (.pointer (some ⟨l.wb, 0, none⟩)) := by
  obtain ⟨low, _, hF, _⟩ := h.fl
  unfold FdAt at hF
  simp [World.cell?, hF]
theorem ZR.m8 (h : ZR B w e l s) : w.cell? ⟨l.d, 8, none⟩ = some (.pointer (some ⟨l.rb, 0, none⟩)) := by
  obtain ⟨low, _, hF, _⟩ := h.fl
  unfold FdAt at hF
  simp [World.cell?, hF]
theorem ZR.mf (h : ZR B w e l s) (i : Nat) : w.frozen? ⟨l.d, i, none⟩ = false := by
  obtain ⟨low, _, hF, _⟩ := h.fl
  exact hF.fr i

set_option maxRecDepth 100000 in
set_option maxHeartbeats 2000000 in
theorem wrote_any (E : Errs w e) (h : ZR B w e l s) :
    Calls Tryz.prog 29 #[.pointer (some ⟨l.d, 0, none⟩)] w fun r w' => r = .returned (ansV 0 0 s.O.length 0 none 0 0 (errCode s.oe)) ∧ Below w.heap.size w w' := by
  obtain ⟨W, hW⟩ : ∃ W, w.alloc ans0 = W := ⟨_, rfl⟩
  have hB : Below w.heap.size w W := by rw [← hW]; exact (Below.refl _ _).alloc (Nat.le_refl _) _
  have hRes : Res W w.heap.size := by rw [← hW]; exact Res.new w
  have hZ := h.below hB
  have hlen := hZ.wr.len
  have hlim := hZ.wr.hlim
  have HL : Hid (∀ V, Below W.heap.size W V → Calls Tryz.prog 65 #[.pointer (some ⟨l.wb, 0, none⟩)] V fun r w' => r = .returned (.int .i64 (s.O.length : Int)) ∧ Below W.heap.size W w') := fun V hV => (wlen_any (hZ.below hV).wr).mono (fun r w' ⟨h1, h2⟩ => ⟨h1, by rw [h2]; exact hV⟩)
  have HR : Hid (∀ V, Below W.heap.size W V → Calls Tryz.prog 66 #[.pointer (some ⟨l.wb, 0, none⟩)] V fun r w' => r = .returned (errV e s.oe) ∧ Below W.heap.size W w') := fun V hV => (werr_any (hZ.below hV).wr).mono (fun r w' ⟨h1, h2⟩ => ⟨h1, by rw [h2]; exact hV⟩)
  have HC : Hid (∀ V, Below W.heap.size W V → Calls Tryz.prog 37 #[errV e s.oe] V fun r w' => r = .returned (.int .u8 ((errCode s.oe : Nat) : Int)) ∧ Below W.heap.size W w') := fun V hV => (code_any V e ((E.below hB).below hV) s.oe hZ.wr.oe6).mono (fun r w' ⟨h1, h2⟩ => ⟨h1, by rw [h2]; exact hV⟩)
  have HKd : Hid (∀ V, Below W.heap.size W V → V.cell? ⟨l.d, 7, none⟩ = some (.pointer (some ⟨l.wb, 0, none⟩))) := fun V hV => (hZ.below hV).m7
  have HRes : Hid (∀ V, Below W.heap.size W V → Res V w.heap.size) := fun V hV => hRes.below hV
  have HB : Hid (∀ V a b c d e f, Below W.heap.size W V → Below w.heap.size w (ansW V w.heap.size a b c d e f)) := fun V a b c d e f hV => (hB.trans (hV.mono hB.size)).trans ((ansW_only _ _ _ _ _ _ _ _).below (Nat.le_refl _))
  have HKs : Hid (∀ V a b c d e f, Below W.heap.size W V → (ansW V w.heap.size a b c d e f).cell? ⟨l.d, 7, none⟩ = some (.pointer (some ⟨l.wb, 0, none⟩))) := fun V a b c d e f hV => (Only.cell (ansW_only V w.heap.size a b c d e f) (by have := h.fl.lt; omega)).trans (hZ.below hV).m7
  have ho7 : errCode s.oe < 256 := by
    cases ho : s.oe with
    | none => show 0 < 256; omega
    | some i => show i + 1 < 256; have := hZ.wr.oe6 i ho; omega
  obtain ⟨q, hq⟩ : ∃ q, s.O.length = q := ⟨_, rfl⟩
  rw [hq] at HL hlen ⊢
  have hwq : IntKind.u64.wrap (q : Int) = (q : Int) := by simp [IntKind.wrap, IntKind.bits, IntKind.signed]; omega
  generalize errCode s.oe = ec at *
  generalize errV e s.oe = ev at *
  unfold ansW at HKs
  unfold ans0 at hW
  clear h hB hRes hZ E hq
  have HB0 : Hid (Below W.heap.size W W.drew) := (Below.refl _ _).drew
  go_enter Tryz.func29, Tryz.ntmps29
  go_upto_region 1 with fail
  clear hW
  go_region_held3 (fun w' => w'.cell? ⟨l.d, 7, none⟩ = some (.pointer (some ⟨l.wb, 0, none⟩)))
    (first | with_reducible exact HKd.out _ HB0.out | with_reducible exact HKd.out _ HB1.out | with_reducible exact HKd.out _ HB2.out | with_reducible exact HKd.out _ HB3.out | with_reducible exact HKs.out _ _ _ _ _ _ _ HB3.out)
    (first
      | (go_at_call 65; refine (HL.out _ HB0.out).mono ?_; rintro r w1 ⟨rfl, hb⟩; have HB1 : Hid (Below W.heap.size W w1) := hb; clear hb)
      | (go_at_call 66; refine (HR.out _ HB1.out).mono ?_; rintro r w2 ⟨rfl, hb⟩; have HB2 : Hid (Below W.heap.size W w2) := hb; clear hb)
      | (go_at_call 37; refine (HC.out _ HB2.out).mono ?_; rintro r w3 ⟨rfl, hb⟩; have HB3 : Hid (Below W.heap.size W w3) := hb; obtain ⟨r0, r1, r2, r3, r4, r5, rf⟩ := (HRes.out w3 hb).cells; clear hb))
  go_wp2
  exact retWrote rfl rfl (HRes.out w3 HB3.out) ⟨rfl, HB.out _ _ _ _ _ _ _ HB3.out⟩

set_option maxRecDepth 100000 in
set_option maxHeartbeats 2000000 in
theorem read_any (x n c : Nat) (a : Option Addr) (E : Errs w e) (h : ZR B w e l s) :
    Calls Tryz.prog 31 #[.pointer (some ⟨l.d, 0, none⟩), .int .u64 (x : Int), .slice a n c] w fun r w' => r = .returned (ansV 0 0 s.I.length x a n c (errCode s.ie)) ∧ Below w.heap.size w w' := by
  obtain ⟨W, hW⟩ : ∃ W, w.alloc ans0 = W := ⟨_, rfl⟩
  have hB : Below w.heap.size w W := by rw [← hW]; exact (Below.refl _ _).alloc (Nat.le_refl _) _
  have hRes : Res W w.heap.size := by rw [← hW]; exact Res.new w
  have hZ := h.below hB
  have hIl : l.bs.length - l.off = s.I.length := by rw [hZ.hI, List.length_drop]
  have hlen := hZ.rd.len
  have HL : Hid (∀ V, Below W.heap.size W V → Calls Tryz.prog 67 #[.pointer (some ⟨l.rb, 0, none⟩)] V fun r w' => r = .returned (.int .i64 (s.I.length : Int)) ∧ Below W.heap.size W w') := fun V hV => (rrem_any (hZ.below hV).rd).mono (fun r w' ⟨h1, m, h2⟩ => ⟨by rw [h1, hIl], by rw [h2]; exact hV.trans (drewN_below _ _ _)⟩)
  have HR : Hid (∀ V, Below W.heap.size W V → Calls Tryz.prog 68 #[.pointer (some ⟨l.rb, 0, none⟩)] V fun r w' => r = .returned (errV e s.ie) ∧ Below W.heap.size W w') := fun V hV => (rerr_any (hZ.below hV).rd).mono (fun r w' ⟨h1, h2⟩ => ⟨h1, by rw [h2]; exact hV⟩)
  have HC : Hid (∀ V, Below W.heap.size W V → Calls Tryz.prog 37 #[errV e s.ie] V fun r w' => r = .returned (.int .u8 ((errCode s.ie : Nat) : Int)) ∧ Below W.heap.size W w') := fun V hV => (code_any V e ((E.below hB).below hV) s.ie hZ.rd.ie6).mono (fun r w' ⟨h1, h2⟩ => ⟨h1, by rw [h2]; exact hV⟩)
  have HKd : Hid (∀ V, Below W.heap.size W V → V.cell? ⟨l.d, 8, none⟩ = some (.pointer (some ⟨l.rb, 0, none⟩))) := fun V hV => (hZ.below hV).m8
  have HRes : Hid (∀ V, Below W.heap.size W V → Res V w.heap.size) := fun V hV => hRes.below hV
  have HB : Hid (∀ V a b c d e f, Below W.heap.size W V → Below w.heap.size w (ansW V w.heap.size a b c d e f)) := fun V a b c d e f hV => (hB.trans (hV.mono hB.size)).trans ((ansW_only _ _ _ _ _ _ _ _).below (Nat.le_refl _))
  have HKs : Hid (∀ V a b c d e f, Below W.heap.size W V → (ansW V w.heap.size a b c d e f).cell? ⟨l.d, 8, none⟩ = some (.pointer (some ⟨l.rb, 0, none⟩))) := fun V a b c d e f hV => (Only.cell (ansW_only V w.heap.size a b c d e f) (by have := h.fl.lt; omega)).trans (hZ.below hV).m8
  have ho7 : errCode s.ie < 256 := by
    cases ho : s.ie with
    | none => show 0 < 256; omega
    | some i => show i + 1 < 256; have := hZ.rd.ie6 i ho; omega
  obtain ⟨q, hq⟩ : ∃ q, s.I.length = q := ⟨_, rfl⟩
  rw [hq] at HL hIl ⊢
  have hwq : IntKind.u64.wrap (q : Int) = (q : Int) := by simp [IntKind.wrap, IntKind.bits, IntKind.signed]; omega
  generalize errCode s.ie = ec at *
  generalize errV e s.ie = ev at *
  unfold ansW at HKs
  unfold ans0 at hW
  clear h hB hRes hZ E hq hIl hlen
  have HB0 : Hid (Below W.heap.size W W.drew) := (Below.refl _ _).drew
  go_enter Tryz.func31, Tryz.ntmps31
  go_upto_region 1 with fail
  clear hW
  go_region_held3 (fun w' => w'.cell? ⟨l.d, 8, none⟩ = some (.pointer (some ⟨l.rb, 0, none⟩)))
    (first | with_reducible exact HKd.out _ HB0.out | with_reducible exact HKd.out _ HB1.out | with_reducible exact HKd.out _ HB2.out | with_reducible exact HKd.out _ HB3.out | with_reducible exact HKs.out _ _ _ _ _ _ _ HB3.out)
    (first
      | (go_at_call 67; refine (HL.out _ HB0.out).mono ?_; rintro r w1 ⟨rfl, hb⟩; have HB1 : Hid (Below W.heap.size W w1) := hb; clear hb)
      | (go_at_call 68; refine (HR.out _ HB1.out).mono ?_; rintro r w2 ⟨rfl, hb⟩; have HB2 : Hid (Below W.heap.size W w2) := hb; clear hb)
      | (go_at_call 37; refine (HC.out _ HB2.out).mono ?_; rintro r w3 ⟨rfl, hb⟩; have HB3 : Hid (Below W.heap.size W w3) := hb; obtain ⟨r0, r1, r2, r3, r4, r5, rf⟩ := (HRes.out w3 hb).cells; clear hb))
  go_wp2
  exact retRead rfl rfl (HRes.out w3 HB3.out) ⟨rfl, HB.out _ _ _ _ _ _ _ HB3.out⟩

/-- The running checksums went on. -/
theorem ZR.fed {w' : World} {F' : List Nat} (h : ZR B w e l s) (h1 : FlAcc (mq l) w' l.d F') (h2 : DigAt w' l.cd l.tb (Crc.crc F') F'.length) (hC : Chg (fun b => b = l.d ∨ b = l.cd) w w') (hb : ∀ x ∈ F', x < 256) : RSt B w w' e l l { s with F := F' } := by
  have n1 := h.n1
  have n2 := h.n2
  have n3 := h.n3
  have hk : ∀ b, b < w.heap.size → b ≠ l.d → b ≠ l.cd → w'.heap[b]? = w.heap[b]? := fun b hb h3 h4 => hC.block b hb (fun hx => by rcases hx with hx | hx; exact h3 hx; exact h4 hx)
  refine ⟨⟨h1, h2, tabs_keep h.tab (hk _ h.tab.lt (Ne.symm n1.1) n2.1), h.wr.keep (fun b hb => ?_) hC.size, h.rd.keep (hk _ h.rd.at_.lt (Ne.symm n1.2.2.2) (Ne.symm n3.2.1)) (brow_keep h.rd.row (fun hne b o ha => ?_)), h.hI, h.hB, h.n1, h.n2, h.n3, h.nv, h.nr, hb⟩, hC.mono (fun b hb => ?_), fun b hb => .inl hb, rfl, rfl, fun b hb => .inr (.inl hb)⟩
  · have hl := (h.wr.wlt b hb).1
    rcases hb with rfl | hb
    · exact hk _ hl (Ne.symm n1.2.2.1) (Ne.symm n3.1)
    · have := h.nv b hb
      exact hk _ hl this.1 this.2.2.1
  · have := h.nr b ⟨hne, o, ha⟩
    exact hk b (h.rd.row.at_lt hne ha) this.1 this.2.1
  · rcases hb with hb | hb
    · exact .inl hb
    · exact .inr (.inl hb)

set_option maxRecDepth 100000 in
set_option maxHeartbeats 2000000 in
theorem feed_any (bs : List Nat) (a : Option Addr) (c : Nat) (h : ZR B w e l s) (hrow : BRow w a bs) (hne : bs ≠ [] → ∀ b o, a = some ⟨b, o, none⟩ → b ≠ l.d ∧ b ≠ l.cd) (hc1 : bs.length ≤ c) (hc2 : c ≤ 9223372036854775807) (hm : s.F.length + bs.length ≤ 4611686018427387904) :
    Calls Tryz.prog 16 #[.pointer (some ⟨l.d, 0, none⟩), .slice a bs.length c] w fun r w' => r = .returned (ansV 0 0 (s.F ++ bs).length 0 none 0 0 0) ∧ RSt B w w' e l l { s with F := s.F ++ bs } := by
  obtain ⟨W, hW⟩ : ∃ W, w.alloc ans0 = W := ⟨_, rfl⟩
  have hB : Below w.heap.size w W := by rw [← hW]; exact (Below.refl _ _).alloc (Nat.le_refl _) _
  have hRes : Res W w.heap.size := by rw [← hW]; exact Res.new w
  have hZ := h.below hB
  have ld := h.fl.lt
  have lc := h.dig.lt
  have n1 := hZ.n1
  have n2 := hZ.n2
  have m1 := hZ.m1
  have hcr : Crc.crc s.F < 4294967296 := Crc.upd_lt _ (by decide) h.fb
  have hrW := hrow.below hB
  have HD : Hid (Calls Tryz.prog 50 #[.pointer (some ⟨l.cd, 0, none⟩), .slice a bs.length c] W fun r w' => (∃ u, r = .returned u) ∧ DigAt w' l.cd l.tb (Crc.crc (s.F ++ bs)) (s.F ++ bs).length ∧ Only l.cd W w') := by
    refine (write_any bs l.cd l.tb (Crc.crc s.F) s.F.length c a W hZ.dig hZ.tab hrW hcr hc1 hc2 (by omega)).mono ?_
    rintro r w' ⟨h1, m, h2⟩
    have e1 : Crc.crc (s.F ++ bs) = Crc.upd (Crc.crc s.F) bs := Crc.upd_append 0 s.F bs
    refine ⟨⟨_, h1⟩, ?_, ?_⟩
    · rw [h2, e1, List.length_append]; exact hZ.dig.set _ _ m
    · rw [h2]; exact (((Only.refl _ _).setCell _ _).setCell _ _).drewN m
  have HF : Hid (∀ V, Only l.cd W V → Calls Tryz.prog 51 #[.pointer (some ⟨l.d, 2, none⟩), .slice a bs.length c] V fun r w' => (∃ u, r = .returned u) ∧ FlAcc (mq l) w' l.d (s.F ++ bs) ∧ Only l.d V w') := fun V hO => by
    refine (fwrite_any s.F bs l.d c a V (hZ.fl.of_block (hO.block _ n1.2.1)) (hrW.only hO (fun h0 b o he => (hne h0 b o he).2)) (fun h0 b o he => (hne h0 b o he).1) hc1 hc2 (by omega)).mono ?_
    rintro r w' ⟨h1, h2, h3⟩
    exact ⟨⟨_, h1⟩, h3, h2⟩
  have HLn : Hid (∀ V n, DigAt V l.cd l.tb (Crc.crc (s.F ++ bs)) n → Calls Tryz.prog 19 #[.pointer (some ⟨l.cd, 0, none⟩)] V fun r w' => r = .returned (.int .u64 (n : Int)) ∧ w' = V) := fun V n hV => len_any l.cd l.tb _ n V hV
  have HM : Hid (∀ V, Only l.cd W V → V.cell? ⟨l.d, 1, none⟩ = some (.pointer (some ⟨l.cd, 0, none⟩))) := fun V hO => (hO.cell n1.2.1).trans m1
  have HM2 : Hid (∀ V, FlAcc (mq l) V l.d (s.F ++ bs) → V.cell? ⟨l.d, 1, none⟩ = some (.pointer (some ⟨l.cd, 0, none⟩))) := fun V hV => by
    obtain ⟨low, _, hF, _⟩ := hV
    unfold FdAt at hF
    simp [World.cell?, hF]
  have HFin : Hid (∀ V1 V2 a b c d e' f, Only l.cd W V1 → DigAt V1 l.cd l.tb (Crc.crc (s.F ++ bs)) (s.F ++ bs).length → Only l.d V1 V2 → FlAcc (mq l) V2 l.d (s.F ++ bs) → Res V2 w.heap.size ∧ DigAt V2 l.cd l.tb (Crc.crc (s.F ++ bs)) (s.F ++ bs).length ∧ RSt B w (ansW V2 w.heap.size a b c d e' f) e l l { s with F := s.F ++ bs }) := fun V1 V2 a b c d e' f h1 h2 h3 h4 => by
    have hR2 : Res V2 w.heap.size := (hRes.keep (h1.block _ (by omega))).keep (h3.block _ (by omega))
    have hd2 : DigAt V2 l.cd l.tb (Crc.crc (s.F ++ bs)) (s.F ++ bs).length := h2.of_block (h3.block _ (Ne.symm n1.2.1))
    have hA := ansW_only V2 w.heap.size a b c d e' f
    refine ⟨hR2, hd2, h.fed (h4.of_block (hA.block _ (by omega))) (hd2.of_block (hA.block _ (by omega))) ?_ (fun x hx => ?_)⟩
    · have c1 : Chg (fun b => b = l.d ∨ b = l.cd) w V2 := ((Below.chg hB _).trans (Only.chg h1 (.inr rfl))).trans (Only.chg h3 (.inl rfl))
      exact c1.then (Only.chg (P := fun b => b = w.heap.size) hA rfl) (fun i hi => .inr (by omega))
    · rcases List.mem_append.1 hx with hx | hx
      · exact h.fb x hx
      · exact hrow.lt x hx
  unfold ans0 at hW
  clear h hB hRes hZ hrW hrow hne ld lc n2 hcr
  obtain ⟨q, hq⟩ : ∃ q, (s.F ++ bs).length = q := ⟨_, rfl⟩
  rw [hq] at HD HFin ⊢
  generalize bs.length = bl at *
  go_enter Tryz.func16, Tryz.ntmps16
  go_wp2_with fail
  refine Calls.mono HD.out ?_
  rintro r V1 ⟨⟨u, rfl⟩, h2, h3⟩
  have H2 : Hid (DigAt V1 l.cd l.tb (Crc.crc (s.F ++ bs)) q) := h2
  have H3 : Hid (Only l.cd W V1) := h3
  have m1 := HM.out V1 h3
  clear h2 h3 HD hW
  go_wp2_with fail
  refine Calls.mono (HF.out V1 H3.out) ?_
  rintro r V2 ⟨⟨u2, rfl⟩, h4, h5⟩
  obtain ⟨hR2, hd2, _⟩ := HFin.out V1 V2 (.int .u32 0) (.int .u32 0) (.int .u64 (q : Int)) (.int .u64 0) (.slice none 0 0) (.int .u8 0) H3.out H2.out h5 h4
  have HG : Hid (RSt B w (ansW V2 w.heap.size (.int .u32 0) (.int .u32 0) (.int .u64 (q : Int)) (.int .u64 0) (.slice none 0 0) (.int .u8 0)) e l l { s with F := s.F ++ bs }) := (HFin.out V1 V2 _ _ _ _ _ _ H3.out H2.out h5 h4).2.2
  have HR2 : Hid (Res V2 w.heap.size) := hR2
  obtain ⟨r0, r1, r2, r3, r4, r5, rf⟩ := hR2.cells
  have m1 := HM2.out V2 h4
  have HL2 : Hid (Calls Tryz.prog 19 #[.pointer (some ⟨l.cd, 0, none⟩)] V2 fun r w' => r = .returned (.int .u64 (q : Int)) ∧ w' = V2) := HLn.out V2 q hd2
  clear h4 h5 hR2 hd2 HFin HF HLn HM HM2 H2 H3
  go_wp2_with fail
  refine Calls.mono HL2.out ?_
  rintro r w9 ⟨rfl, hw⟩
  rw [hw]
  clear hw w9 HL2
  go_wp2
  exact retFeed rfl rfl HR2.out ⟨rfl, HG.out⟩
end
end Go.Proofs.Qxb6500698aGreatDoor
