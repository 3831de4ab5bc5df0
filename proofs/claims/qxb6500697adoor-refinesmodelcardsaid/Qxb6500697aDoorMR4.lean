/-
  THE BENCH's STEP: KRebuild.
-/
import Derived.Test.Qxb6500697aDoorMR3
namespace Go.Proofs.Qxb6500697aDoor
open Go.RowKit

/-- A shard laid into a box. -/
def box4 (w : World) (b : Nat) (p q r s : Value) : World := (((w.setCell ⟨b, 0, none⟩ p).setCell ⟨b, 1, none⟩ q).setCell ⟨b, 2, none⟩ r).setCell ⟨b, 3, none⟩ s
theorem box4_only (w : World) (b : Nat) (p q r s : Value) : Only b w (box4 w b p q r s) := ((((Only.refl _ _).setCell _ _).setCell _ _).setCell _ _).setCell _ _
theorem box4_new {w : World} {b : Nat} {p q r s a0 a1 a2 a3 : Value} {t : TypeId} (h : w.heap[b]? = some (.cells #[a0, a1, a2, a3] t (0, 0))) : (box4 w b p q r s).heap[b]? = some (.cells #[p, q, r, s] t (0, 0)) := by
  simp [box4, World.setCell, Array.getElem?_modify, h]

section
variable {B : Nat} {w W V w8 wx : World} {bb sb cb mb k m k2 m2 : Nat} {v1 v2 : Value} {ss ts : List Sd} {pm : Nat} {o : KOp} {R : Nat} {g : Nat} {ix ol : Int} {pa : Option Addr} {pl pc : Nat} {x : Option Nat} {Bx : Nat}
/-- What the answer of Rebuild says. -/
def An4 (k m : Nat) (ss : List Sd) (o : KOp) (S : Nat) (w8 : World) (g : Nat) (ix ol : Int) (pa : Option Addr) (pl pc : Nat) (x : Option Nat) : Prop :=
  (∃ i, x = some i ∧ i < 9 ∧ Spec k m ss o (ansE (i + 1)) k m ss) ∨ (x = none ∧ ∃ P, SdOk w8 ⟨g, ix, ol, pa, pl, pc, P⟩ ∧ pl ≤ 65536 ∧ (0 < pl → ∀ b o', pa = some ⟨b, o', none⟩ → S ≤ b) ∧ Spec k m ss o { ansE 0 with sh := [⟨g, ix, ol, pa, pl, pc, P⟩] } k m ss)
structure RR4 (W V w8 : World) (bb sb mb k m : Nat) (v1 : Value) (ss : List Sd) (v2 : Value) (ts : List Sd) (o : KOp) (R : Nat) (g : Nat) (ix ol : Int) (pa : Option Addr) (pl pc : Nat) (x : Option Nat) : Prop where
  mu : Mut mb V w8
  ca : Cache (fun b => XS bb sb v1 ss v2 ts (fun b => b = R) b ∨ (W.heap.size ≤ b ∧ b < V.heap.size)) w8 mb k (k + m)
  an : An4 k m ss o V.heap.size w8 g ix ol pa pl pc x
structure RE4 (B : Nat) (W wx : World) (bb sb cb mb k m k2 m2 : Nat) (v1 : Value) (ss : List Sd) (v2 : Value) (ts : List Sd) (pm : Nat) (o : KOp) (R : Nat) (Bx : Nat) (g : Nat) (ix ol : Int) (pa : Option Addr) (pl pc : Nat) (x : Option Nat) : Prop where
  rs : RS B wx bb sb cb mb k m k2 m2 v1 ss v2 ts pm (fun b => b = R)
  mu : Mut mb W wx
  er : ∀ e, KErrs 10 W e → KErrs 10 wx e
  mp : ¬ OpBlk W mb
  bx : wx.heap[Bx]? = some (.cells #[.int .u8 (g : Int), .int .i64 ix, .int .i64 ol, .slice pa pl pc] 60 (0, 0))
  an : An4 k m ss o W.heap.size wx g ix ol pa pl pc x

theorem An4.keep {S S' : Nat} (h : An4 k m ss o S w8 g ix ol pa pl pc x) (hs : S' ≤ S) (hk : ∀ b, S ≤ b → wx.heap[b]? = w8.heap[b]?) : An4 k m ss o S' wx g ix ol pa pl pc x := by
  rcases h with h | ⟨hx, P, h1, h2, h3, h4⟩
  · exact .inl h
  · exact .inr ⟨hx, P, h1.blocks (fun h0 b o' he _ => hk b (h3 h0 b o' he)), h2, fun h0 b o' he => Nat.le_trans hs (h3 h0 b o' he), h4⟩
theorem RR4.bc (h : RR4 W V w8 bb sb mb k m v1 ss v2 ts o R g ix ol pa pl pc x) (hmb : mb < W.heap.size) (Bx : Nat) (hW : W.heap.size ≤ Bx) (hz : V.heap[Bx]? = some (.cells #[.int .u8 0, .int .i64 0, .int .i64 0, .slice none 0 0] 60 (0, 0))) : w8.cell? ⟨Bx, 0, none⟩ = some (.int .u8 0) ∧ w8.cell? ⟨Bx, 1, none⟩ = some (.int .i64 0) ∧ w8.cell? ⟨Bx, 2, none⟩ = some (.int .i64 0) ∧ w8.cell? ⟨Bx, 3, none⟩ = some (.slice none 0 0) ∧ ∀ i, w8.frozen? ⟨Bx, i, none⟩ = false := by
  have hz8 := (h.mu.block Bx (heap_lt hz) (by omega)).trans hz
  refine ⟨?_, ?_, ?_, ?_, fun i => ?_⟩ <;> simp [World.cell?, World.frozen?, hz8]
/-- The tail that all orders share. -/
theorem RR4.fin (hRW : RS B W bb sb cb mb k m k2 m2 v1 ss v2 ts pm (fun b => b = R)) (hM : Mut mb W wx) (hc : Cache (XS bb sb v1 ss v2 ts (fun b => b = R)) wx mb k (k + m)) (hbx : wx.heap[Bx]? = some (.cells #[.int .u8 (g : Int), .int .i64 ix, .int .i64 ol, .slice pa pl pc] 60 (0, 0))) (ha : An4 k m ss o W.heap.size wx g ix ol pa pl pc x) : RE4 B W wx bb sb cb mb k m k2 m2 v1 ss v2 ts pm o R Bx g ix ol pa pl pc x := by
  have hk : Keeps W wx := hRW.keeps (fun b hb hn => hM.block b hb hn)
  obtain ⟨es, clock, hmm, _⟩ := hRW.cache.ents
  exact ⟨hRW.mut hM hc, hM, fun e he => he.keeps hk (fun b hb ⟨c, t, f, hcc⟩ => hM.block b hb (fun e => by rw [e, hmm] at hcc; cases hcc)), hRW.cache.noOp, hbx, ha⟩
theorem RR4.fin1 (hRW : RS B W bb sb cb mb k m k2 m2 v1 ss v2 ts pm (fun b => b = R)) (hb : Below W.heap.size W V) (h : RR4 W V w8 bb sb mb k m v1 ss v2 ts o R g ix ol pa pl pc x) :
    RE4 B W (w8.alloc (.cells #[.int .u8 (g : Int), .int .i64 ix, .int .i64 ol, .slice pa pl pc] 60)) bb sb cb mb k m k2 m2 v1 ss v2 ts pm o R w8.heap.size g ix ol pa pl pc x := by
  have hB : Below w8.heap.size w8 (w8.alloc (.cells #[.int .u8 (g : Int), .int .i64 ix, .int .i64 ol, .slice pa pl pc] 60)) := (Below.refl _ _).alloc (Nat.le_refl _) _
  refine RR4.fin hRW (((Below.mut hb mb).trans h.mu).trans (Below.mut hB mb)) ((h.ca.below hB).weak (fun b hb => .inl hb)) (heap_alloc_new w8 _) ?_
  rcases h.an with h1 | ⟨hx, P, h1, h2, h3, h4⟩
  · exact .inl h1
  · exact .inr ⟨hx, P, h1.keeps (Below.keeps hB), h2, fun h0 b o' he => Nat.le_trans hb.size (h3 h0 b o' he), h4⟩
theorem RR4.fin2 (hRW : RS B W bb sb cb mb k m k2 m2 v1 ss v2 ts pm (fun b => b = R)) (hb : Below W.heap.size W V) (hW : W.heap.size ≤ Bx) (hz : V.heap[Bx]? = some (.cells #[.int .u8 0, .int .i64 0, .int .i64 0, .slice none 0 0] 60 (0, 0))) (h : RR4 W V w8 bb sb mb k m v1 ss v2 ts o R g ix ol pa pl pc x) :
    RE4 B W (box4 w8 Bx (.int .u8 (g : Int)) (.int .i64 ix) (.int .i64 ol) (.slice pa pl pc)) bb sb cb mb k m k2 m2 v1 ss v2 ts pm o R Bx g ix ol pa pl pc x := by
  have hV : Bx < V.heap.size := heap_lt hz
  have hmb : mb < W.heap.size := hRW.cache.lt
  have hO := box4_only w8 Bx (.int .u8 (g : Int)) (.int .i64 ix) (.int .i64 ol) (.slice pa pl pc)
  have hz8 := (h.mu.block Bx hV (by omega)).trans hz
  have hM : Mut mb W w8 := (Below.mut hb mb).trans h.mu
  have hMx : Mut mb W (box4 w8 Bx (.int .u8 (g : Int)) (.int .i64 ix) (.int .i64 ol) (.slice pa pl pc)) := by
    have hBx : Below Bx w8 (box4 w8 Bx (.int .u8 (g : Int)) (.int .i64 ix) (.int .i64 ol) (.slice pa pl pc)) := hO.below (Nat.le_refl _)
    exact ⟨hBx.os.trans hM.os, hBx.tape.trans hM.tape, hBx.output.trans hM.output, Nat.le_trans hM.size hBx.size, fun b hb hn => (hO.block b (by omega)).trans (hM.block b hb hn)⟩
  refine RR4.fin hRW hMx ?_ (box4_new hz8) (h.an.keep hb.size (fun b hb => hO.block b (by omega)))
  refine (h.ca.keepX (fun hx => ?_) (fun b hn _ => hO.block b (fun e => hn (.inr ⟨by omega, by omega⟩)))).weak (fun b hb => .inl hb)
  rcases hx with hx | hx
  · exact hRW.noMb hx
  · omega
theorem RE4.res (h : RE4 B W wx bb sb cb mb k m k2 m2 v1 ss v2 ts pm o R Bx g ix ol pa pl pc x) {w3 : World} (hb : Below wx.heap.size wx w3) (hR : Res W R) : Res w3 R := by
  have hz := h.rs.hz R rfl
  have hl : R < W.heap.size := heap_lt hR
  have hm : R ≠ mb := fun e => h.rs.noMb (.inr (.inr (.inr (.inr e.symm))))
  exact (hR.keep (h.mu.block R hl hm)).keep (hb.block R hz.1)
theorem RE4.bel (h : RE4 B W wx bb sb cb mb k m k2 m2 v1 ss v2 ts pm o R Bx g ix ol pa pl pc x) {w3 : World} (hb : Below wx.heap.size wx w3) (hW : BelR B w W ∧ B ≤ W.heap.size) : BelR B w w3 := by
  have h1 : BelR B w wx := bel_mut hW.1 h.mu hW.2 h.rs.ge.2.2 h.mp
  exact bel_trans h1 hb (Nat.le_trans hW.2 h.mu.size)
end
/-- What Rebuild gives. -/
def RP4 (W V : World) (bb sb mb k m : Nat) (v1 : Value) (ss : List Sd) (v2 : Value) (ts : List Sd) (o : KOp) (R : Nat) (e : Nat → Addr) (r : Ending) (w8 : World) : Prop :=
  ∃ g ix ol pa pl pc x, r = .returned (.tuple #[.agg #[.int .u8 (g : Nat), .int .i64 ix, .int .i64 ol, .slice pa pl pc], errV e x]) ∧ RR4 W V w8 bb sb mb k m v1 ss v2 ts o R g ix ol pa pl pc x ∧ Keeps W w8

set_option maxRecDepth 100000 in
set_option maxHeartbeats 8000000 in
theorem stepR4_go {B : Nat} {w : World} {bb sb cb mb k m k2 m2 : Nat} {v1 v2 : Value} {ss ts : List Sd} {pm : Nat} {o : KOp} {e : Nat → Addr} (h : InR B w bb sb cb mb k m k2 m2 v1 ss v2 ts pm o e) (h0 : o.kind = 4)
    (hop : ∀ W V v, RS B W bb sb cb mb k m k2 m2 v1 ss v2 ts pm (fun b => b = w.heap.size + 1) → KErrs 10 W e → SOut W.heap.size V v (pk o.pick ss) → Below W.heap.size W V → Calls Tryd.prog 28 #[.pointer (some ⟨cb, 0, none⟩), .int .i64 o.index, v] V (RP4 W V bb sb mb k m v1 ss v2 ts o (w.heap.size + 1) e)) :
    Calls Tryd.prog 14 #[.pointer (some ⟨bb, 0, none⟩), opV o] w (StepR B w bb sb k m k2 m2 ss v2 ts pm o) := by
  have hI : Tryd.prog.isIface 48 = true := by kernel_rfl
  have hP := pro w o
  obtain ⟨W, hW⟩ : ∃ W, (w.alloc (opB o)).alloc ansZ = W := ⟨_, rfl⟩
  rw [hW] at hP
  obtain ⟨hRW, hBW⟩ := begR h.rs hP
  have HBW : Hid (BelR B w W ∧ B ≤ W.heap.size) := ⟨hBW, by have := hRW.hz _ rfl; omega⟩
  have c0 : W.cell? ⟨w.heap.size, 0, none⟩ = some (.int .u8 o.kind) := hP.cell 0
  have c5 : W.cell? ⟨w.heap.size, 5, none⟩ = some (.slice o.pa o.pick.length o.pc) := hP.cell 5
  have c6 : W.cell? ⟨w.heap.size, 6, none⟩ = some (.int .i64 o.index) := hP.cell 6
  have d0 := hRW.c0
  have b0 : ((o.kind : Int) == 0) = false := by simp; omega
  have b1 : ((o.kind : Int) == 1) = false := by simp; omega
  have b2 : ((o.kind : Int) == 2) = false := by simp; omega
  have b3 : ((o.kind : Int) == 3) = false := by simp; omega
  have b4 : ((o.kind : Int) == 4) = true := by simp; omega
  have HE : Hid (KErrs 10 W e) := h.E.below hP.bel
  have HRes : Hid (Res W (w.heap.size + 1)) := hP.res
  have HKd : Hid (∀ V, Keeps W V → V.cell? ⟨bb, 0, none⟩ = some (.pointer (some ⟨cb, 0, none⟩)) ∧ V.cell? ⟨w.heap.size, 5, none⟩ = some (.slice o.pa o.pick.length o.pc) ∧ V.cell? ⟨w.heap.size, 6, none⟩ = some (.int .i64 o.index)) := fun V hV => ⟨hV _ _ _ d0, hV _ _ _ c5, hV _ _ _ c6⟩
  have HPk : Hid (∀ V, Below W.heap.size W V → Calls Tryd.prog 39 #[.pointer (some ⟨bb, 0, none⟩), .slice o.pa o.pick.length o.pc] V fun r w' => ∃ v, r = .returned v ∧ SOut W.heap.size w' v (pk o.pick ss) ∧ Below V.heap.size V w' ∧ Below W.heap.size W w') := by
    intro V hb
    have hRV := hRW.below hb
    obtain ⟨ao, cap, hv, hS⟩ := hRV.t1.row
    refine (picked_any V bb ao cap ss o.pa o.pc o.pick (by rw [← hv]; exact hRV.c1) hS hRV.l1 ((h.op.keeps (Below.keeps hP.bel)).keeps (Below.keeps hb)).pk h.op.pl).mono ?_
    rintro r w' ⟨v, hr, hs, hb'⟩
    exact ⟨v, hr, ⟨hs.own.base hb.size, hs.ok⟩, hb', hb.trans (hb'.mono hb.size)⟩
  have HOp : Hid (∀ V v, SOut W.heap.size V v (pk o.pick ss) → Below W.heap.size W V → Calls Tryd.prog 28 #[.pointer (some ⟨cb, 0, none⟩), .int .i64 o.index, v] V (RP4 W V bb sb mb k m v1 ss v2 ts o (w.heap.size + 1) e)) := fun V v hs hb => hop W V v hRW HE.out hs hb
  have HRW : Hid (RS B W bb sb cb mb k m k2 m2 v1 ss v2 ts pm (fun b => b = w.heap.size + 1)) := hRW
  unfold opB ansZ at hW
  unfold opV
  have HFar : Hid (∀ b, W.heap.size ≤ b → ¬ (PM sb v2 ts b ∨ b = w.heap.size + 1)) := fun b hb => hRW.far hb
  have HWsz : Hid (w.heap.size < W.heap.size) := by have := hP.sz; show w.heap.size < W.heap.size; omega
  clear h hP hRW hBW hop h0
  go_enter Tryd.func14, Tryd.ntmps14
  go_upto_region 22 with fail
  clear hW c0 c5 c6 d0
  go_cut [11, 12] from 117 to 130 (fun bv ev wx => ∃ Bx g ix ol pa pl pc x, bv = .pointer (some ⟨Bx, 0, none⟩) ∧ ev = errV e x ∧ RE4 B W wx bb sb cb mb k m k2 m2 v1 ss v2 ts pm o (w.heap.size + 1) Bx g ix ol pa pl pc x)
  case first =>
    have HKW : Hid (∀ V, Below W.heap.size W V → Keeps W V) := fun V hb => Below.keeps hb
    have hbW : bb < W.heap.size ∧ w.heap.size < W.heap.size := ⟨heap_lt HRW.out.hb, HWsz.out⟩
    have HKs : Hid (∀ V Bx p q r s, W.heap.size ≤ Bx → Keeps W V → (box4 V Bx p q r s).cell? ⟨bb, 0, none⟩ = some (.pointer (some ⟨cb, 0, none⟩)) ∧ (box4 V Bx p q r s).cell? ⟨w.heap.size, 5, none⟩ = some (.slice o.pa o.pick.length o.pc) ∧ (box4 V Bx p q r s).cell? ⟨w.heap.size, 6, none⟩ = some (.int .i64 o.index)) := fun V Bx p q r s hle hk => by
      obtain ⟨e0, e1, e2⟩ := HKd.out V hk
      have n1 : bb ≠ Bx := by omega
      have n2 : w.heap.size ≠ Bx := by omega
      exact ⟨(World.cell?_of_block (a := ⟨bb, 0, none⟩) ((box4_only V Bx p q r s).block bb n1)).trans e0, (World.cell?_of_block (a := ⟨w.heap.size, 5, none⟩) ((box4_only V Bx p q r s).block w.heap.size n2)).trans e1, (World.cell?_of_block (a := ⟨w.heap.size, 6, none⟩) ((box4_only V Bx p q r s).block w.heap.size n2)).trans e2⟩
    unfold box4 at HKs
    have HA : Hid (∀ V w8 g ix ol pa pl pc x, Below W.heap.size W V → RR4 W V w8 bb sb mb k m v1 ss v2 ts o (w.heap.size + 1) g ix ol pa pl pc x → RE4 B W (w8.alloc (.cells #[.int .u8 (g : Int), .int .i64 ix, .int .i64 ol, .slice pa pl pc] 60)) bb sb cb mb k m k2 m2 v1 ss v2 ts pm o (w.heap.size + 1) w8.heap.size g ix ol pa pl pc x) := fun V w8 g ix ol pa pl pc x h1 h2 => RR4.fin1 HRW.out h1 h2
    have HBb : Hid (∀ V w8 Bx g ix ol pa pl pc x, Below W.heap.size W V → W.heap.size ≤ Bx → V.heap[Bx]? = some (.cells #[.int .u8 0, .int .i64 0, .int .i64 0, .slice none 0 0] 60 (0, 0)) → RR4 W V w8 bb sb mb k m v1 ss v2 ts o (w.heap.size + 1) g ix ol pa pl pc x → RE4 B W (box4 w8 Bx (.int .u8 (g : Int)) (.int .i64 ix) (.int .i64 ol) (.slice pa pl pc)) bb sb cb mb k m k2 m2 v1 ss v2 ts pm o (w.heap.size + 1) Bx g ix ol pa pl pc x) := fun V w8 Bx g ix ol pa pl pc x h1 h2 h3 h4 => RR4.fin2 HRW.out h1 h2 h3 h4
    unfold box4 at HBb
    have HMb : Hid (mb < W.heap.size) := HRW.out.cache.lt
    clear hbW
    go_region_held3 (fun w' => w'.cell? ⟨bb, 0, none⟩ = some (.pointer (some ⟨cb, 0, none⟩)) ∧ w'.cell? ⟨w.heap.size, 5, none⟩ = some (.slice o.pa o.pick.length o.pc) ∧ w'.cell? ⟨w.heap.size, 6, none⟩ = some (.int .i64 o.index))
      (first | with_reducible exact HKd.out _ (HKW.out _ (Below.refl _ _).drew) | with_reducible exact HKd.out _ (HKW.out _ HB1.out) | with_reducible exact HKd.out _ HK2.out | with_reducible exact HKd.out _ (HKW.out _ ((Below.refl _ _).alloc (Nat.le_refl _) _).drew) | with_reducible exact HKd.out _ (HKW.out _ ((Below.refl _ _).drew.alloc (Nat.le_refl _) _)) | with_reducible exact HKd.out _ (HKW.out _ ((Below.refl _ _).alloc (Nat.le_refl _) _)) | with_reducible exact HKd.out _ (HKW.out _ (HB1.out.alloc HB1.out.size _)) | with_reducible exact HKd.out _ (HK2a.out _) | with_reducible exact HKs.out _ _ _ _ _ _ (Nat.le_refl _) HK2.out | with_reducible exact HKs.out _ _ _ _ _ _ HB1.out.size HK2.out)
      (first
        | (go_at_call 39; refine (HPk.out _ (by first | with_reducible exact Below.refl _ _ | with_reducible exact (Below.refl _ _).drew | with_reducible exact (Below.refl _ _).alloc (Nat.le_refl _) _ | with_reducible exact ((Below.refl _ _).alloc (Nat.le_refl _) _).drew | with_reducible exact (Below.refl _ _).drew.alloc (Nat.le_refl _) _)).mono ?_; rintro r w7 ⟨v, rfl, hs1, hb0, hb1⟩; have HS1 : Hid (SOut W.heap.size w7 v (pk o.pick ss)) := hs1; have HB0 : Hid _ := hb0; have HB1 : Hid (Below W.heap.size W w7) := hb1; clear hs1 hb0 hb1)
        | (go_at_call 28; refine (HOp.out _ _ (by first | with_reducible exact HS1.out | with_reducible exact HS1.out.below (Below.refl _ _).drew | with_reducible exact HS1.out.below ((Below.refl _ _).alloc (Nat.le_refl _) _) | with_reducible exact HS1.out.below ((Below.refl _ _).alloc (Nat.le_refl _) _).drew | with_reducible exact HS1.out.below ((Below.refl _ _).drew.alloc (Nat.le_refl _) _)) (by first | with_reducible exact HB1.out | with_reducible exact HB1.out.drew | with_reducible exact HB1.out.alloc HB1.out.size _ | with_reducible exact (HB1.out.alloc HB1.out.size _).drew | with_reducible exact HB1.out.drew.alloc HB1.out.size _)).mono ?_; rintro r w8 ⟨g, ix, ol, pa, pl, pc, x, rfl, hrr, hk2⟩; have HR4 : Hid (RR4 W _ w8 bb sb mb k m v1 ss v2 ts o (w.heap.size + 1) g ix ol pa pl pc x) := hrr; have HK2 : Hid (Keeps W w8) := hk2; have HK2a : Hid (∀ o, Keeps W (w8.alloc o)) := (fun o => hk2.trans (Below.keeps ((Below.refl _ _).alloc (Nat.le_refl _) o))); clear hk2; first | (with_reducible have hq := hrr.bc HMb.out w7.heap.size HB1.out.size (heap_alloc_new w7 _); obtain ⟨fb0, fb1, fb2, fb3, ffb⟩ := hq; clear hrr) | (with_reducible have hq := hrr.bc HMb.out w7.heap.size HB1.out.size (heap_alloc_drew w7 _); obtain ⟨fb0, fb1, fb2, fb3, ffb⟩ := hq; clear hrr) | (with_reducible have hq := hrr.bc HMb.out W.heap.size (Nat.le_refl _) ((HB0.out.block W.heap.size (lt_alloc W _)).trans (heap_alloc_new W _)); obtain ⟨fb0, fb1, fb2, fb3, ffb⟩ := hq; clear hrr) | (with_reducible have hq := hrr.bc HMb.out W.heap.size (Nat.le_refl _) ((HB0.out.block W.heap.size (lt_alloc_drew W _)).trans (heap_alloc_drew W _)); obtain ⟨fb0, fb1, fb2, fb3, ffb⟩ := hq; clear hrr) | clear hrr))
    all_goals
      go_wp2
      go_meet
      first
        | with_reducible exact ⟨w8.heap.size, g, ix, ol, pa, pl, pc, x, rfl, rfl, HA.out _ w8 g ix ol pa pl pc x HB1.out HR4.out⟩
        | with_reducible exact ⟨w7.heap.size, g, ix, ol, pa, pl, pc, x, rfl, rfl, HBb.out _ w8 w7.heap.size g ix ol pa pl pc x (HB1.out.alloc HB1.out.size _) HB1.out.size (heap_alloc_new w7 _) HR4.out⟩
        | with_reducible exact ⟨w7.heap.size, g, ix, ol, pa, pl, pc, x, rfl, rfl, HBb.out _ w8 w7.heap.size g ix ol pa pl pc x (HB1.out.alloc HB1.out.size _).drew HB1.out.size (heap_alloc_drew w7 _) HR4.out⟩
        | with_reducible exact ⟨W.heap.size, g, ix, ol, pa, pl, pc, x, rfl, rfl, HBb.out _ w8 W.heap.size g ix ol pa pl pc x HB1.out (Nat.le_refl _) ((HB0.out.block W.heap.size (lt_alloc W _)).trans (heap_alloc_new W _)) HR4.out⟩
        | with_reducible exact ⟨W.heap.size, g, ix, ol, pa, pl, pc, x, rfl, rfl, HBb.out _ w8 W.heap.size g ix ol pa pl pc x HB1.out (Nat.le_refl _) ((HB0.out.block W.heap.size (lt_alloc_drew W _)).trans (heap_alloc_drew W _)) HR4.out⟩
  case rest =>
    obtain ⟨wx, hwx⟩ : ∃ x, x = wc := ⟨_, rfl⟩
    subst hwx
    obtain ⟨Bx, g, ix, ol, pa, pl, pc, x, rfl, rfl, hRE⟩ := hcut
    have HRE : Hid (RE4 B W wx bb sb cb mb k m k2 m2 v1 ss v2 ts pm o (w.heap.size + 1) Bx g ix ol pa pl pc x) := hRE
    clear HKd HPk HOp HRW HWsz
    rcases hRE.an with ⟨i, rfl, hi, hsp⟩ | ⟨rfl, P, hok, hpl, hge, hsp⟩
    · have HSpec : Hid (Spec k m ss o (ansE (i + 1)) k m ss) := hsp
      have HCl : Hid _ := class_any wx e (hRE.er e HE.out) i hi
      unfold errV at HCl ⊢
      obtain ⟨i1, hi1⟩ : ∃ i1, i + 1 = i1 := ⟨_, rfl⟩
      rw [hi1] at HCl HSpec
      have hi9 : i1 < 256 := by omega
      clear hsp hRE HE hi1 hi
      go_wp2_with fail
      refine Calls.mono HCl.out ?_
      rintro r w3 ⟨rfl, hb3⟩
      have hres3 : Res w3 (w.heap.size + 1) := HRE.out.res hb3 HRes.out
      have HR3 : Hid (Res w3 (w.heap.size + 1)) := hres3
      obtain ⟨r0, r1, r2, r3, r4, rf⟩ := hres3.cells
      have HF : Hid (StepR B w bb sb k m k2 m2 ss v2 ts pm o (.returned (.agg #[.int .u8 (i1 : Int), .slice none 0 0, .slice none 0 0, .slice none 0 0, .int .i64 0])) (ansW w3 (w.heap.size + 1) (.int .u8 (i1 : Int)) (.slice none 0 0) (.slice none 0 0) (.slice none 0 0) (.int .i64 0))) :=
        finR (cb := cb) (mb := mb) (v1 := v1) ((HRE.out.rs.below hb3).more (Nat.le_succ _)) HSpec.out (HRE.out.bel hb3 HBW.out) (fun w4 _ => AnsOk.num w4 i1 0)
      clear hb3 hres3 HCl HBW HRes HRE HSpec
      go_wp2
      exact retR rfl rfl HR3.out HF.out
    · have q0 : wx.cell? ⟨Bx, 0, none⟩ = some (.int .u8 (g : Int)) := by simp [World.cell?, hRE.bx]
      have q1 : wx.cell? ⟨Bx, 1, none⟩ = some (.int .i64 ix) := by simp [World.cell?, hRE.bx]
      have q2 : wx.cell? ⟨Bx, 2, none⟩ = some (.int .i64 ol) := by simp [World.cell?, hRE.bx]
      have q3 : wx.cell? ⟨Bx, 3, none⟩ = some (.slice pa pl pc) := by simp [World.cell?, hRE.bx]
      obtain ⟨w3, hw3⟩ : ∃ w3, wx.alloc (.cells #[.int .u8 (g : Int), .int .i64 ix, .int .i64 ol, .slice pa pl pc] 60) = w3 := ⟨_, rfl⟩
      have hb3 : Below wx.heap.size wx w3 := by rw [← hw3]; exact (Below.refl _ _).alloc (Nat.le_refl _) _
      have hx3 : w3.heap[wx.heap.size]? = some (.cells #[.int .u8 (g : Int), .int .i64 ix, .int .i64 ol, .slice pa pl pc] 60 (0, 0)) := by rw [← hw3]; exact heap_alloc_new wx _
      have hS3 : SdRow w3 (some ⟨wx.heap.size, 0, none⟩) [⟨g, ix, ol, pa, pl, pc, P⟩] := by
        refine ⟨fun _ => ⟨wx.heap.size, rfl, fun j hj => ?_⟩, fun s hs => ?_⟩
        · have h0 : j = 0 := by simp at hj; omega
          subst h0
          simp [World.cell?, hx3]
        · rw [List.mem_singleton.1 hs]; exact hok.keeps (Below.keeps hb3)
      have hres3 : Res w3 (w.heap.size + 1) := hRE.res hb3 HRes.out
      have HR3 : Hid (Res w3 (w.heap.size + 1)) := hres3
      obtain ⟨r0, r1, r2, r3, r4, rf⟩ := hres3.cells
      have hWx := hRE.mu.size
      have HF : Hid (StepR B w bb sb k m k2 m2 ss v2 ts pm o (.returned (.agg #[.int .u8 0, .slice none 0 0, .slice (some ⟨wx.heap.size, 0, none⟩) 1 1, .slice none 0 0, .int .i64 0])) (ansW w3 (w.heap.size + 1) (.int .u8 0) (.slice none 0 0) (.slice (some ⟨wx.heap.size, 0, none⟩) 1 1) (.slice none 0 0) (.int .i64 0))) := by
        refine finR (cb := cb) (mb := mb) (v1 := v1) ((hRE.rs.below hb3).more (Nat.le_succ _)) hsp (hRE.bel hb3 HBW.out) (fun w4 hC => ?_)
        refine AnsOk.shards (er := 0) (hS3.chg hC (fun b o' _ he => ?_) (fun s hs h1 b o' h2 => ?_)) (by simp) (fun s hs => by rw [List.mem_singleton.1 hs]; exact hpl)
        · cases he; exact hRE.rs.far (Nat.le_refl _)
        · rw [List.mem_singleton.1 hs] at h1 h2
          exact HFar.out b (hge h1 b o' h2)
      clear hb3 hres3 HBW HRes HRE hRE hsp hok hge hpl hx3 hS3 hWx HE HFar
      unfold errV
      go_wp2
      exact retR rfl rfl HR3.out HF.out
end Go.Proofs.Qxb6500697aDoor
