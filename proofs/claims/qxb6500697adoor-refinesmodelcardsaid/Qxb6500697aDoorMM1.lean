/-
  THE MODEL's STEP: KEncode, KEncodeMore.
-/
import Derived.Test.Qxb6500697aDoorMM6
import Derived.Test.Qxb6500697aDoorMM8
namespace Go.Proofs.Qxb6500697aDoor
open Go.RowKit

theorem one_cell3 {w : World} {b : Nat} {p q r v : Value} {t : TypeId} (h : w.heap[b]? = some (.cells #[p, q, r] t (0, 0))) : (w.setCell ⟨b, 2, none⟩ v).heap[b]? = some (.cells #[p, q, v] t (0, 0)) := by
  simp [World.setCell, Array.getElem?_modify, h]
section
variable {B : Nat} {w1 w2 w3 : World} {bb sb cb mb k m k2 m2 : Nat} {v1 v2 u v' : Value} {ss ts ys : List Sd} {pm : Nat} {Z : Nat → Prop}
/-- The model's tray exchanged for a new one. -/
theorem RS.swap2 (h : RS B w1 bb sb cb mb k m k2 m2 v1 ss v2 ts pm Z) (hb : Below w1.heap.size w1 w2) (hY : Tray w1.heap.size w2 u ys) (hl : ys.length ≤ 64) (hp : ∀ s ∈ ys, s.pl ≤ pm) : RS B (w2.setCell ⟨sb, 2, none⟩ u) bb sb cb mb k m k2 m2 v1 ss u ys pm Z := by
  have hbl := heap_lt h.hs
  have hB1 : B ≤ w1.heap.size := Nat.le_trans h.ge.2.1 (Nat.le_of_lt hbl)
  have hO : Only sb w2 (w2.setCell ⟨sb, 2, none⟩ u) := (Only.refl _ _).setCell _ _
  refine h.tray2 (by rw [hO.size]; exact hb.size) (one_cell3 ((hb.block sb hbl).trans h.hs)) (fun b hb' hne _ => (hO.block b hne).trans (hb.block b hb')) ((hY.base hB1).keep (fun b hx => hO.block b (fun e => ?_))) (fun b hx => .inr (hY.lt hx).1) hl hp (Nat.le_refl _) h.g2
  have := (hY.lt hx).1
  omega
/-- The model's tray grown by a new one's shards. -/
theorem RS.grow2 (h : RS B w1 bb sb cb mb k m k2 m2 v1 ss v2 ts pm Z) (hb : Below w1.heap.size w1 w2) (hY : Tray w1.heap.size w2 u ys) (hT : Tray B w3 v' (ts ++ ys)) (hG : w2.grownBy w3 v2.ownBlock) (h5 : v'.ownBlock = v2.ownBlock ∨ v'.ownBlock = some w2.heap.size) (hl : ts.length + ys.length ≤ 64) (hp : ∀ s ∈ ys, s.pl ≤ pm) : RS B (w3.setCell ⟨sb, 2, none⟩ v') bb sb cb mb k m k2 m2 v1 ss v' (ts ++ ys) pm Z := by
  have hbl := heap_lt h.hs
  have hO : Only sb w3 (w3.setCell ⟨sb, 2, none⟩ v') := (Only.refl _ _).setCell _ _
  have hn : ∀ b, tblk v' (ts ++ ys) b → tblk v2 ts b ∨ w1.heap.size ≤ b := fun b hx => by
    rcases hx with hx | ⟨s, hs, hx⟩
    · rcases h5 with h5 | h5
      · exact .inl (.inl (by rw [← h5]; exact hx))
      · rw [h5] at hx
        have e : w2.heap.size = b := by simpa using hx
        exact .inr (by have := hb.size; omega)
    · rcases List.mem_append.1 hs with hs | hs
      · exact .inl (.inr ⟨s, hs, hx⟩)
      · exact .inr (hY.lt (.inr ⟨s, hs, hx⟩)).1
  have hnb : ¬ tblk v' (ts ++ ys) sb := fun hx => by
    rcases hn sb hx with h6 | h6
    · exact h.nb2.2 h6
    · omega
  have hg : ∀ b, b < w1.heap.size → ¬ tblk v2 ts b → w3.heap[b]? = w1.heap[b]? := fun b hlt hnt => (hG.block b (Nat.lt_of_lt_of_le hlt hb.size) (fun e => hnt (.inl e.symm))).trans (hb.block b hlt)
  refine h.tray2 (by rw [hO.size]; exact Nat.le_trans hb.size hG.size) (one_cell3 ((hg sb hbl h.nb2.2).trans h.hs)) (fun b hb' hne hnt => (hO.block b hne).trans (hg b hb' hnt)) (hT.keep (fun b hx => hO.block b (fun e => hnb (by rw [← e]; exact hx)))) hn (by rw [List.length_append]; exact hl) (fun s hs => ?_) (Nat.le_refl _) h.g2
  rcases List.mem_append.1 hs with hs | hs
  · exact h.p2 s hs
  · exact hp s hs
end

set_option maxRecDepth 100000 in
set_option maxHeartbeats 4000000 in
theorem stepM1_gen1 {B : Nat} {w : World} {bb sb cb mb k m k2 m2 : Nat} {v1 v2 : Value} {ss ts : List Sd} {pm : Nat} {o : KOp} (h : InM B w bb sb cb mb k m k2 m2 v1 ss v2 ts pm o) (h0 : o.kind = 1) (hg : ¬ goodG o.gen) :
    Calls Tryd.prog 16 #[.pointer (some ⟨sb, 0, none⟩), opV o] w (StepM B w bb sb cb mb k m k2 m2 v1 ss v2 ts pm o) := by
  have hP := pro w o
  obtain ⟨W, hW⟩ : ∃ W, (w.alloc (opB o)).alloc ansZ = W := ⟨_, rfl⟩
  rw [hW] at hP
  obtain ⟨hRW, hBW⟩ := begR h.rs hP
  have HRW : Hid (RS B W bb sb cb mb k m k2 m2 v1 ss v2 ts pm (fun b => b = w.heap.size + 1)) := hRW
  have HPb : Hid (Below w.heap.size w W) := hP.bel
  have c0 : W.cell? ⟨w.heap.size, 0, none⟩ = some (.int .u8 o.kind) := hP.cell 0
  have c3 : W.cell? ⟨w.heap.size, 3, none⟩ = some (.int .u8 o.gen) := hP.cell 3
  have c4 : W.cell? ⟨w.heap.size, 4, none⟩ = some (.slice o.da o.bs.length o.dc) := hP.cell 4
  have d0 := hRW.s0
  have d1 := hRW.s1
  have b0 : ((o.kind : Int) == 0) = false := by simp; omega
  have b1 : ((o.kind : Int) == 1) = true := by simp; omega
  have HRes : Hid (Res W (w.heap.size + 1)) := hP.res
  have HKd : Hid (∀ V, Keeps W V → V.cell? ⟨sb, 0, none⟩ = some (.int .i64 (k2 : Int)) ∧ V.cell? ⟨sb, 1, none⟩ = some (.int .i64 (m2 : Int)) ∧ V.cell? ⟨w.heap.size, 3, none⟩ = some (.int .u8 (o.gen : Int)) ∧ V.cell? ⟨w.heap.size, 4, none⟩ = some (.slice o.da o.bs.length o.dc)) := fun V hV => ⟨hV _ _ _ d0, hV _ _ _ d1, hV _ _ _ c3, hV _ _ _ c4⟩
  have HKW : Hid (Keeps W W.drew) := Below.keeps (Below.refl _ _).drew
  have HEn : Hid (Calls Tryd.prog 43 #[.int .i64 (k2 : Int), .int .i64 (m2 : Int), .int .u8 (o.gen : Int), .slice o.da o.bs.length o.dc] W.drew fun r w1 => r = .returned (.tuple #[.slice none 0 0, .int .u8 2]) ∧ Below W.heap.size W w1 ∧ Keeps W w1) := by
    refine (mencode_gen (k2 : Int) (m2 : Int) o.gen o.bs.length o.dc o.da W.drew h.op.hgen (genOk_bad hg)).mono ?_
    rintro r w1 ⟨hr, hw⟩
    have hb : Below W.heap.size W w1 := by rw [hw]; exact (Below.refl _ _).drew
    exact ⟨hr, hb, Below.keeps hb⟩
  have HSp : Hid (Spec k2 m2 ts o (ansE 2) k2 m2 ts) := Spec.k1 (by omega) (.inl ⟨hg, AnsEq.refl _, Stay.refl _ _ _⟩)
  unfold opB ansZ at hW
  unfold opV
  clear h hP hRW hBW h0 hg
  go_enter Tryd.func16, Tryd.ntmps16
  go_upto_region 9 with fail
  clear hW c0 c3 c4 d0 d1
  go_region_held3 (fun w' => w'.cell? ⟨sb, 0, none⟩ = some (.int .i64 (k2 : Int)) ∧ w'.cell? ⟨sb, 1, none⟩ = some (.int .i64 (m2 : Int)) ∧ w'.cell? ⟨w.heap.size, 3, none⟩ = some (.int .u8 (o.gen : Int)) ∧ w'.cell? ⟨w.heap.size, 4, none⟩ = some (.slice o.da o.bs.length o.dc))
    (first | with_reducible exact HKd.out _ HKW.out | with_reducible exact HKd.out _ HK1.out)
    (first | (go_at_call 43; refine HEn.out.mono ?_; rintro r w1 ⟨rfl, hb1, hk1⟩; have HB1 : Hid (Below W.heap.size W w1) := hb1; have HK1 : Hid (Keeps W w1) := hk1; clear hb1 hk1))
  clear HEn HKd HKW HK1
  have hres1 : Res w1 (w.heap.size + 1) := HRes.out.below HB1.out
  have HR1 : Hid (Res w1 (w.heap.size + 1)) := hres1
  obtain ⟨r0, r1, r2, r3, r4, rf⟩ := hres1.cells
  have HF : Hid (StepM B w bb sb cb mb k m k2 m2 v1 ss v2 ts pm o (.returned (.agg #[.int .u8 2, .slice none 0 0, .slice none 0 0, .slice none 0 0, .int .i64 0])) (ansW w1 (w.heap.size + 1) (.int .u8 2) (.slice none 0 0) (.slice none 0 0) (.slice none 0 0) (.int .i64 0))) :=
    finM0 HRW.out HPb.out HB1.out HSp.out (fun w3 _ => AnsOk.num w3 2 0)
  clear hres1 HRW HPb HB1 HRes HSp
  go_wp2
  exact retM rfl rfl HR1.out HF.out

set_option maxRecDepth 100000 in
set_option maxHeartbeats 4000000 in
theorem stepM1_long1 {B : Nat} {w : World} {bb sb cb mb k m k2 m2 : Nat} {v1 v2 : Value} {ss ts : List Sd} {pm : Nat} {o : KOp} (h : InM B w bb sb cb mb k m k2 m2 v1 ss v2 ts pm o) (h0 : o.kind = 1) (hg : goodG o.gen) (hn : 256 < o.bs.length) :
    Calls Tryd.prog 16 #[.pointer (some ⟨sb, 0, none⟩), opV o] w (StepM B w bb sb cb mb k m k2 m2 v1 ss v2 ts pm o) := by
  have hP := pro w o
  obtain ⟨W, hW⟩ : ∃ W, (w.alloc (opB o)).alloc ansZ = W := ⟨_, rfl⟩
  rw [hW] at hP
  obtain ⟨hRW, hBW⟩ := begR h.rs hP
  have HRW : Hid (RS B W bb sb cb mb k m k2 m2 v1 ss v2 ts pm (fun b => b = w.heap.size + 1)) := hRW
  have HPb : Hid (Below w.heap.size w W) := hP.bel
  have c0 : W.cell? ⟨w.heap.size, 0, none⟩ = some (.int .u8 o.kind) := hP.cell 0
  have c3 : W.cell? ⟨w.heap.size, 3, none⟩ = some (.int .u8 o.gen) := hP.cell 3
  have c4 : W.cell? ⟨w.heap.size, 4, none⟩ = some (.slice o.da o.bs.length o.dc) := hP.cell 4
  have d0 := hRW.s0
  have d1 := hRW.s1
  have b0 : ((o.kind : Int) == 0) = false := by simp; omega
  have b1 : ((o.kind : Int) == 1) = true := by simp; omega
  have HRes : Hid (Res W (w.heap.size + 1)) := hP.res
  have HKd : Hid (∀ V, Keeps W V → V.cell? ⟨sb, 0, none⟩ = some (.int .i64 (k2 : Int)) ∧ V.cell? ⟨sb, 1, none⟩ = some (.int .i64 (m2 : Int)) ∧ V.cell? ⟨w.heap.size, 3, none⟩ = some (.int .u8 (o.gen : Int)) ∧ V.cell? ⟨w.heap.size, 4, none⟩ = some (.slice o.da o.bs.length o.dc)) := fun V hV => ⟨hV _ _ _ d0, hV _ _ _ d1, hV _ _ _ c3, hV _ _ _ c4⟩
  have HKW : Hid (Keeps W W.drew) := Below.keeps (Below.refl _ _).drew
  have HEn : Hid (Calls Tryd.prog 43 #[.int .i64 (k2 : Int), .int .i64 (m2 : Int), .int .u8 (o.gen : Int), .slice o.da o.bs.length o.dc] W.drew fun r w1 => r = .returned (.tuple #[.slice none 0 0, .int .u8 3]) ∧ Below W.heap.size W w1 ∧ Keeps W w1) := by
    refine (mencode_long (k2 : Int) (m2 : Int) o.gen o.bs.length o.dc o.da W.drew h.op.hgen (genOk_good hg) hn (by have := h.op.bl; omega)).mono ?_
    rintro r w1 ⟨hr, hw⟩
    have hb : Below W.heap.size W w1 := by rw [hw]; exact (Below.refl _ _).drew
    exact ⟨hr, hb, Below.keeps hb⟩
  have HSp : Hid (Spec k2 m2 ts o (ansE 3) k2 m2 ts) := Spec.k1 (by omega) (.inr (.inl ⟨hg, hn, AnsEq.refl _, Stay.refl _ _ _⟩))
  unfold opB ansZ at hW
  unfold opV
  clear h hP hRW hBW h0 hg
  go_enter Tryd.func16, Tryd.ntmps16
  go_upto_region 9 with fail
  clear hW c0 c3 c4 d0 d1
  go_region_held3 (fun w' => w'.cell? ⟨sb, 0, none⟩ = some (.int .i64 (k2 : Int)) ∧ w'.cell? ⟨sb, 1, none⟩ = some (.int .i64 (m2 : Int)) ∧ w'.cell? ⟨w.heap.size, 3, none⟩ = some (.int .u8 (o.gen : Int)) ∧ w'.cell? ⟨w.heap.size, 4, none⟩ = some (.slice o.da o.bs.length o.dc))
    (first | with_reducible exact HKd.out _ HKW.out | with_reducible exact HKd.out _ HK1.out)
    (first | (go_at_call 43; refine HEn.out.mono ?_; rintro r w1 ⟨rfl, hb1, hk1⟩; have HB1 : Hid (Below W.heap.size W w1) := hb1; have HK1 : Hid (Keeps W w1) := hk1; clear hb1 hk1))
  clear HEn HKd HKW HK1
  have hres1 : Res w1 (w.heap.size + 1) := HRes.out.below HB1.out
  have HR1 : Hid (Res w1 (w.heap.size + 1)) := hres1
  obtain ⟨r0, r1, r2, r3, r4, rf⟩ := hres1.cells
  have HF : Hid (StepM B w bb sb cb mb k m k2 m2 v1 ss v2 ts pm o (.returned (.agg #[.int .u8 3, .slice none 0 0, .slice none 0 0, .slice none 0 0, .int .i64 0])) (ansW w1 (w.heap.size + 1) (.int .u8 3) (.slice none 0 0) (.slice none 0 0) (.slice none 0 0) (.int .i64 0))) :=
    finM0 HRW.out HPb.out HB1.out HSp.out (fun w3 _ => AnsOk.num w3 3 0)
  clear hres1 HRW HPb HB1 HRes HSp
  go_wp2
  exact retM rfl rfl HR1.out HF.out

set_option maxRecDepth 100000 in
set_option maxHeartbeats 4000000 in
theorem stepM1_gen2 {B : Nat} {w : World} {bb sb cb mb k m k2 m2 : Nat} {v1 v2 : Value} {ss ts : List Sd} {pm : Nat} {o : KOp} (h : InM B w bb sb cb mb k m k2 m2 v1 ss v2 ts pm o) (h0 : o.kind = 2) (hg : ¬ goodG o.gen) :
    Calls Tryd.prog 16 #[.pointer (some ⟨sb, 0, none⟩), opV o] w (StepM B w bb sb cb mb k m k2 m2 v1 ss v2 ts pm o) := by
  have hP := pro w o
  obtain ⟨W, hW⟩ : ∃ W, (w.alloc (opB o)).alloc ansZ = W := ⟨_, rfl⟩
  rw [hW] at hP
  obtain ⟨hRW, hBW⟩ := begR h.rs hP
  have HRW : Hid (RS B W bb sb cb mb k m k2 m2 v1 ss v2 ts pm (fun b => b = w.heap.size + 1)) := hRW
  have HPb : Hid (Below w.heap.size w W) := hP.bel
  have c0 : W.cell? ⟨w.heap.size, 0, none⟩ = some (.int .u8 o.kind) := hP.cell 0
  have c3 : W.cell? ⟨w.heap.size, 3, none⟩ = some (.int .u8 o.gen) := hP.cell 3
  have c4 : W.cell? ⟨w.heap.size, 4, none⟩ = some (.slice o.da o.bs.length o.dc) := hP.cell 4
  have d0 := hRW.s0
  have d1 := hRW.s1
  have b0 : ((o.kind : Int) == 0) = false := by simp; omega
  have b1 : ((o.kind : Int) == 1) = false := by simp; omega
  have b2 : ((o.kind : Int) == 2) = true := by simp; omega
  have HRes : Hid (Res W (w.heap.size + 1)) := hP.res
  have HKd : Hid (∀ V, Keeps W V → V.cell? ⟨sb, 0, none⟩ = some (.int .i64 (k2 : Int)) ∧ V.cell? ⟨sb, 1, none⟩ = some (.int .i64 (m2 : Int)) ∧ V.cell? ⟨w.heap.size, 3, none⟩ = some (.int .u8 (o.gen : Int)) ∧ V.cell? ⟨w.heap.size, 4, none⟩ = some (.slice o.da o.bs.length o.dc)) := fun V hV => ⟨hV _ _ _ d0, hV _ _ _ d1, hV _ _ _ c3, hV _ _ _ c4⟩
  have HKW : Hid (Keeps W W.drew) := Below.keeps (Below.refl _ _).drew
  have HEn : Hid (Calls Tryd.prog 43 #[.int .i64 (k2 : Int), .int .i64 (m2 : Int), .int .u8 (o.gen : Int), .slice o.da o.bs.length o.dc] W.drew fun r w1 => r = .returned (.tuple #[.slice none 0 0, .int .u8 2]) ∧ Below W.heap.size W w1 ∧ Keeps W w1) := by
    refine (mencode_gen (k2 : Int) (m2 : Int) o.gen o.bs.length o.dc o.da W.drew h.op.hgen (genOk_bad hg)).mono ?_
    rintro r w1 ⟨hr, hw⟩
    have hb : Below W.heap.size W w1 := by rw [hw]; exact (Below.refl _ _).drew
    exact ⟨hr, hb, Below.keeps hb⟩
  have HSp : Hid (Spec k2 m2 ts o (ansE 2) k2 m2 ts) := Spec.k1 (by omega) (.inl ⟨hg, AnsEq.refl _, Stay.refl _ _ _⟩)
  unfold opB ansZ at hW
  unfold opV
  clear h hP hRW hBW h0 hg
  go_enter Tryd.func16, Tryd.ntmps16
  go_upto_region 9 with fail
  clear hW c0 c3 c4 d0 d1
  go_region_held3 (fun w' => w'.cell? ⟨sb, 0, none⟩ = some (.int .i64 (k2 : Int)) ∧ w'.cell? ⟨sb, 1, none⟩ = some (.int .i64 (m2 : Int)) ∧ w'.cell? ⟨w.heap.size, 3, none⟩ = some (.int .u8 (o.gen : Int)) ∧ w'.cell? ⟨w.heap.size, 4, none⟩ = some (.slice o.da o.bs.length o.dc))
    (first | with_reducible exact HKd.out _ HKW.out | with_reducible exact HKd.out _ HK1.out)
    (first | (go_at_call 43; refine HEn.out.mono ?_; rintro r w1 ⟨rfl, hb1, hk1⟩; have HB1 : Hid (Below W.heap.size W w1) := hb1; have HK1 : Hid (Keeps W w1) := hk1; clear hb1 hk1))
  clear HEn HKd HKW HK1
  have hres1 : Res w1 (w.heap.size + 1) := HRes.out.below HB1.out
  have HR1 : Hid (Res w1 (w.heap.size + 1)) := hres1
  obtain ⟨r0, r1, r2, r3, r4, rf⟩ := hres1.cells
  have HF : Hid (StepM B w bb sb cb mb k m k2 m2 v1 ss v2 ts pm o (.returned (.agg #[.int .u8 2, .slice none 0 0, .slice none 0 0, .slice none 0 0, .int .i64 0])) (ansW w1 (w.heap.size + 1) (.int .u8 2) (.slice none 0 0) (.slice none 0 0) (.slice none 0 0) (.int .i64 0))) :=
    finM0 HRW.out HPb.out HB1.out HSp.out (fun w3 _ => AnsOk.num w3 2 0)
  clear hres1 HRW HPb HB1 HRes HSp
  go_wp2
  exact retM rfl rfl HR1.out HF.out

set_option maxRecDepth 100000 in
set_option maxHeartbeats 4000000 in
theorem stepM1_long2 {B : Nat} {w : World} {bb sb cb mb k m k2 m2 : Nat} {v1 v2 : Value} {ss ts : List Sd} {pm : Nat} {o : KOp} (h : InM B w bb sb cb mb k m k2 m2 v1 ss v2 ts pm o) (h0 : o.kind = 2) (hg : goodG o.gen) (hn : 256 < o.bs.length) :
    Calls Tryd.prog 16 #[.pointer (some ⟨sb, 0, none⟩), opV o] w (StepM B w bb sb cb mb k m k2 m2 v1 ss v2 ts pm o) := by
  have hP := pro w o
  obtain ⟨W, hW⟩ : ∃ W, (w.alloc (opB o)).alloc ansZ = W := ⟨_, rfl⟩
  rw [hW] at hP
  obtain ⟨hRW, hBW⟩ := begR h.rs hP
  have HRW : Hid (RS B W bb sb cb mb k m k2 m2 v1 ss v2 ts pm (fun b => b = w.heap.size + 1)) := hRW
  have HPb : Hid (Below w.heap.size w W) := hP.bel
  have c0 : W.cell? ⟨w.heap.size, 0, none⟩ = some (.int .u8 o.kind) := hP.cell 0
  have c3 : W.cell? ⟨w.heap.size, 3, none⟩ = some (.int .u8 o.gen) := hP.cell 3
  have c4 : W.cell? ⟨w.heap.size, 4, none⟩ = some (.slice o.da o.bs.length o.dc) := hP.cell 4
  have d0 := hRW.s0
  have d1 := hRW.s1
  have b0 : ((o.kind : Int) == 0) = false := by simp; omega
  have b1 : ((o.kind : Int) == 1) = false := by simp; omega
  have b2 : ((o.kind : Int) == 2) = true := by simp; omega
  have HRes : Hid (Res W (w.heap.size + 1)) := hP.res
  have HKd : Hid (∀ V, Keeps W V → V.cell? ⟨sb, 0, none⟩ = some (.int .i64 (k2 : Int)) ∧ V.cell? ⟨sb, 1, none⟩ = some (.int .i64 (m2 : Int)) ∧ V.cell? ⟨w.heap.size, 3, none⟩ = some (.int .u8 (o.gen : Int)) ∧ V.cell? ⟨w.heap.size, 4, none⟩ = some (.slice o.da o.bs.length o.dc)) := fun V hV => ⟨hV _ _ _ d0, hV _ _ _ d1, hV _ _ _ c3, hV _ _ _ c4⟩
  have HKW : Hid (Keeps W W.drew) := Below.keeps (Below.refl _ _).drew
  have HEn : Hid (Calls Tryd.prog 43 #[.int .i64 (k2 : Int), .int .i64 (m2 : Int), .int .u8 (o.gen : Int), .slice o.da o.bs.length o.dc] W.drew fun r w1 => r = .returned (.tuple #[.slice none 0 0, .int .u8 3]) ∧ Below W.heap.size W w1 ∧ Keeps W w1) := by
    refine (mencode_long (k2 : Int) (m2 : Int) o.gen o.bs.length o.dc o.da W.drew h.op.hgen (genOk_good hg) hn (by have := h.op.bl; omega)).mono ?_
    rintro r w1 ⟨hr, hw⟩
    have hb : Below W.heap.size W w1 := by rw [hw]; exact (Below.refl _ _).drew
    exact ⟨hr, hb, Below.keeps hb⟩
  have HSp : Hid (Spec k2 m2 ts o (ansE 3) k2 m2 ts) := Spec.k1 (by omega) (.inr (.inl ⟨hg, hn, AnsEq.refl _, Stay.refl _ _ _⟩))
  unfold opB ansZ at hW
  unfold opV
  clear h hP hRW hBW h0 hg
  go_enter Tryd.func16, Tryd.ntmps16
  go_upto_region 9 with fail
  clear hW c0 c3 c4 d0 d1
  go_region_held3 (fun w' => w'.cell? ⟨sb, 0, none⟩ = some (.int .i64 (k2 : Int)) ∧ w'.cell? ⟨sb, 1, none⟩ = some (.int .i64 (m2 : Int)) ∧ w'.cell? ⟨w.heap.size, 3, none⟩ = some (.int .u8 (o.gen : Int)) ∧ w'.cell? ⟨w.heap.size, 4, none⟩ = some (.slice o.da o.bs.length o.dc))
    (first | with_reducible exact HKd.out _ HKW.out | with_reducible exact HKd.out _ HK1.out)
    (first | (go_at_call 43; refine HEn.out.mono ?_; rintro r w1 ⟨rfl, hb1, hk1⟩; have HB1 : Hid (Below W.heap.size W w1) := hb1; have HK1 : Hid (Keeps W w1) := hk1; clear hb1 hk1))
  clear HEn HKd HKW HK1
  have hres1 : Res w1 (w.heap.size + 1) := HRes.out.below HB1.out
  have HR1 : Hid (Res w1 (w.heap.size + 1)) := hres1
  obtain ⟨r0, r1, r2, r3, r4, rf⟩ := hres1.cells
  have HF : Hid (StepM B w bb sb cb mb k m k2 m2 v1 ss v2 ts pm o (.returned (.agg #[.int .u8 3, .slice none 0 0, .slice none 0 0, .slice none 0 0, .int .i64 0])) (ansW w1 (w.heap.size + 1) (.int .u8 3) (.slice none 0 0) (.slice none 0 0) (.slice none 0 0) (.int .i64 0))) :=
    finM0 HRW.out HPb.out HB1.out HSp.out (fun w3 _ => AnsOk.num w3 3 0)
  clear hres1 HRW HPb HB1 HRes HSp
  go_wp2
  exact retM rfl rfl HR1.out HF.out

set_option maxRecDepth 100000 in
set_option maxHeartbeats 4000000 in
theorem stepM1_k1 {B : Nat} {w : World} {bb sb cb mb k m k2 m2 : Nat} {v1 v2 : Value} {ss ts : List Sd} {pm : Nat} {o : KOp} (h : InM B w bb sb cb mb k m k2 m2 v1 ss v2 ts pm o) (h0 : o.kind = 1) (hg : goodG o.gen) (hn : o.bs.length ≤ 256) :
    Calls Tryd.prog 16 #[.pointer (some ⟨sb, 0, none⟩), opV o] w (StepM B w bb sb cb mb k m k2 m2 v1 ss v2 ts pm o) := by
  have hP := pro w o
  obtain ⟨W, hW⟩ : ∃ W, (w.alloc (opB o)).alloc ansZ = W := ⟨_, rfl⟩
  rw [hW] at hP
  obtain ⟨hRW, hBW⟩ := begR h.rs hP
  have HRW : Hid (RS B W bb sb cb mb k m k2 m2 v1 ss v2 ts pm (fun b => b = w.heap.size + 1)) := hRW
  have HPb : Hid (Below w.heap.size w W) := hP.bel
  have c0 : W.cell? ⟨w.heap.size, 0, none⟩ = some (.int .u8 o.kind) := hP.cell 0
  have c3 : W.cell? ⟨w.heap.size, 3, none⟩ = some (.int .u8 o.gen) := hP.cell 3
  have c4 : W.cell? ⟨w.heap.size, 4, none⟩ = some (.slice o.da o.bs.length o.dc) := hP.cell 4
  have d0 := hRW.s0
  have d1 := hRW.s1
  have b0 : ((o.kind : Int) == 0) = false := by simp; omega
  have b1 : ((o.kind : Int) == 1) = true := by simp; omega
  have HRes : Hid (Res W (w.heap.size + 1)) := hP.res
  have HKd : Hid (∀ V, Keeps W V → V.cell? ⟨sb, 0, none⟩ = some (.int .i64 (k2 : Int)) ∧ V.cell? ⟨sb, 1, none⟩ = some (.int .i64 (m2 : Int)) ∧ V.cell? ⟨w.heap.size, 3, none⟩ = some (.int .u8 (o.gen : Int)) ∧ V.cell? ⟨w.heap.size, 4, none⟩ = some (.slice o.da o.bs.length o.dc)) := fun V hV => ⟨hV _ _ _ d0, hV _ _ _ d1, hV _ _ _ c3, hV _ _ _ c4⟩
  have HKW : Hid (Keeps W W.drew) := Below.keeps (Below.refl _ _).drew
  have hg2 := hRW.g2
  have hop := h.op.keeps (Below.keeps hP.bel)
  have HEn : Hid (Calls Tryd.prog 43 #[.int .i64 (k2 : Int), .int .i64 (m2 : Int), .int .u8 (o.gen : Int), .slice o.da o.bs.length o.dc] W.drew (EcM W k2 m2 o.gen o.bs.length (fun i => o.bs.getD i 0))) := encode_M hg2.1 hg2.2.1 hg2.2.2 (Below.refl _ _).drew (hop.keeps (Below.keeps (Below.refl _ _).drew)).data hg hn hop.cap.1 hop.cap.2
  have hpm := h.pm0
  have HSp : Hid (∀ ls ts', SL ls (encL k2 m2 o.gen o.bs.length (fun i => o.bs.getD i 0)) → SL (if o.kind = 1 then encL k2 m2 o.gen o.bs.length (fun i => o.bs.getD i 0) else if ts.length + (k2 + m2) ≤ 64 then ts ++ encL k2 m2 o.gen o.bs.length (fun i => o.bs.getD i 0) else ts) ts' → Spec k2 m2 ts o { ansE 0 with sh := ls } k2 m2 ts') := fun ls ts' h1 h2 => Spec.k1 (by omega) (.inr (.inr ⟨hg, hn, ⟨rfl, rfl, fun _ _ => rfl, h1, rfl, fun _ _ => rfl, rfl⟩, rfl, rfl, h2⟩))
  have HK0 : Hid (o.kind = 1) := h0
  have HC0 : Hid (W.cell? ⟨w.heap.size, 0, none⟩ = some (.int .u8 o.kind)) := c0
  have HT2W : Hid (∀ b, tblk v2 ts b → b < W.heap.size) := fun b hb => (hRW.t2.lt hb).2
  have HSbW : Hid (sb < W.heap.size) := heap_lt hRW.hs
  have HRW1 : Hid (w.heap.size + 1 < W.heap.size) := (hRW.hz _ rfl).1
  unfold opB ansZ at hW
  unfold opV
  clear h hP hRW hBW hg hn h0 hop
  go_enter Tryd.func16, Tryd.ntmps16
  go_upto_region 9 with fail
  clear hW c0 c3 c4 d0 d1
  go_region_held3 (fun w' => w'.cell? ⟨sb, 0, none⟩ = some (.int .i64 (k2 : Int)) ∧ w'.cell? ⟨sb, 1, none⟩ = some (.int .i64 (m2 : Int)) ∧ w'.cell? ⟨w.heap.size, 3, none⟩ = some (.int .u8 (o.gen : Int)) ∧ w'.cell? ⟨w.heap.size, 4, none⟩ = some (.slice o.da o.bs.length o.dc))
    (first | with_reducible exact HKd.out _ HKW.out | with_reducible exact HKd.out _ HK1.out)
    (first | (go_at_call 43; refine HEn.out.mono ?_; rintro r w1 ⟨HS, N, ls, rfl, hNk, hlN, hS1, hsl, hp4, hHS, hpb, hb1, hk1⟩; have HNk : Hid (N = k2 + m2) := hNk; have HlN : Hid (ls.length = N) := hlN; have HS1 : Hid (SdRow w1 (some ⟨HS, 0, none⟩) ls) := hS1; have HSL : Hid (SL ls (encL k2 m2 o.gen o.bs.length (fun i => o.bs.getD i 0))) := hsl; have HP4 : Hid (∀ s ∈ ls, s.pl ≤ 4096) := hp4; have HHS : Hid (W.heap.size ≤ HS) := hHS; have HPB : Hid (∀ s ∈ ls, 0 < s.pl → ∀ b o', s.pa = some ⟨b, o', none⟩ → W.heap.size ≤ b) := hpb; have HB1 : Hid (Below W.heap.size W w1) := hb1; have HK1 : Hid (Keeps W w1) := hk1; clear hNk hlN hS1 hsl hp4 hHS hpb hb1 hk1))
  clear HEn HKd HKW
  have e0 : w1.cell? ⟨w.heap.size, 0, none⟩ = some (.int .u8 o.kind) := HK1.out _ _ _ HC0.out
  have hN16 : N ≤ 16 := by have := HNk.out; omega
  have hN0 : 0 < N := by have h1 := HNk.out; omega
  have HCp : Hid (Calls Tryd.prog 44 #[.slice (some ⟨HS, 0, none⟩) N N] w1 (ClPost w1 ls)) := by
    have := clones_any w1 (some ⟨HS, 0, none⟩) N ls HS1.out (by rw [HlN.out]; omega) (fun s hs => by have := HP4.out s hs; omega)
    rw [HlN.out] at this
    exact this
  have hR1 := HRW.out.below HB1.out
  have HR1 : Hid (RS B w1 bb sb cb mb k m k2 m2 v1 ss v2 ts pm (fun b => b = w.heap.size + 1)) := hR1
  have hres1 : Res w1 (w.heap.size + 1) := HRes.out.keep (HB1.out.block _ (HRW.out.hz _ rfl).1)
  have HRes1 : Hid (Res w1 (w.heap.size + 1)) := hres1
  clear hR1 hres1 HRW HC0 HK1 HRes
  go_wp2_with fail
  refine Calls.mono HCp.out ?_
  rintro r w2 ⟨v, ys, rfl, hY, hys, hb2⟩
  obtain ⟨ya, yc, rfl, _⟩ := hY.row
  have hR2 := HR1.out.below hb2
  have d0 := hR2.s0
  have d1 := hR2.s1
  have d2 := hR2.s2
  have df := hR2.fs
  have hly : ys.length ≤ 64 := by rw [← hys.len, HlN.out]; omega
  have hpy : ∀ s ∈ ys, s.pl ≤ pm := SL.pl hys (fun s hs => by have := HP4.out s hs; omega)
  obtain ⟨V, hV⟩ : ∃ V, w2.setCell ⟨sb, 2, none⟩ (.slice ya ys.length yc) = V := ⟨_, rfl⟩
  have hOV : Only sb w2 V := by rw [← hV]; exact (Only.refl _ _).setCell _ _
  have hRV : RS B V bb sb cb mb k m k2 m2 v1 ss (.slice ya ys.length yc) ys pm (fun b => b = w.heap.size + 1) := by rw [← hV]; exact HR1.out.swap2 hb2 hY hly hpy
  have hzR := hR2.hz _ rfl
  have hresV : Res V (w.heap.size + 1) := (HRes1.out.keep (hb2.block _ (HR1.out.hz _ rfl).1)).keep (hOV.block _ hzR.2.2.2.1)
  have HRV : Hid (Res V (w.heap.size + 1)) := hresV
  obtain ⟨r0, r1, r2, r3, r4, rf⟩ := hresV.cells
  have hCV : Chg (fun b => b = sb) w1 V := (Below.chg hb2 _).trans (Only.chg (P := fun b => b = sb) hOV rfl)
  have HF : Hid (StepM B w bb sb cb mb k m k2 m2 v1 ss v2 ts pm o (.returned (.agg #[.int .u8 0, .slice none 0 0, .slice (some ⟨HS, 0, none⟩) N N, .slice none 0 0, .int .i64 0])) (ansW V (w.heap.size + 1) (.int .u8 0) (.slice none 0 0) (.slice (some ⟨HS, 0, none⟩) N N) (.slice none 0 0) (.int .i64 0))) := by
    refine finM (hRV.more (Nat.le_succ _)) (HSp.out ls ys HSL.out (by rw [if_pos HK0.out]; exact HSL.out.symm.trans hys)) ?_ (Nat.le_succ _) (fun w4 hC => AnsOk.enc (P := fun b => b = sb ∨ b = w.heap.size + 1) HS1.out HlN.out (by omega) HP4.out HHS.out HPB.out ((hCV.mono (fun b hb => .inl hb)).trans (hC.mono (fun b hb => .inr hb))) (fun b hb => ?_))
    · exact (Below.chg (HPb.out.trans (HB1.out.mono HPb.out.size)) _).trans (hCV.mono (fun b hb => .inl hb))
    · rcases hb with rfl | rfl
      · exact HSbW.out
      · exact HRW1.out
  clear hY hys hb2 hR2 hly hpy hOV hRV hzR hresV hCV HCp HR1 HSp HS1 HSL HP4 HPB HHS HlN HNk HPb HB1 HRes1 HSbW HK0 HT2W HRW1
  go_wp2
  exact retM rfl rfl HRV.out HF.out

set_option maxRecDepth 100000 in
set_option maxHeartbeats 4000000 in
theorem stepM1_k2no {B : Nat} {w : World} {bb sb cb mb k m k2 m2 : Nat} {v1 v2 : Value} {ss ts : List Sd} {pm : Nat} {o : KOp} (h : InM B w bb sb cb mb k m k2 m2 v1 ss v2 ts pm o) (h0 : o.kind = 2) (hg : goodG o.gen) (hn : o.bs.length ≤ 256) (hfit : ¬ ts.length + (k2 + m2) ≤ 64) :
    Calls Tryd.prog 16 #[.pointer (some ⟨sb, 0, none⟩), opV o] w (StepM B w bb sb cb mb k m k2 m2 v1 ss v2 ts pm o) := by
  have hP := pro w o
  obtain ⟨W, hW⟩ : ∃ W, (w.alloc (opB o)).alloc ansZ = W := ⟨_, rfl⟩
  rw [hW] at hP
  obtain ⟨hRW, hBW⟩ := begR h.rs hP
  have HRW : Hid (RS B W bb sb cb mb k m k2 m2 v1 ss v2 ts pm (fun b => b = w.heap.size + 1)) := hRW
  have HPb : Hid (Below w.heap.size w W) := hP.bel
  have c0 : W.cell? ⟨w.heap.size, 0, none⟩ = some (.int .u8 o.kind) := hP.cell 0
  have c3 : W.cell? ⟨w.heap.size, 3, none⟩ = some (.int .u8 o.gen) := hP.cell 3
  have c4 : W.cell? ⟨w.heap.size, 4, none⟩ = some (.slice o.da o.bs.length o.dc) := hP.cell 4
  have d0 := hRW.s0
  have d1 := hRW.s1
  have b0 : ((o.kind : Int) == 0) = false := by simp; omega
  have b1 : ((o.kind : Int) == 1) = false := by simp; omega
  have b2 : ((o.kind : Int) == 2) = true := by simp; omega
  have HRes : Hid (Res W (w.heap.size + 1)) := hP.res
  have HKd : Hid (∀ V, Keeps W V → V.cell? ⟨sb, 0, none⟩ = some (.int .i64 (k2 : Int)) ∧ V.cell? ⟨sb, 1, none⟩ = some (.int .i64 (m2 : Int)) ∧ V.cell? ⟨w.heap.size, 3, none⟩ = some (.int .u8 (o.gen : Int)) ∧ V.cell? ⟨w.heap.size, 4, none⟩ = some (.slice o.da o.bs.length o.dc)) := fun V hV => ⟨hV _ _ _ d0, hV _ _ _ d1, hV _ _ _ c3, hV _ _ _ c4⟩
  have HKW : Hid (Keeps W W.drew) := Below.keeps (Below.refl _ _).drew
  have hg2 := hRW.g2
  have hop := h.op.keeps (Below.keeps hP.bel)
  have HEn : Hid (Calls Tryd.prog 43 #[.int .i64 (k2 : Int), .int .i64 (m2 : Int), .int .u8 (o.gen : Int), .slice o.da o.bs.length o.dc] W.drew (EcM W k2 m2 o.gen o.bs.length (fun i => o.bs.getD i 0))) := encode_M hg2.1 hg2.2.1 hg2.2.2 (Below.refl _ _).drew (hop.keeps (Below.keeps (Below.refl _ _).drew)).data hg hn hop.cap.1 hop.cap.2
  have hpm := h.pm0
  have HSp : Hid (∀ ls ts', SL ls (encL k2 m2 o.gen o.bs.length (fun i => o.bs.getD i 0)) → SL (if o.kind = 1 then encL k2 m2 o.gen o.bs.length (fun i => o.bs.getD i 0) else if ts.length + (k2 + m2) ≤ 64 then ts ++ encL k2 m2 o.gen o.bs.length (fun i => o.bs.getD i 0) else ts) ts' → Spec k2 m2 ts o { ansE 0 with sh := ls } k2 m2 ts') := fun ls ts' h1 h2 => Spec.k1 (by omega) (.inr (.inr ⟨hg, hn, ⟨rfl, rfl, fun _ _ => rfl, h1, rfl, fun _ _ => rfl, rfl⟩, rfl, rfl, h2⟩))
  have HK0 : Hid (o.kind = 2) := h0
  have HC0 : Hid (W.cell? ⟨w.heap.size, 0, none⟩ = some (.int .u8 o.kind)) := c0
  have HT2W : Hid (∀ b, tblk v2 ts b → b < W.heap.size) := fun b hb => (hRW.t2.lt hb).2
  have HSbW : Hid (sb < W.heap.size) := heap_lt hRW.hs
  have HRW1 : Hid (w.heap.size + 1 < W.heap.size) := (hRW.hz _ rfl).1
  unfold opB ansZ at hW
  unfold opV
  clear h hP hRW hBW hg hn h0 hop
  go_enter Tryd.func16, Tryd.ntmps16
  go_upto_region 9 with fail
  clear hW c0 c3 c4 d0 d1
  go_region_held3 (fun w' => w'.cell? ⟨sb, 0, none⟩ = some (.int .i64 (k2 : Int)) ∧ w'.cell? ⟨sb, 1, none⟩ = some (.int .i64 (m2 : Int)) ∧ w'.cell? ⟨w.heap.size, 3, none⟩ = some (.int .u8 (o.gen : Int)) ∧ w'.cell? ⟨w.heap.size, 4, none⟩ = some (.slice o.da o.bs.length o.dc))
    (first | with_reducible exact HKd.out _ HKW.out | with_reducible exact HKd.out _ HK1.out)
    (first | (go_at_call 43; refine HEn.out.mono ?_; rintro r w1 ⟨HS, N, ls, rfl, hNk, hlN, hS1, hsl, hp4, hHS, hpb, hb1, hk1⟩; have HNk : Hid (N = k2 + m2) := hNk; have HlN : Hid (ls.length = N) := hlN; have HS1 : Hid (SdRow w1 (some ⟨HS, 0, none⟩) ls) := hS1; have HSL : Hid (SL ls (encL k2 m2 o.gen o.bs.length (fun i => o.bs.getD i 0))) := hsl; have HP4 : Hid (∀ s ∈ ls, s.pl ≤ 4096) := hp4; have HHS : Hid (W.heap.size ≤ HS) := hHS; have HPB : Hid (∀ s ∈ ls, 0 < s.pl → ∀ b o', s.pa = some ⟨b, o', none⟩ → W.heap.size ≤ b) := hpb; have HB1 : Hid (Below W.heap.size W w1) := hb1; have HK1 : Hid (Keeps W w1) := hk1; clear hNk hlN hS1 hsl hp4 hHS hpb hb1 hk1))
  clear HEn HKd HKW
  have e0 : w1.cell? ⟨w.heap.size, 0, none⟩ = some (.int .u8 o.kind) := HK1.out _ _ _ HC0.out
  have hN16 : N ≤ 16 := by have := HNk.out; omega
  have hN0 : 0 < N := by have h1 := HNk.out; omega
  have HCp : Hid (Calls Tryd.prog 44 #[.slice (some ⟨HS, 0, none⟩) N N] w1 (ClPost w1 ls)) := by
    have := clones_any w1 (some ⟨HS, 0, none⟩) N ls HS1.out (by rw [HlN.out]; omega) (fun s hs => by have := HP4.out s hs; omega)
    rw [HlN.out] at this
    exact this
  have hR1 := HRW.out.below HB1.out
  have HR1 : Hid (RS B w1 bb sb cb mb k m k2 m2 v1 ss v2 ts pm (fun b => b = w.heap.size + 1)) := hR1
  have hres1 : Res w1 (w.heap.size + 1) := HRes.out.keep (HB1.out.block _ (HRW.out.hz _ rfl).1)
  have HRes1 : Hid (Res w1 (w.heap.size + 1)) := hres1
  obtain ⟨ao, cap, hv, _⟩ := hR1.t2.row
  obtain ⟨L, hL⟩ : ∃ L, ts.length = L := ⟨_, rfl⟩
  have HL : Hid (ts.length = L) := hL
  have d1 : w1.cell? ⟨sb, 2, none⟩ = some (.slice ao L cap) := by rw [← hL, ← hv]; exact hR1.s2
  have HV1 : Hid (v2 = .slice ao L cap) := by rw [← hL]; exact hv
  have hL64 : L ≤ 64 := by rw [← hL]; exact hR1.l2
  have HNe : Hid (¬ o.kind = 1) := by have := HK0.out; show ¬ o.kind = 1; omega
  have hle : ¬ ((L : Int) + (N : Int)) ≤ 64 := by have := hfit; have := HNk.out; have := HL.out; omega
  obtain ⟨r0, r1, r2, r3, r4, rf⟩ := hres1.cells
  have HF : Hid (StepM B w bb sb cb mb k m k2 m2 v1 ss v2 ts pm o (.returned (.agg #[.int .u8 0, .slice none 0 0, .slice (some ⟨HS, 0, none⟩) N N, .slice none 0 0, .int .i64 0])) (ansW w1 (w.heap.size + 1) (.int .u8 0) (.slice none 0 0) (.slice (some ⟨HS, 0, none⟩) N N) (.slice none 0 0) (.int .i64 0))) := by
    refine finM0 HRW.out HPb.out HB1.out (HSp.out ls ts HSL.out (by rw [if_neg HNe.out, if_neg hfit]; exact SL.refl _)) (fun w4 hC => AnsOk.enc HS1.out HlN.out (by omega) HP4.out HHS.out HPB.out hC (fun b hb => by rw [hb]; exact HRW1.out))
  clear hR1 hres1 HRW HC0 HK1 HRes HCp HR1 HSp HS1 HSL HP4 HPB HHS HlN HNk HPb HB1 HSbW HK0 HNe HL HV1 hv hL hfit HT2W HRW1
  go_wp2
  exact retM rfl rfl HRes1.out HF.out

set_option maxRecDepth 100000 in
set_option maxHeartbeats 4000000 in
theorem stepM1_k2yes {B : Nat} {w : World} {bb sb cb mb k m k2 m2 : Nat} {v1 v2 : Value} {ss ts : List Sd} {pm : Nat} {o : KOp} (h : InM B w bb sb cb mb k m k2 m2 v1 ss v2 ts pm o) (h0 : o.kind = 2) (hg : goodG o.gen) (hn : o.bs.length ≤ 256) (hfit : ts.length + (k2 + m2) ≤ 64) :
    Calls Tryd.prog 16 #[.pointer (some ⟨sb, 0, none⟩), opV o] w (StepM B w bb sb cb mb k m k2 m2 v1 ss v2 ts pm o) := by
  have hP := pro w o
  obtain ⟨W, hW⟩ : ∃ W, (w.alloc (opB o)).alloc ansZ = W := ⟨_, rfl⟩
  rw [hW] at hP
  obtain ⟨hRW, hBW⟩ := begR h.rs hP
  have HRW : Hid (RS B W bb sb cb mb k m k2 m2 v1 ss v2 ts pm (fun b => b = w.heap.size + 1)) := hRW
  have HPb : Hid (Below w.heap.size w W) := hP.bel
  have c0 : W.cell? ⟨w.heap.size, 0, none⟩ = some (.int .u8 o.kind) := hP.cell 0
  have c3 : W.cell? ⟨w.heap.size, 3, none⟩ = some (.int .u8 o.gen) := hP.cell 3
  have c4 : W.cell? ⟨w.heap.size, 4, none⟩ = some (.slice o.da o.bs.length o.dc) := hP.cell 4
  have d0 := hRW.s0
  have d1 := hRW.s1
  have b0 : ((o.kind : Int) == 0) = false := by simp; omega
  have b1 : ((o.kind : Int) == 1) = false := by simp; omega
  have b2 : ((o.kind : Int) == 2) = true := by simp; omega
  have HRes : Hid (Res W (w.heap.size + 1)) := hP.res
  have HKd : Hid (∀ V, Keeps W V → V.cell? ⟨sb, 0, none⟩ = some (.int .i64 (k2 : Int)) ∧ V.cell? ⟨sb, 1, none⟩ = some (.int .i64 (m2 : Int)) ∧ V.cell? ⟨w.heap.size, 3, none⟩ = some (.int .u8 (o.gen : Int)) ∧ V.cell? ⟨w.heap.size, 4, none⟩ = some (.slice o.da o.bs.length o.dc)) := fun V hV => ⟨hV _ _ _ d0, hV _ _ _ d1, hV _ _ _ c3, hV _ _ _ c4⟩
  have HKW : Hid (Keeps W W.drew) := Below.keeps (Below.refl _ _).drew
  have hg2 := hRW.g2
  have hop := h.op.keeps (Below.keeps hP.bel)
  have HEn : Hid (Calls Tryd.prog 43 #[.int .i64 (k2 : Int), .int .i64 (m2 : Int), .int .u8 (o.gen : Int), .slice o.da o.bs.length o.dc] W.drew (EcM W k2 m2 o.gen o.bs.length (fun i => o.bs.getD i 0))) := encode_M hg2.1 hg2.2.1 hg2.2.2 (Below.refl _ _).drew (hop.keeps (Below.keeps (Below.refl _ _).drew)).data hg hn hop.cap.1 hop.cap.2
  have hpm := h.pm0
  have HSp : Hid (∀ ls ts', SL ls (encL k2 m2 o.gen o.bs.length (fun i => o.bs.getD i 0)) → SL (if o.kind = 1 then encL k2 m2 o.gen o.bs.length (fun i => o.bs.getD i 0) else if ts.length + (k2 + m2) ≤ 64 then ts ++ encL k2 m2 o.gen o.bs.length (fun i => o.bs.getD i 0) else ts) ts' → Spec k2 m2 ts o { ansE 0 with sh := ls } k2 m2 ts') := fun ls ts' h1 h2 => Spec.k1 (by omega) (.inr (.inr ⟨hg, hn, ⟨rfl, rfl, fun _ _ => rfl, h1, rfl, fun _ _ => rfl, rfl⟩, rfl, rfl, h2⟩))
  have HK0 : Hid (o.kind = 2) := h0
  have HC0 : Hid (W.cell? ⟨w.heap.size, 0, none⟩ = some (.int .u8 o.kind)) := c0
  have HT2W : Hid (∀ b, tblk v2 ts b → b < W.heap.size) := fun b hb => (hRW.t2.lt hb).2
  have HSbW : Hid (sb < W.heap.size) := heap_lt hRW.hs
  have HRW1 : Hid (w.heap.size + 1 < W.heap.size) := (hRW.hz _ rfl).1
  unfold opB ansZ at hW
  unfold opV
  clear h hP hRW hBW hg hn h0 hop
  go_enter Tryd.func16, Tryd.ntmps16
  go_upto_region 9 with fail
  clear hW c0 c3 c4 d0 d1
  go_region_held3 (fun w' => w'.cell? ⟨sb, 0, none⟩ = some (.int .i64 (k2 : Int)) ∧ w'.cell? ⟨sb, 1, none⟩ = some (.int .i64 (m2 : Int)) ∧ w'.cell? ⟨w.heap.size, 3, none⟩ = some (.int .u8 (o.gen : Int)) ∧ w'.cell? ⟨w.heap.size, 4, none⟩ = some (.slice o.da o.bs.length o.dc))
    (first | with_reducible exact HKd.out _ HKW.out | with_reducible exact HKd.out _ HK1.out)
    (first | (go_at_call 43; refine HEn.out.mono ?_; rintro r w1 ⟨HS, N, ls, rfl, hNk, hlN, hS1, hsl, hp4, hHS, hpb, hb1, hk1⟩; have HNk : Hid (N = k2 + m2) := hNk; have HlN : Hid (ls.length = N) := hlN; have HS1 : Hid (SdRow w1 (some ⟨HS, 0, none⟩) ls) := hS1; have HSL : Hid (SL ls (encL k2 m2 o.gen o.bs.length (fun i => o.bs.getD i 0))) := hsl; have HP4 : Hid (∀ s ∈ ls, s.pl ≤ 4096) := hp4; have HHS : Hid (W.heap.size ≤ HS) := hHS; have HPB : Hid (∀ s ∈ ls, 0 < s.pl → ∀ b o', s.pa = some ⟨b, o', none⟩ → W.heap.size ≤ b) := hpb; have HB1 : Hid (Below W.heap.size W w1) := hb1; have HK1 : Hid (Keeps W w1) := hk1; clear hNk hlN hS1 hsl hp4 hHS hpb hb1 hk1))
  clear HEn HKd HKW
  have e0 : w1.cell? ⟨w.heap.size, 0, none⟩ = some (.int .u8 o.kind) := HK1.out _ _ _ HC0.out
  have hN16 : N ≤ 16 := by have := HNk.out; omega
  have hN0 : 0 < N := by have h1 := HNk.out; omega
  have HCp : Hid (Calls Tryd.prog 44 #[.slice (some ⟨HS, 0, none⟩) N N] w1 (ClPost w1 ls)) := by
    have := clones_any w1 (some ⟨HS, 0, none⟩) N ls HS1.out (by rw [HlN.out]; omega) (fun s hs => by have := HP4.out s hs; omega)
    rw [HlN.out] at this
    exact this
  have hR1 := HRW.out.below HB1.out
  have HR1 : Hid (RS B w1 bb sb cb mb k m k2 m2 v1 ss v2 ts pm (fun b => b = w.heap.size + 1)) := hR1
  have hres1 : Res w1 (w.heap.size + 1) := HRes.out.keep (HB1.out.block _ (HRW.out.hz _ rfl).1)
  have HRes1 : Hid (Res w1 (w.heap.size + 1)) := hres1
  obtain ⟨ao, cap, hv, _⟩ := hR1.t2.row
  obtain ⟨L, hL⟩ : ∃ L, ts.length = L := ⟨_, rfl⟩
  have HL : Hid (ts.length = L) := hL
  have d1 : w1.cell? ⟨sb, 2, none⟩ = some (.slice ao L cap) := by rw [← hL, ← hv]; exact hR1.s2
  have HV1 : Hid (v2 = .slice ao L cap) := by rw [← hL]; exact hv
  have hL64 : L ≤ 64 := by rw [← hL]; exact hR1.l2
  have HNe : Hid (¬ o.kind = 1) := by have := HK0.out; show ¬ o.kind = 1; omega
  have hle : ((L : Int) + (N : Int)) ≤ 64 := by have := hfit; have := HNk.out; have := HL.out; omega
  have HFit : Hid (ts.length + N ≤ 64) := by have := hfit; have := HNk.out; show ts.length + N ≤ 64; omega
  have HIf : Hid (ts.length + (k2 + m2) ≤ 64) := hfit
  have HCpd : Hid (Calls Tryd.prog 44 #[.slice (some ⟨HS, 0, none⟩) N N] w1.drew fun r w2 => ∃ ya yc ys, r = .returned (.slice ya N yc) ∧ ys.length = N ∧ Tray w1.heap.size w2 (.slice ya N yc) ys ∧ SL ls ys ∧ Below w1.heap.size w1 w2) := by
    have hd : Below w1.heap.size w1 w1.drew := (Below.refl _ _).drew
    have := clones_any w1.drew (some ⟨HS, 0, none⟩) N ls (HS1.out.keeps (Below.keeps hd)) (by rw [HlN.out]; omega) (fun s hs => by have := HP4.out s hs; omega)
    rw [HlN.out] at this
    refine this.mono ?_
    rintro r w2 ⟨v, ys, rfl, hY, hys, hb2⟩
    have hyl : ys.length = N := by rw [← hys.len]; exact HlN.out
    obtain ⟨ya, yc, rfl, _⟩ := hY.row
    rw [hyl] at hY ⊢
    exact ⟨ya, yc, ys, rfl, hyl, hY, hys, hd.trans hb2⟩
  have HBk : Hid (∀ V V3 : World, Below w1.heap.size w1 V → V.grownBy V3 (Value.slice ao L cap).ownBlock → V3.cell? ⟨sb, 2, none⟩ = some (.slice ao L cap) ∧ ∀ i, V3.frozen? ⟨sb, i, none⟩ = false) := fun V V3 h1 h2 => by
    have hbl := heap_lt HR1.out.hs
    have hnb := HR1.out.nb2.2
    have e := HV1.out
    have hb3 : V3.heap[sb]? = w1.heap[sb]? := (h2.block sb (Nat.lt_of_lt_of_le hbl h1.size) (fun e' => hnb (.inl (by rw [e]; exact e'.symm)))).trans (h1.block sb hbl)
    have hh := hb3.trans HR1.out.hs
    rw [e] at hh
    exact ⟨by simp [World.cell?, hh], fun i => by simp [World.frozen?, hh]⟩
  have HAp : Hid (∀ V ya yc ys, ys.length = N → Below w1.heap.size w1 V → Tray w1.heap.size V (.slice ya N yc) ys → Tray B V (.slice ao L cap) ts ∧ B ≤ w1.heap.size ∧ w1.heap.size ≤ V.heap.size ∧ (∀ b, tblk (.slice ao L cap) ts b → b < w1.heap.size) ∧ ts.length + ys.length ≤ 65536 ∧ 0 < ys.length) := fun V ya yc ys h1 h2 h3 => by
    have hT := HR1.out.t2
    have e := HV1.out
    rw [e] at hT
    have hbl := heap_lt HR1.out.hs
    refine ⟨hT.below h2, Nat.le_trans HR1.out.ge.2.1 (Nat.le_of_lt hbl), h2.size, fun b hb => (hT.lt hb).2, ?_, ?_⟩
    · have := HFit.out; omega
    · omega
  clear hR1 hres1 HRW HC0 HK1 HRes HCp hv hL hfit
  go_upto_region 15 with fail
  have HD1 : Hid (∀ V, Below w1.heap.size w1 V → V.cell? ⟨sb, 2, none⟩ = some (.slice ao L cap)) := fun V hb => Below.keeps hb _ _ _ d1
  clear e0
  go_region_law (first
      | ((with_reducible refine step_append_tray (HAp.out _ _ _ _ Hyl.out HB2.out HY.out).1 HY.out (HAp.out _ _ _ _ Hyl.out HB2.out HY.out).2.1 (HAp.out _ _ _ _ Hyl.out HB2.out HY.out).2.2.1 (HAp.out _ _ _ _ Hyl.out HB2.out HY.out).2.2.2.1 (HAp.out _ _ _ _ Hyl.out HB2.out HY.out).2.2.2.2.1 (HAp.out _ _ _ _ Hyl.out HB2.out HY.out).2.2.2.2.2 ?_ ?_ ?_); rfl; rfl; intro v' w3 hT3 hG3 h53; obtain ⟨za, zc, rfl, _⟩ := hT3.row; obtain ⟨f1, ff⟩ := HBk.out w2 w3 HB2.out hG3; have HT3 : Hid (Tray B w3 (.slice za (ts ++ ys).length zc) (ts ++ ys)) := hT3; have HG3 : Hid (w2.grownBy w3 (Value.slice ao L cap).ownBlock) := hG3; have H53 : Hid ((Value.slice za (ts ++ ys).length zc).ownBlock = (Value.slice ao L cap).ownBlock ∨ (Value.slice za (ts ++ ys).length zc).ownBlock = some w2.heap.size) := h53; clear hT3 hG3 h53)
      | (go_simp; go_at_call 44; refine HCpd.out.mono ?_; rintro r w2 ⟨ya, yc, ys, rfl, hyl, hY, hys, hb2⟩; have g1 := HD1.out w2 hb2; have Hyl : Hid (ys.length = N) := hyl; have HY : Hid (Tray w1.heap.size w2 (.slice ya N yc) ys) := hY; have HYS : Hid (SL ls ys) := hys; have HB2 : Hid (Below w1.heap.size w1 w2) := hb2; clear hyl hY hys hb2))
  all_goals
    have hR2 := HR1.out.below HB2.out
    have hpy : ∀ s ∈ ys, s.pl ≤ pm := SL.pl HYS.out (fun s hs => by have := HP4.out s hs; omega)
    obtain ⟨M, hM⟩ : ∃ M, ts.length + ys.length = M := ⟨_, rfl⟩
    have hT3 := HT3.out
    have hG3 := HG3.out
    have h53 := H53.out
    rw [← HV1.out] at hG3 h53
    have hzR := HR1.out.hz _ rfl
    have hRg := HR1.out.grow2 HB2.out HY.out hT3 hG3 h53 (by rw [Hyl.out]; exact HFit.out) hpy
    rw [List.length_append, hM] at hRg
    simp only [hM]
    clear hM
    obtain ⟨V, hV⟩ : ∃ V, w3.setCell ⟨sb, 2, none⟩ (.slice za M zc) = V := ⟨_, rfl⟩
    rw [hV] at hRg
    simp only [hV]
    have hOV : Only sb w3 V := by rw [← hV]; exact (Only.refl _ _).setCell _ _
    have hg3 : ∀ b, b < w1.heap.size → ¬ tblk v2 ts b → w3.heap[b]? = w1.heap[b]? := fun b hlt hnt => (hG3.block b (Nat.lt_of_lt_of_le hlt HB2.out.size) (fun e => hnt (.inl e.symm))).trans (HB2.out.block b hlt)
    have hresV : Res V (w.heap.size + 1) := HRes1.out.keep ((hOV.block _ hzR.2.2.2.1).trans (hg3 _ hzR.1 hzR.2.2.2.2.2))
    have HRV : Hid (Res V (w.heap.size + 1)) := hresV
    obtain ⟨r0, r1, r2, r3, r4, rf⟩ := hresV.cells
    have hCV : Chg (PM sb v2 ts) w1 V := ⟨(show V.os = w3.os by rw [← hV]; rfl).trans (hG3.os.trans HB2.out.os), (show V.tape = w3.tape by rw [← hV]; rfl).trans (hG3.tape.trans HB2.out.tape), (show V.output = w3.output by rw [← hV]; rfl).trans (hG3.output.trans HB2.out.output), Nat.le_trans (Nat.le_trans HB2.out.size hG3.size) (Nat.le_of_eq hOV.size.symm), fun b hb hn => (hOV.block b (fun e => hn (.inl e))).trans (hg3 b hb (fun e => hn (.inr e)))⟩
    have HF : Hid (StepM B w bb sb cb mb k m k2 m2 v1 ss v2 ts pm o (.returned (.agg #[.int .u8 0, .slice none 0 0, .slice (some ⟨HS, 0, none⟩) N N, .slice none 0 0, .int .i64 0])) (ansW V (w.heap.size + 1) (.int .u8 0) (.slice none 0 0) (.slice (some ⟨HS, 0, none⟩) N N) (.slice none 0 0) (.int .i64 0))) := by
      refine finM (hRg.more (Nat.le_succ _)) (HSp.out ls (ts ++ ys) HSL.out (by rw [if_neg HNe.out, if_pos HIf.out]; exact (SL.refl _).append (HSL.out.symm.trans HYS.out))) ?_ (Nat.le_succ _) (fun w4 hC => AnsOk.enc (P := fun b => PM sb v2 ts b ∨ b = w.heap.size + 1) HS1.out HlN.out (by omega) HP4.out HHS.out HPB.out ((hCV.mono (fun b hb => .inl hb)).trans (hC.mono (fun b hb => .inr hb))) (fun b hb => ?_))
      · exact (Below.chg (HPb.out.trans (HB1.out.mono HPb.out.size)) _).trans hCV
      · rcases hb with (rfl | hb) | rfl
        · exact HSbW.out
        · exact HT2W.out b hb
        · exact HRW1.out
    clear hR2 hpy hT3 hG3 h53 hzR hRg hOV hg3 hresV hCV HR1 HSp HS1 HSL HP4 HPB HHS HlN HNk HPb HB1 HRes1 HSbW HK0 HNe HL HV1 HAp HBk HD1 HCpd HFit HIf HY HYS HB2 HT3 HG3 H53 HT2W HRW1
    go_wp2
    exact retM rfl rfl HRV.out HF.out
theorem stepM1 {B : Nat} {w : World} {bb sb cb mb k m k2 m2 : Nat} {v1 v2 : Value} {ss ts : List Sd} {pm : Nat} {o : KOp} (h : InM B w bb sb cb mb k m k2 m2 v1 ss v2 ts pm o) (h0 : o.kind = 1 ∨ o.kind = 2) :
    Calls Tryd.prog 16 #[.pointer (some ⟨sb, 0, none⟩), opV o] w (StepM B w bb sb cb mb k m k2 m2 v1 ss v2 ts pm o) := by
  rcases h0 with h0 | h0 <;> by_cases hg : goodG o.gen <;> by_cases hn : o.bs.length ≤ 256
  · exact stepM1_k1 h h0 hg hn
  · exact stepM1_long1 h h0 hg (by omega)
  · exact stepM1_gen1 h h0 hg
  · exact stepM1_gen1 h h0 hg
  · by_cases hf : ts.length + (k2 + m2) ≤ 64
    · exact stepM1_k2yes h h0 hg hn hf
    · exact stepM1_k2no h h0 hg hn hf
  · exact stepM1_long2 h h0 hg (by omega)
  · exact stepM1_gen2 h h0 hg
  · exact stepM1_gen2 h h0 hg
end Go.Proofs.Qxb6500697aDoor
