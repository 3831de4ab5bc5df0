/-
  THE BENCH's STEP: KTamper.
-/
import Derived.Test.Qxb6500697aDoorMRP
namespace Go.Proofs.Qxb6500697aDoor
open Go.RowKit

theorem tampS_pl (x : Sd) (o : KOp) : (tampS x o).pl ≤ x.pl + 1 := by
  unfold tampS
  repeat' split
  all_goals (first | (show x.pl ≤ x.pl + 1; omega) | (show x.pl - 1 ≤ x.pl + 1; omega) | (show x.pl + 1 ≤ x.pl + 1; omega))
theorem mem_set' {l : List Sd} {q : Nat} {y s : Sd} (h : s ∈ l.set q y) : s ∈ l ∨ s = y := by
  rcases List.mem_or_eq_of_mem_set h with h | h
  · exact .inl h
  · exact .inr h

section
variable {B : Nat} {w W V w1 w2 : World} {bb sb cb mb k m k2 m2 : Nat} {v1 v2 : Value} {ss ts : List Sd} {pm : Nat} {o : KOp} {e : Nat → Addr} {R : Nat}
/-- The tray behind a tamper. -/
theorem RS.tamper {q : Nat} {r : Ending} (h : RS B V bb sb cb mb k m k2 m2 v1 ss v2 ts pm (fun b => b = R)) (hq : q < ss.length) (ht : TmPost B V v1 ss q o r w1) : ∃ y, (tampS (ss.getD q Sd.zero) o).same y ∧ RS B w1 bb sb cb mb k m k2 m2 v1 (ss.set q y) v2 ts (pm + 1) (fun b => b = R) ∧ BelR B V w1 := by
  obtain ⟨_, y, hy, hT, hC, hbl⟩ := ht
  have hgm : ss.getD q Sd.zero ∈ ss := by rw [getD_lt hq]; exact List.getElem_mem hq
  refine ⟨y, hy, ?_, ?_⟩
  · refine h.tray1 (v' := v1) hC.size ((hC.block bb (heap_lt h.hb) h.nb1.1).trans h.hb) (fun b hb _ hn => hC.block b hb hn) hT (fun b hb => ?_) (by rw [List.length_set]; exact h.l1) (fun s hs => ?_) (Nat.le_succ _)
    · rcases hb with hb | ⟨s, hs, hb⟩
      · exact .inl (.inl hb)
      · rcases mem_set' hs with hs | rfl
        · exact .inl (.inr ⟨s, hs, hb⟩)
        · rcases hbl b hb with h1 | h1
          · exact .inl (.inr ⟨_, hgm, h1⟩)
          · exact .inr h1
    · rcases mem_set' hs with hs | rfl
      · have := h.p1 s hs; omega
      · have h1 := hy.2.2.2.1
        have h2 := tampS_pl (ss.getD q Sd.zero) o
        have h3 := h.p1 _ hgm
        omega
  · exact ⟨hC.below (Below.refl _ _) (Nat.le_trans h.ge.1 (Nat.le_of_lt (heap_lt h.hb))) (fun b hb => (h.t1.lt hb).1), hC.keepOps (fun b hb => h.t1.noOp hb)⟩
end

set_option maxRecDepth 100000 in
set_option maxHeartbeats 4000000 in
theorem stepR8_nil {B : Nat} {w : World} {bb sb cb mb k m k2 m2 : Nat} {v1 v2 : Value} {ss ts : List Sd} {pm : Nat} {o : KOp} {e : Nat → Addr} (h : InR B w bb sb cb mb k m k2 m2 v1 ss v2 ts pm o e) (h0 : o.kind = 8) (hss : ss = []) :
    Calls Tryd.prog 14 #[.pointer (some ⟨bb, 0, none⟩), opV o] w (StepR B w bb sb k m k2 m2 ss v2 ts pm o) := by
  have hP := pro w o
  obtain ⟨W, hW⟩ : ∃ W, (w.alloc (opB o)).alloc ansZ = W := ⟨_, rfl⟩
  rw [hW] at hP
  obtain ⟨hRW, hBW⟩ := begR h.rs hP
  have c0 : W.cell? ⟨w.heap.size, 0, none⟩ = some (.int .u8 o.kind) := hP.cell 0
  obtain ⟨ao, cap, hv, hS⟩ := hRW.t1.row
  have hl0 : ss.length = 0 := by rw [hss]; rfl
  have d1 : W.cell? ⟨bb, 1, none⟩ = some (.slice ao 0 cap) := by rw [← hl0, ← hv]; exact hRW.c1
  have b0 : ((o.kind : Int) == 0) = false := by simp; omega
  have b1 : ((o.kind : Int) == 1) = false := by simp; omega
  have b2 : ((o.kind : Int) == 2) = false := by simp; omega
  have b3 : ((o.kind : Int) == 3) = false := by simp; omega
  have b4 : ((o.kind : Int) == 4) = false := by simp; omega
  have b5 : ((o.kind : Int) == 5) = false := by simp; omega
  have b6 : ((o.kind : Int) == 6) = false := by simp; omega
  have b7 : ((o.kind : Int) == 7) = false := by simp; omega
  have b8 : ((o.kind : Int) == 8) = true := by simp; omega
  have hres3 : Res W (w.heap.size + 1) := hP.res
  have HR3 : Hid (Res W (w.heap.size + 1)) := hres3
  obtain ⟨r0, r1, r2, r3, r4, rf⟩ := hres3.cells
  have hsp : Spec k m ss o { ansE 0 with n := 0 } k m ss := by
    refine Spec.k8 h0 ⟨⟨rfl, rfl, fun _ _ => rfl, SL.nil, rfl, fun _ _ => rfl, by show (0 : Int) = (ss.length : Int); omega⟩, rfl, rfl, ?_⟩
    rw [if_pos hss, hss]; exact SL.nil
  have HF : Hid (StepR B w bb sb k m k2 m2 ss v2 ts pm o (.returned (.agg #[.int .u8 0, .slice none 0 0, .slice none 0 0, .slice none 0 0, .int .i64 0])) (ansW W (w.heap.size + 1) (.int .u8 0) (.slice none 0 0) (.slice none 0 0) (.slice none 0 0) (.int .i64 0))) :=
    finR (cb := cb) (mb := mb) (v1 := v1) (hRW.more (Nat.le_succ _)) hsp hBW (fun w3 _ => AnsOk.num w3 0 0)
  unfold opB ansZ at hW
  unfold opV
  clear h hP hRW hBW h0 hres3 hsp hss hv hS hl0
  go_enter Tryd.func14, Tryd.ntmps14
  go_wp2
  exact retR rfl rfl HR3.out HF.out

set_option maxRecDepth 100000 in
set_option maxHeartbeats 4000000 in
theorem stepR8_some {B : Nat} {w : World} {bb sb cb mb k m k2 m2 : Nat} {v1 v2 : Value} {ss ts : List Sd} {pm : Nat} {o : KOp} {e : Nat → Addr} (h : InR B w bb sb cb mb k m k2 m2 v1 ss v2 ts pm o e) (h0 : o.kind = 8) (hss : 0 < ss.length) :
    Calls Tryd.prog 14 #[.pointer (some ⟨bb, 0, none⟩), opV o] w (StepR B w bb sb k m k2 m2 ss v2 ts pm o) := by
  have hP := pro w o
  obtain ⟨W, hW⟩ : ∃ W, (w.alloc (opB o)).alloc ansZ = W := ⟨_, rfl⟩
  rw [hW] at hP
  obtain ⟨hRW, hBW⟩ := begR h.rs hP
  have HBW : Hid (BelR B w W ∧ B ≤ W.heap.size) := ⟨hBW, by have := hRW.hz _ rfl; omega⟩
  obtain ⟨ao, cap, hv, hS⟩ := hRW.t1.row
  obtain ⟨H, hH, _⟩ := hS.row hss
  subst hH
  have hl1 := hRW.l1
  obtain ⟨L, hL⟩ : ∃ L, ss.length = L := ⟨_, rfl⟩
  obtain ⟨q, hqe⟩ : ∃ q, place o.index ss.length = q := ⟨_, rfl⟩
  have hq : q < ss.length := by rw [← hqe]; exact place_lt _ _ hss
  have hq' : q < L := by omega
  have HPl : Hid (∀ V, Calls Tryd.prog 27 #[.int .i64 o.index, .int .i64 (L : Int)] V fun e w' => e = .returned (.int .i64 (q : Int)) ∧ w' = V) := fun V => by
    have := place_any o.index ss.length V hss (by omega) h.op.hindex.1 h.op.hindex.2
    rw [hqe, hL] at this
    exact this
  have hdr : Below W.heap.size W W.drew := (Below.refl _ _).drew
  have HTm : Hid (Calls Tryd.prog 40 #[.pointer (some ⟨H, q * 4, none⟩), opV o] W.drew fun r w1 => r = .returned (.tuple #[]) ∧ ∃ y, (tampS (ss.getD q Sd.zero) o).same y ∧ RS B w1 bb sb cb mb k m k2 m2 (.slice (some ⟨H, 0, none⟩) L cap) (ss.set q y) v2 ts (pm + 1) (fun b => b = w.heap.size + 1) ∧ BelR B W w1 ∧ w1.heap[w.heap.size + 1]? = W.heap[w.heap.size + 1]? ∧ w1.heap[bb]? = W.heap[bb]? ∧ w1.heap[w.heap.size]? = W.heap[w.heap.size]?) := by
    have hRd := hRW.below hdr
    have hgm : ss.getD q Sd.zero ∈ ss := by rw [getD_lt hq]; exact List.getElem_mem hq
    have hp1 := hRW.p1 _ hgm
    have hpm := h.pm1
    have hT := hRd.t1
    have hob : ¬ tblk (.slice (some ⟨H, 0, none⟩) ss.length cap) ss w.heap.size := fun hx => by
      rw [← hv] at hx
      have := (h.rs.t1.lt hx).2
      omega
    rw [hL] at hob
    rw [hv] at hT hRd
    refine (tamper_any B W.drew H ss.length cap q ss o hT hq h.op.hvalue.1 h.op.hvalue.2 h.op.hmask (by omega)).mono ?_
    intro r w1 ht
    obtain ⟨y, hy, hR1, hB1⟩ := hRd.tamper hq ht
    rw [hL] at hR1
    obtain ⟨hr, _, _, _, hC, _⟩ := ht
    have hz := hRd.hz _ rfl
    exact ⟨hr, y, hy, hR1, ⟨⟨hB1.bel.os, hB1.bel.tape, hB1.bel.output, hB1.bel.size, fun k hk => hB1.bel.block k hk⟩, fun b hi => hB1.ops b hi⟩, hC.block _ hz.1 hz.2.2.2.2.1, hC.block _ (heap_lt hRd.hb) hRd.nb1.1, hC.block _ (heap_lt hP.box) (fun hx => hob (by rw [← hL]; exact hx))⟩
  have c0 : W.cell? ⟨w.heap.size, 0, none⟩ = some (.int .u8 o.kind) := hP.cell 0
  have d1 : W.cell? ⟨bb, 1, none⟩ = some (.slice (some ⟨H, 0, none⟩) L cap) := by rw [← hL, ← hv]; exact hRW.c1
  have b0 : ((o.kind : Int) == 0) = false := by simp; omega
  have b1 : ((o.kind : Int) == 1) = false := by simp; omega
  have b2 : ((o.kind : Int) == 2) = false := by simp; omega
  have b3 : ((o.kind : Int) == 3) = false := by simp; omega
  have b4 : ((o.kind : Int) == 4) = false := by simp; omega
  have b5 : ((o.kind : Int) == 5) = false := by simp; omega
  have b6 : ((o.kind : Int) == 6) = false := by simp; omega
  have b7 : ((o.kind : Int) == 7) = false := by simp; omega
  have b8 : ((o.kind : Int) == 8) = true := by simp; omega
  have HRes : Hid (Res W (w.heap.size + 1)) := hP.res
  have hLi : (0 : Int) < (L : Int) := by omega
  have hL64 : L ≤ 64 := by omega
  have HSp : Hid (∀ y, (tampS (ss.getD q Sd.zero) o).same y → Spec k m ss o { ansE 0 with n := (L : Int) } k m (ss.set q y)) := fun y hy => by
    have hne : ss ≠ [] := List.length_pos_iff.1 hss
    refine Spec.k8 h0 ⟨⟨rfl, rfl, fun _ _ => rfl, SL.nil, rfl, fun _ _ => rfl, by show (L : Int) = (ss.length : Int); omega⟩, rfl, rfl, ?_⟩
    rw [if_neg hne, hqe]
    exact (SL.refl ss).set q hy
  have HKd : Hid (∀ V, Keeps W V → V.cell? ⟨bb, 1, none⟩ = some (.slice (some ⟨H, 0, none⟩) L cap) ∧ V.cell? ⟨w.heap.size, 0, none⟩ = some (.int .u8 o.kind) ∧ V.cell? ⟨w.heap.size, 1, none⟩ = some (.int .i64 o.k) ∧ V.cell? ⟨w.heap.size, 2, none⟩ = some (.int .i64 o.m) ∧ V.cell? ⟨w.heap.size, 3, none⟩ = some (.int .u8 o.gen) ∧ V.cell? ⟨w.heap.size, 4, none⟩ = some (.slice o.da o.bs.length o.dc) ∧ V.cell? ⟨w.heap.size, 5, none⟩ = some (.slice o.pa o.pick.length o.pc) ∧ V.cell? ⟨w.heap.size, 6, none⟩ = some (.int .i64 o.index) ∧ V.cell? ⟨w.heap.size, 7, none⟩ = some (.int .u8 o.field) ∧ V.cell? ⟨w.heap.size, 8, none⟩ = some (.int .i64 o.value) ∧ V.cell? ⟨w.heap.size, 9, none⟩ = some (.int .u8 o.mask)) := fun V hV => ⟨hV _ _ _ d1, hV _ _ _ c0, hV _ _ _ (hP.cell 1), hV _ _ _ (hP.cell 2), hV _ _ _ (hP.cell 3), hV _ _ _ (hP.cell 4), hV _ _ _ (hP.cell 5), hV _ _ _ (hP.cell 6), hV _ _ _ (hP.cell 7), hV _ _ _ (hP.cell 8), hV _ _ _ (hP.cell 9)⟩
  have HKW : Hid (Keeps W W.drew) := Below.keeps hdr
  have HKe : Hid (∀ V : World, V.heap[bb]? = W.heap[bb]? → V.heap[w.heap.size]? = W.heap[w.heap.size]? → V.cell? ⟨bb, 1, none⟩ = some (.slice (some ⟨H, 0, none⟩) L cap) ∧ V.cell? ⟨w.heap.size, 0, none⟩ = some (.int .u8 o.kind) ∧ V.cell? ⟨w.heap.size, 1, none⟩ = some (.int .i64 o.k) ∧ V.cell? ⟨w.heap.size, 2, none⟩ = some (.int .i64 o.m) ∧ V.cell? ⟨w.heap.size, 3, none⟩ = some (.int .u8 o.gen) ∧ V.cell? ⟨w.heap.size, 4, none⟩ = some (.slice o.da o.bs.length o.dc) ∧ V.cell? ⟨w.heap.size, 5, none⟩ = some (.slice o.pa o.pick.length o.pc) ∧ V.cell? ⟨w.heap.size, 6, none⟩ = some (.int .i64 o.index) ∧ V.cell? ⟨w.heap.size, 7, none⟩ = some (.int .u8 o.field) ∧ V.cell? ⟨w.heap.size, 8, none⟩ = some (.int .i64 o.value) ∧ V.cell? ⟨w.heap.size, 9, none⟩ = some (.int .u8 o.mask)) := fun V e1 e2 => by
    have f : ∀ i u, W.cell? ⟨w.heap.size, i, none⟩ = some u → V.cell? ⟨w.heap.size, i, none⟩ = some u := fun i u hu => (World.cell?_of_block (a := ⟨w.heap.size, i, none⟩) e2).trans hu
    exact ⟨(World.cell?_of_block (a := ⟨bb, 1, none⟩) e1).trans d1, f _ _ c0, f _ _ (hP.cell 1), f _ _ (hP.cell 2), f _ _ (hP.cell 3), f _ _ (hP.cell 4), f _ _ (hP.cell 5), f _ _ (hP.cell 6), f _ _ (hP.cell 7), f _ _ (hP.cell 8), f _ _ (hP.cell 9)⟩
  unfold opB ansZ at hW
  unfold opV at HTm ⊢
  clear h hP hRW hBW h0 hss hv hS hl1 hdr hq hqe
  go_enter Tryd.func14, Tryd.ntmps14
  go_upto_region 37 with fail
  clear hW c0 d1
  go_region_held3 (fun w' => w'.cell? ⟨bb, 1, none⟩ = some (.slice (some ⟨H, 0, none⟩) L cap) ∧ w'.cell? ⟨w.heap.size, 0, none⟩ = some (.int .u8 o.kind) ∧ w'.cell? ⟨w.heap.size, 1, none⟩ = some (.int .i64 o.k) ∧ w'.cell? ⟨w.heap.size, 2, none⟩ = some (.int .i64 o.m) ∧ w'.cell? ⟨w.heap.size, 3, none⟩ = some (.int .u8 o.gen) ∧ w'.cell? ⟨w.heap.size, 4, none⟩ = some (.slice o.da o.bs.length o.dc) ∧ w'.cell? ⟨w.heap.size, 5, none⟩ = some (.slice o.pa o.pick.length o.pc) ∧ w'.cell? ⟨w.heap.size, 6, none⟩ = some (.int .i64 o.index) ∧ w'.cell? ⟨w.heap.size, 7, none⟩ = some (.int .u8 o.field) ∧ w'.cell? ⟨w.heap.size, 8, none⟩ = some (.int .i64 o.value) ∧ w'.cell? ⟨w.heap.size, 9, none⟩ = some (.int .u8 o.mask))
    (first | with_reducible exact HKd.out _ HKW.out | with_reducible exact HKx)
    (first
      | (go_at_call 27; refine (HPl.out _).mono ?_; rintro r w9 ⟨rfl, hw⟩; rw [hw]; clear hw w9)
      | (go_at_call 40; refine HTm.out.mono ?_; rintro r w1 ⟨rfl, y, hy, hr1, hb1, hz1, hzb, hzo⟩; have HKx := HKe.out w1 hzb hzo; have HY : Hid ((tampS (ss.getD q Sd.zero) o).same y) := hy; have HR1 : Hid (RS B w1 bb sb cb mb k m k2 m2 (.slice (some ⟨H, 0, none⟩) L cap) (ss.set q y) v2 ts (pm + 1) (fun b => b = w.heap.size + 1)) := hr1; have HB1 : Hid (BelR B W w1) := hb1; have HZ1 : Hid (w1.heap[w.heap.size + 1]? = W.heap[w.heap.size + 1]?) := hz1; clear hy hr1 hb1 hz1 hzb hzo))
  clear HKd HKW HPl HTm HKe HKx
  have d1 := HR1.out.c1
  have hres3 : Res w1 (w.heap.size + 1) := HRes.out.keep HZ1.out
  have HR3 : Hid (Res w1 (w.heap.size + 1)) := hres3
  obtain ⟨r0, r1, r2, r3, r4, rf⟩ := hres3.cells
  have HF : Hid (StepR B w bb sb k m k2 m2 ss v2 ts pm o (.returned (.agg #[.int .u8 0, .slice none 0 0, .slice none 0 0, .slice none 0 0, .int .i64 (L : Int)])) (ansW w1 (w.heap.size + 1) (.int .u8 0) (.slice none 0 0) (.slice none 0 0) (.slice none 0 0) (.int .i64 (L : Int)))) :=
    finR HR1.out (HSp.out y HY.out) (HBW.out.1.trans HB1.out) (fun w3 _ => AnsOk.num w3 0 _)
  clear hres3 HBW HRes HR1 HB1 HZ1 HY HSp
  go_wp2
  exact retR rfl rfl HR3.out HF.out
theorem stepR8 {B : Nat} {w : World} {bb sb cb mb k m k2 m2 : Nat} {v1 v2 : Value} {ss ts : List Sd} {pm : Nat} {o : KOp} {e : Nat → Addr} (h : InR B w bb sb cb mb k m k2 m2 v1 ss v2 ts pm o e) (h0 : o.kind = 8) :
    Calls Tryd.prog 14 #[.pointer (some ⟨bb, 0, none⟩), opV o] w (StepR B w bb sb k m k2 m2 ss v2 ts pm o) := by
  by_cases hs : ss = []
  · exact stepR8_nil h h0 hs
  · exact stepR8_some h h0 (List.length_pos_iff.2 hs)
end Go.Proofs.Qxb6500697aDoor
