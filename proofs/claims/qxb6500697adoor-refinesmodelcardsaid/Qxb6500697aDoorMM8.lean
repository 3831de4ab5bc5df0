/-
  THE MODEL's STEP: KTamper.
-/
import Derived.Test.Qxb6500697aDoorMM0
namespace Go.Proofs.Qxb6500697aDoor
open Go.RowKit

section
variable {B : Nat} {w W V w1 w2 : World} {bb sb cb mb k m k2 m2 : Nat} {v1 v2 : Value} {ss ts : List Sd} {pm : Nat} {o : KOp} {R : Nat}
/-- The model's tray behind a tamper. -/
theorem RS.tamper2 {q : Nat} {r : Ending} (h : RS B V bb sb cb mb k m k2 m2 v1 ss v2 ts pm (fun b => b = R)) (hq : q < ts.length) (ht : TmPost B V v2 ts q o r w1) : ∃ y, (tampS (ts.getD q Sd.zero) o).same y ∧ RS B w1 bb sb cb mb k m k2 m2 v1 ss v2 (ts.set q y) (pm + 1) (fun b => b = R) ∧ Chg (tblk v2 ts) V w1 := by
  obtain ⟨_, y, hy, hT, hC, hbl⟩ := ht
  have hgm : ts.getD q Sd.zero ∈ ts := by rw [getD_lt hq]; exact List.getElem_mem hq
  refine ⟨y, hy, ?_, hC⟩
  refine h.tray2 (v' := v2) hC.size ((hC.block sb (heap_lt h.hs) h.nb2.2).trans h.hs) (fun b hb _ hn => hC.block b hb hn) hT (fun b hb => ?_) (by rw [List.length_set]; exact h.l2) (fun s hs => ?_) (Nat.le_succ _) h.g2
  · rcases hb with hb | ⟨s, hs, hb⟩
    · exact .inl (.inl hb)
    · rcases mem_set' hs with hs | rfl
      · exact .inl (.inr ⟨s, hs, hb⟩)
      · rcases hbl b hb with h1 | h1
        · exact .inl (.inr ⟨_, hgm, h1⟩)
        · exact .inr h1
  · rcases mem_set' hs with hs | rfl
    · have := h.p2 s hs; omega
    · have h1 := hy.2.2.2.1
      have h2 := tampS_pl (ts.getD q Sd.zero) o
      have h3 := h.p2 _ hgm
      omega
end

set_option maxRecDepth 100000 in
set_option maxHeartbeats 4000000 in
theorem stepM8_nil {B : Nat} {w : World} {bb sb cb mb k m k2 m2 : Nat} {v1 v2 : Value} {ss ts : List Sd} {pm : Nat} {o : KOp} (h : InM B w bb sb cb mb k m k2 m2 v1 ss v2 ts pm o) (h0 : o.kind = 8) (hss : ts = []) :
    Calls Tryd.prog 16 #[.pointer (some ⟨sb, 0, none⟩), opV o] w (StepM B w bb sb cb mb k m k2 m2 v1 ss v2 ts pm o) := by
  have hP := pro w o
  obtain ⟨W, hW⟩ : ∃ W, (w.alloc (opB o)).alloc ansZ = W := ⟨_, rfl⟩
  rw [hW] at hP
  obtain ⟨hRW, hBW⟩ := begR h.rs hP
  have c0 : W.cell? ⟨w.heap.size, 0, none⟩ = some (.int .u8 o.kind) := hP.cell 0
  obtain ⟨ao, cap, hv, hS⟩ := hRW.t2.row
  have hl0 : ts.length = 0 := by rw [hss]; rfl
  have d1 : W.cell? ⟨sb, 2, none⟩ = some (.slice ao 0 cap) := by rw [← hl0, ← hv]; exact hRW.s2
  have b0 : ((o.kind : Int) == 0) = false := by simp; omega
  have b1 : ((o.kind : Int) == 1) = false := by simp; omega
  have b2 : ((o.kind : Int) == 2) = false := by simp; omega
  have b3 : ((o.kind : Int) == 3) = false := by simp; omega
  have b4 : ((o.kind : Int) == 4) = false := by simp; omega
  have b5 : ((o.kind : Int) == 5) = false := by simp; omega
  have b6 : ((o.kind : Int) == 6) = false := by simp; omega
  have b7 : ((o.kind : Int) == 7) = false := by simp; omega
  have b8 : ((o.kind : Int) == 8) = true := by simp; omega
  have hres3 : Res W (w.heap.size + 1) := hP.res
  have HR3 : Hid (Res W (w.heap.size + 1)) := hres3
  obtain ⟨r0, r1, r2, r3, r4, rf⟩ := hres3.cells
  have hsp : Spec k2 m2 ts o { ansE 0 with n := 0 } k2 m2 ts := by
    refine Spec.k8 h0 ⟨⟨rfl, rfl, fun _ _ => rfl, SL.nil, rfl, fun _ _ => rfl, by show (0 : Int) = (ts.length : Int); omega⟩, rfl, rfl, ?_⟩
    rw [if_pos hss, hss]; exact SL.nil
  have HF : Hid (StepM B w bb sb cb mb k m k2 m2 v1 ss v2 ts pm o (.returned (.agg #[.int .u8 0, .slice none 0 0, .slice none 0 0, .slice none 0 0, .int .i64 0])) (ansW W (w.heap.size + 1) (.int .u8 0) (.slice none 0 0) (.slice none 0 0) (.slice none 0 0) (.int .i64 0))) :=
    finM0 hRW hP.bel (Below.refl _ _) hsp (fun w3 _ => AnsOk.num w3 0 0)
  unfold opB ansZ at hW
  unfold opV
  clear h hP hRW hBW h0 hres3 hsp hss hv hS hl0
  go_enter Tryd.func16, Tryd.ntmps16
  go_wp2
  exact retM rfl rfl HR3.out HF.out

set_option maxRecDepth 100000 in
set_option maxHeartbeats 4000000 in
theorem stepM8_some {B : Nat} {w : World} {bb sb cb mb k m k2 m2 : Nat} {v1 v2 : Value} {ss ts : List Sd} {pm : Nat} {o : KOp} (h : InM B w bb sb cb mb k m k2 m2 v1 ss v2 ts pm o) (h0 : o.kind = 8) (hss : 0 < ts.length) :
    Calls Tryd.prog 16 #[.pointer (some ⟨sb, 0, none⟩), opV o] w (StepM B w bb sb cb mb k m k2 m2 v1 ss v2 ts pm o) := by
  have hP := pro w o
  obtain ⟨W, hW⟩ : ∃ W, (w.alloc (opB o)).alloc ansZ = W := ⟨_, rfl⟩
  rw [hW] at hP
  obtain ⟨hRW, hBW⟩ := begR h.rs hP
  obtain ⟨ao, cap, hv, hS⟩ := hRW.t2.row
  obtain ⟨H, hH, _⟩ := hS.row hss
  subst hH
  have hl1 := hRW.l2
  obtain ⟨L, hL⟩ : ∃ L, ts.length = L := ⟨_, rfl⟩
  obtain ⟨q, hqe⟩ : ∃ q, place o.index ts.length = q := ⟨_, rfl⟩
  have hq : q < ts.length := by rw [← hqe]; exact place_lt _ _ hss
  have hq' : q < L := by omega
  have HPl : Hid (∀ V, Calls Tryd.prog 27 #[.int .i64 o.index, .int .i64 (L : Int)] V fun e w' => e = .returned (.int .i64 (q : Int)) ∧ w' = V) := fun V => by
    have := place_any o.index ts.length V hss (by omega) h.op.hindex.1 h.op.hindex.2
    rw [hqe, hL] at this
    exact this
  have hdr : Below W.heap.size W W.drew := (Below.refl _ _).drew
  have HTm : Hid (Calls Tryd.prog 40 #[.pointer (some ⟨H, q * 4, none⟩), opV o] W.drew fun r w1 => r = .returned (.tuple #[]) ∧ ∃ y, (tampS (ts.getD q Sd.zero) o).same y ∧ RS B w1 bb sb cb mb k m k2 m2 v1 ss (.slice (some ⟨H, 0, none⟩) L cap) (ts.set q y) (pm + 1) (fun b => b = w.heap.size + 1) ∧ Chg (PM sb v2 ts) w w1 ∧ w1.heap[w.heap.size + 1]? = W.heap[w.heap.size + 1]? ∧ w1.heap[sb]? = W.heap[sb]? ∧ w1.heap[w.heap.size]? = W.heap[w.heap.size]?) := by
    have hRd := hRW.below hdr
    have hgm : ts.getD q Sd.zero ∈ ts := by rw [getD_lt hq]; exact List.getElem_mem hq
    have hp1 := hRW.p2 _ hgm
    have hpm := h.pm1
    have hT := hRd.t2
    have hob : ¬ tblk v2 ts w.heap.size := fun hx => by
      have := (h.rs.t2.lt hx).2
      omega
    have hvv := hv
    rw [hv] at hT hRd
    refine (tamper_any B W.drew H ts.length cap q ts o hT hq h.op.hvalue.1 h.op.hvalue.2 h.op.hmask (by omega)).mono ?_
    intro r w1 ht
    obtain ⟨y, hy, hR1, hC1⟩ := hRd.tamper2 hq ht
    rw [hL] at hR1
    have hr := ht.1
    rw [← hvv] at hC1
    have hz := hRW.hz _ rfl
    have hCw : Chg (PM sb v2 ts) w w1 := (Below.chg (hP.bel.trans (hdr.mono hP.bel.size)) _).trans (hC1.mono (fun b hb => .inr hb))
    exact ⟨hr, y, hy, hR1, hCw, hC1.block _ hz.1 hz.2.2.2.2.2, hC1.block _ (heap_lt hRW.hs) hRW.nb2.2, hC1.block _ (heap_lt hP.box) hob⟩
  have c0 : W.cell? ⟨w.heap.size, 0, none⟩ = some (.int .u8 o.kind) := hP.cell 0
  have d1 : W.cell? ⟨sb, 2, none⟩ = some (.slice (some ⟨H, 0, none⟩) L cap) := by rw [← hL, ← hv]; exact hRW.s2
  have b0 : ((o.kind : Int) == 0) = false := by simp; omega
  have b1 : ((o.kind : Int) == 1) = false := by simp; omega
  have b2 : ((o.kind : Int) == 2) = false := by simp; omega
  have b3 : ((o.kind : Int) == 3) = false := by simp; omega
  have b4 : ((o.kind : Int) == 4) = false := by simp; omega
  have b5 : ((o.kind : Int) == 5) = false := by simp; omega
  have b6 : ((o.kind : Int) == 6) = false := by simp; omega
  have b7 : ((o.kind : Int) == 7) = false := by simp; omega
  have b8 : ((o.kind : Int) == 8) = true := by simp; omega
  have HRes : Hid (Res W (w.heap.size + 1)) := hP.res
  have hLi : (0 : Int) < (L : Int) := by omega
  have hL64 : L ≤ 64 := by omega
  have HSp : Hid (∀ y, (tampS (ts.getD q Sd.zero) o).same y → Spec k2 m2 ts o { ansE 0 with n := (L : Int) } k2 m2 (ts.set q y)) := fun y hy => by
    have hne : ts ≠ [] := List.length_pos_iff.1 hss
    refine Spec.k8 h0 ⟨⟨rfl, rfl, fun _ _ => rfl, SL.nil, rfl, fun _ _ => rfl, by show (L : Int) = (ts.length : Int); omega⟩, rfl, rfl, ?_⟩
    rw [if_neg hne, hqe]
    exact (SL.refl ts).set q hy
  have HKd : Hid (∀ V, Keeps W V → V.cell? ⟨sb, 2, none⟩ = some (.slice (some ⟨H, 0, none⟩) L cap) ∧ V.cell? ⟨w.heap.size, 0, none⟩ = some (.int .u8 o.kind) ∧ V.cell? ⟨w.heap.size, 1, none⟩ = some (.int .i64 o.k) ∧ V.cell? ⟨w.heap.size, 2, none⟩ = some (.int .i64 o.m) ∧ V.cell? ⟨w.heap.size, 3, none⟩ = some (.int .u8 o.gen) ∧ V.cell? ⟨w.heap.size, 4, none⟩ = some (.slice o.da o.bs.length o.dc) ∧ V.cell? ⟨w.heap.size, 5, none⟩ = some (.slice o.pa o.pick.length o.pc) ∧ V.cell? ⟨w.heap.size, 6, none⟩ = some (.int .i64 o.index) ∧ V.cell? ⟨w.heap.size, 7, none⟩ = some (.int .u8 o.field) ∧ V.cell? ⟨w.heap.size, 8, none⟩ = some (.int .i64 o.value) ∧ V.cell? ⟨w.heap.size, 9, none⟩ = some (.int .u8 o.mask)) := fun V hV => ⟨hV _ _ _ d1, hV _ _ _ c0, hV _ _ _ (hP.cell 1), hV _ _ _ (hP.cell 2), hV _ _ _ (hP.cell 3), hV _ _ _ (hP.cell 4), hV _ _ _ (hP.cell 5), hV _ _ _ (hP.cell 6), hV _ _ _ (hP.cell 7), hV _ _ _ (hP.cell 8), hV _ _ _ (hP.cell 9)⟩
  have HKW : Hid (Keeps W W.drew) := Below.keeps hdr
  have HKe : Hid (∀ V : World, V.heap[sb]? = W.heap[sb]? → V.heap[w.heap.size]? = W.heap[w.heap.size]? → V.cell? ⟨sb, 2, none⟩ = some (.slice (some ⟨H, 0, none⟩) L cap) ∧ V.cell? ⟨w.heap.size, 0, none⟩ = some (.int .u8 o.kind) ∧ V.cell? ⟨w.heap.size, 1, none⟩ = some (.int .i64 o.k) ∧ V.cell? ⟨w.heap.size, 2, none⟩ = some (.int .i64 o.m) ∧ V.cell? ⟨w.heap.size, 3, none⟩ = some (.int .u8 o.gen) ∧ V.cell? ⟨w.heap.size, 4, none⟩ = some (.slice o.da o.bs.length o.dc) ∧ V.cell? ⟨w.heap.size, 5, none⟩ = some (.slice o.pa o.pick.length o.pc) ∧ V.cell? ⟨w.heap.size, 6, none⟩ = some (.int .i64 o.index) ∧ V.cell? ⟨w.heap.size, 7, none⟩ = some (.int .u8 o.field) ∧ V.cell? ⟨w.heap.size, 8, none⟩ = some (.int .i64 o.value) ∧ V.cell? ⟨w.heap.size, 9, none⟩ = some (.int .u8 o.mask)) := fun V e1 e2 => by
    have f : ∀ i u, W.cell? ⟨w.heap.size, i, none⟩ = some u → V.cell? ⟨w.heap.size, i, none⟩ = some u := fun i u hu => (World.cell?_of_block (a := ⟨w.heap.size, i, none⟩) e2).trans hu
    exact ⟨(World.cell?_of_block (a := ⟨sb, 2, none⟩) e1).trans d1, f _ _ c0, f _ _ (hP.cell 1), f _ _ (hP.cell 2), f _ _ (hP.cell 3), f _ _ (hP.cell 4), f _ _ (hP.cell 5), f _ _ (hP.cell 6), f _ _ (hP.cell 7), f _ _ (hP.cell 8), f _ _ (hP.cell 9)⟩
  unfold opB ansZ at hW
  unfold opV at HTm ⊢
  clear h hP hRW hBW h0 hss hv hS hl1 hdr hq hqe
  go_enter Tryd.func16, Tryd.ntmps16
  go_upto_region 80 with fail
  clear hW c0 d1
  go_region_held3 (fun w' => w'.cell? ⟨sb, 2, none⟩ = some (.slice (some ⟨H, 0, none⟩) L cap) ∧ w'.cell? ⟨w.heap.size, 0, none⟩ = some (.int .u8 o.kind) ∧ w'.cell? ⟨w.heap.size, 1, none⟩ = some (.int .i64 o.k) ∧ w'.cell? ⟨w.heap.size, 2, none⟩ = some (.int .i64 o.m) ∧ w'.cell? ⟨w.heap.size, 3, none⟩ = some (.int .u8 o.gen) ∧ w'.cell? ⟨w.heap.size, 4, none⟩ = some (.slice o.da o.bs.length o.dc) ∧ w'.cell? ⟨w.heap.size, 5, none⟩ = some (.slice o.pa o.pick.length o.pc) ∧ w'.cell? ⟨w.heap.size, 6, none⟩ = some (.int .i64 o.index) ∧ w'.cell? ⟨w.heap.size, 7, none⟩ = some (.int .u8 o.field) ∧ w'.cell? ⟨w.heap.size, 8, none⟩ = some (.int .i64 o.value) ∧ w'.cell? ⟨w.heap.size, 9, none⟩ = some (.int .u8 o.mask))
    (first | with_reducible exact HKd.out _ HKW.out | with_reducible exact HKx)
    (first
      | (go_at_call 27; refine (HPl.out _).mono ?_; rintro r w9 ⟨rfl, hw⟩; rw [hw]; clear hw w9)
      | (go_at_call 40; refine HTm.out.mono ?_; rintro r w1 ⟨rfl, y, hy, hr1, hb1, hz1, hzb, hzo⟩; have HKx := HKe.out w1 hzb hzo; have HY : Hid ((tampS (ts.getD q Sd.zero) o).same y) := hy; have HR1 : Hid (RS B w1 bb sb cb mb k m k2 m2 v1 ss (.slice (some ⟨H, 0, none⟩) L cap) (ts.set q y) (pm + 1) (fun b => b = w.heap.size + 1)) := hr1; have HB1 : Hid (Chg (PM sb v2 ts) w w1) := hb1; have HZ1 : Hid (w1.heap[w.heap.size + 1]? = W.heap[w.heap.size + 1]?) := hz1; clear hy hr1 hb1 hz1 hzb hzo))
  clear HKd HKW HPl HTm HKe HKx
  have d1 := HR1.out.s2
  have hres3 : Res w1 (w.heap.size + 1) := HRes.out.keep HZ1.out
  have HR3 : Hid (Res w1 (w.heap.size + 1)) := hres3
  obtain ⟨r0, r1, r2, r3, r4, rf⟩ := hres3.cells
  have HF : Hid (StepM B w bb sb cb mb k m k2 m2 v1 ss v2 ts pm o (.returned (.agg #[.int .u8 0, .slice none 0 0, .slice none 0 0, .slice none 0 0, .int .i64 (L : Int)])) (ansW w1 (w.heap.size + 1) (.int .u8 0) (.slice none 0 0) (.slice none 0 0) (.slice none 0 0) (.int .i64 (L : Int)))) :=
    finM HR1.out (HSp.out y HY.out) HB1.out (Nat.le_succ _) (fun w3 _ => AnsOk.num w3 0 _)
  clear hres3 HRes HR1 HB1 HZ1 HY HSp
  go_wp2
  exact retM rfl rfl HR3.out HF.out
theorem stepM8 {B : Nat} {w : World} {bb sb cb mb k m k2 m2 : Nat} {v1 v2 : Value} {ss ts : List Sd} {pm : Nat} {o : KOp} (h : InM B w bb sb cb mb k m k2 m2 v1 ss v2 ts pm o) (h0 : o.kind = 8) :
    Calls Tryd.prog 16 #[.pointer (some ⟨sb, 0, none⟩), opV o] w (StepM B w bb sb cb mb k m k2 m2 v1 ss v2 ts pm o) := by
  by_cases hs : ts = []
  · exact stepM8_nil h h0 hs
  · exact stepM8_some h h0 (List.length_pos_iff.2 hs)
end Go.Proofs.Qxb6500697aDoor
