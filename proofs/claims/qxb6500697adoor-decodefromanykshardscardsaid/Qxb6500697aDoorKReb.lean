/-
  THE WALKS OF remake AND Rebuild.
-/
import Derived.Test.Qxb6500697aDoorKRest
import Derived.Test.Qxb6500697aDoorKClone
namespace Go.Proofs.Qxb6500697aDoor
open Go.RowKit

theorem Fresh.keep {w w' w'' : World} {ao : Option Addr} {n : Nat} {s : Nat → Nat} (h : Fresh w w' ao n s) (hk : ∀ b, w.heap.size ≤ b → w''.heap[b]? = w'.heap[b]?) : Fresh w w'' ao n s := by
  refine ⟨⟨h.1.1, fun h0 => ?_⟩, fun h0 => ?_⟩
  · obtain ⟨g, h1, h2, h3⟩ := h.2 h0
    rw [h1]
    exact (h3.of_block (hk g h2)).frow.2 h0
  · obtain ⟨g, h1, h2, h3⟩ := h.2 h0
    exact ⟨g, h1, h2, h3.of_block (hk g h2)⟩
theorem Fresh.mono {w v w' : World} {ao : Option Addr} {n : Nat} {s : Nat → Nat} (h : Fresh v w' ao n s) (hs : w.heap.size ≤ v.heap.size) : Fresh w w' ao n s :=
  ⟨h.1, fun h0 => by
    obtain ⟨g, h1, h2, h3⟩ := h.2 h0
    exact ⟨g, h1, Nat.le_trans hs h2, h3⟩⟩
theorem Fresh.congr {w w' : World} {ao : Option Addr} {n : Nat} {s s' : Nat → Nat} (h : Fresh w w' ao n s) (e : ∀ i, i < n → s i = s' i) : Fresh w w' ao n s' :=
  ⟨h.1.congr e, fun h0 => by
    obtain ⟨g, h1, h2, h3⟩ := h.2 h0
    exact ⟨g, h1, h2, h3.congr e⟩⟩

/-- The shard's box filled, then copied to the result's. -/
def finW (w : World) (B0 B1 g ix n : Nat) (v : Value) : World := ((((w.setCell ⟨B1, 3, none⟩ v).setCell ⟨B0, 0, none⟩ (.int .u8 (g : Int))).setCell ⟨B0, 1, none⟩ (.int .i64 (ix : Int))).setCell ⟨B0, 2, none⟩ (.int .i64 (n : Int))).setCell ⟨B0, 3, none⟩ v
theorem finW_other (w : World) (B0 B1 g ix n : Nat) (v : Value) (b : Nat) (h0 : b ≠ B0) (h1 : b ≠ B1) : (finW w B0 B1 g ix n v).heap[b]? = w.heap[b]? := by
  simp [finW, World.setCell, Array.getElem?_modify, Ne.symm h0, Ne.symm h1]
theorem finW_below (w : World) (B0 B1 g ix n : Nat) (v : Value) (B : Nat) (h0 : B ≤ B0) (h1 : B ≤ B1) : Below B w (finW w B0 B1 g ix n v) :=
  (((((Below.refl B w).setCell (p := ⟨B1, 3, none⟩) h1 _).setCell (p := ⟨B0, 0, none⟩) h0 _).setCell (p := ⟨B0, 1, none⟩) h0 _).setCell (p := ⟨B0, 2, none⟩) h0 _).setCell (p := ⟨B0, 3, none⟩) h0 _
theorem finW_cells {w : World} {B g ix n : Nat} {v : Value} {t : TypeId} (h : w.heap[B]? = some (.cells #[.int .u8 0, .int .i64 0, .int .i64 0, .slice none 0 0] t (0, 0))) : (finW w B (B + 1) g ix n v).heap[B]? = some (.cells #[.int .u8 (g : Int), .int .i64 (ix : Int), .int .i64 (n : Int), v] t (0, 0)) := by
  simp [finW, World.setCell, Array.getElem?_modify, h]

/-- What remake answers: shard ix of the stripe, its payload in fresh memory. -/
def MkPost (w : World) (g k n ix : Nat) (D : Nat → Nat → Nat) (r : Ending) (w' : World) : Prop := Below w.heap.size w w' ∧
  ∃ pa pc, r = .returned (.agg #[.int .u8 (g : Int), .int .i64 (ix : Int), .int .i64 (n : Int), .slice pa (psize g k n) pc]) ∧ psize g k n ≤ pc ∧ pc ≤ 9223372036854775807 ∧ Fresh w w' pa (psize g k n) (fun c => gdot (genr g k ix) (fun j => D j c) k)

set_option maxRecDepth 100000 in
set_option maxHeartbeats 4000000 in
theorem remake_any (w : World) (F : Nat → Prop) (cb mb k m sb g n h ix dc : Nat) (P D : Nat → Nat → Nat) (da : Option Addr) (hC : CodecAt w F cb mb k m) (hS : Str w sb g k (k + m) n h P) (hD : RMat w da k (psize g k n) D) (hby : BytD k (psize g k n) D) (hix : ix < k + m) :
    Calls Tryd.prog 55 #[.pointer (some ⟨cb, 0, none⟩), .pointer (some ⟨sb, 0, none⟩), .slice da k dc, .int .i64 (ix : Int)] w (MkPost w g k n ix D) := by
  have hk := hC.hk
  have hkn := hC.hn
  have hps := psize_le g k n hk hS.hn
  obtain ⟨rv, hrow, _⟩ := hS.row
  have s0 : w.cell? ⟨sb, 0, none⟩ = some (.int .u8 ((pfam g : Nat) : Int)) := hrow.cell (i := 0) (by decide)
  have s1 : w.cell? ⟨sb, 1, none⟩ = some (.int .i64 ((psize g k n : Nat) : Int)) := hrow.cell (i := 1) (by decide)
  have s3 : w.cell? ⟨sb, 3, none⟩ = some (.int .u8 (g : Int)) := hrow.cell (i := 3) (by decide)
  have s4 : w.cell? ⟨sb, 4, none⟩ = some (.int .i64 ((n : Nat) : Int)) := hrow.cell (i := 4) (by decide)
  have c0 := hC.c0
  have hcb := hC.lt
  have hsb : sb < w.heap.size := hrow.lt
  have hgen : ∃ H c, w.cell? ⟨cb, 2 + pfam g, none⟩ = some (.slice (some ⟨H, 0, none⟩) ((k + m : Nat)) c) ∧ RMatF w F (some ⟨H, 0, none⟩) (k + m) k (genr g k) := by
    rw [← gfam_pfam g k]
    unfold pfam gfam
    by_cases e : g = 1
    · simp only [if_pos e]
      obtain ⟨H, c, h1, _, _, h4⟩ := hC.g0
      exact ⟨H, c, h1, h4⟩
    · simp only [if_neg e]
      obtain ⟨H, c, h1, _, _, h4⟩ := hC.g1
      exact ⟨H, c, h1, h4⟩
  have hfam1 : (pfam g : Int) < 2 := by unfold pfam; split <;> decide
  obtain ⟨fam, hfam⟩ : ∃ fam, pfam g = fam := ⟨_, rfl⟩
  obtain ⟨N, hN⟩ : ∃ N, k + m = N := ⟨_, rfl⟩
  obtain ⟨size, hsz⟩ : ∃ size, psize g k n = size := ⟨_, rfl⟩
  have HPost : Hid (∀ r w', MkPost w g k n ix D r w' ↔ (Below w.heap.size w w' ∧ ∃ pa pc, r = .returned (.agg #[.int .u8 (g : Int), .int .i64 (ix : Int), .int .i64 (n : Int), .slice pa size pc]) ∧ size ≤ pc ∧ pc ≤ 9223372036854775807 ∧ Fresh w w' pa size (fun c => gdot (genr g k ix) (fun j => D j c) k))) := by
    intro r w'; unfold MkPost; rw [hsz]
  rw [hN] at hgen hix
  rw [hsz] at s1 hD hby hps
  rw [hfam] at s0 hgen hfam1
  have HD : Hid (RMat w da k size D) := hD
  have Hby : Hid (BytD k size D) := hby
  -- the boxes
  obtain ⟨W0, hW0⟩ : ∃ W0, ((w.alloc (.cells #[.int .u8 0, .int .i64 0, .int .i64 0, .slice none 0 0] 60)).alloc (.cells #[.int .u8 (g : Int), .int .i64 (ix : Int), .int .i64 (n : Int), .slice none 0 0] 60)) = W0 := ⟨_, rfl⟩
  have hzs : W0.heap.size = w.heap.size + 2 := by rw [← hW0]; simp
  have hB0 : Below w.heap.size w W0 := by rw [← hW0]; exact ((Below.refl _ _).alloc (Nat.le_refl _) _).alloc (by simp) _
  have HB0 : Hid (Below w.heap.size w W0) := hB0
  have HX0 : Hid (W0.heap[w.heap.size]? = some (.cells #[.int .u8 0, .int .i64 0, .int .i64 0, .slice none 0 0] 60 (0, 0))) := by
    show W0.heap[w.heap.size]? = _
    rw [← hW0, Below.heap_alloc _ _ _ (by simp)]; exact heap_alloc_new w _
  have HX1 : Hid (W0.heap[w.heap.size + 1]? = some (.cells #[.int .u8 (g : Int), .int .i64 (ix : Int), .int .i64 (n : Int), .slice none 0 0] 60 (0, 0))) := by
    show W0.heap[w.heap.size + 1]? = _
    have h := heap_alloc_new (w.alloc (.cells #[.int .u8 0, .int .i64 0, .int .i64 0, .slice none 0 0] 60)) (.cells #[.int .u8 (g : Int), .int .i64 (ix : Int), .int .i64 (n : Int), .slice none 0 0] 60)
    rw [hW0] at h
    simpa using h
  have HEnd : Hid (∀ V w3 pa pc, Below w.heap.size w V → w.heap.size + 2 ≤ V.heap.size → V.heap[w.heap.size]? = W0.heap[w.heap.size]? → V.heap[w.heap.size + 1]? = W0.heap[w.heap.size + 1]? → Below V.heap.size V w3 → size ≤ pc → pc ≤ 9223372036854775807 → Fresh V w3 pa size (fun c => gdot (genr g k ix) (fun j => D j c) k) →
      MkPost w g k n ix D (.returned (.agg #[.int .u8 (g : Int), .int .i64 (ix : Int), .int .i64 (n : Int), .slice pa size pc])) (finW w3 w.heap.size (w.heap.size + 1) g ix n (.slice pa size pc)) ∧
      (finW w3 w.heap.size (w.heap.size + 1) g ix n (.slice pa size pc)).heap[w.heap.size]? = some (.cells #[.int .u8 (g : Int), .int .i64 (ix : Int), .int .i64 (n : Int), .slice pa size pc] 60 (0, 0)) ∧
      w3.heap[w.heap.size]? = some (.cells #[.int .u8 0, .int .i64 0, .int .i64 0, .slice none 0 0] 60 (0, 0)) ∧ w3.heap[w.heap.size + 1]? = some (.cells #[.int .u8 (g : Int), .int .i64 (ix : Int), .int .i64 (n : Int), .slice none 0 0] 60 (0, 0))) := by
    intro V w3 pa pc h1 h2 h3 h4 h5 h6 h7 h8
    have x0 : w3.heap[w.heap.size]? = some (.cells #[.int .u8 0, .int .i64 0, .int .i64 0, .slice none 0 0] 60 (0, 0)) := (h5.block _ (by omega)).trans (h3.trans HX0.out)
    have x1 : w3.heap[w.heap.size + 1]? = some (.cells #[.int .u8 (g : Int), .int .i64 (ix : Int), .int .i64 (n : Int), .slice none 0 0] 60 (0, 0)) := (h5.block _ (by omega)).trans (h4.trans HX1.out)
    refine ⟨(HPost.out _ _).2 ⟨(h1.trans (h5.mono h1.size)).trans (finW_below _ _ _ _ _ _ _ _ (Nat.le_refl _) (Nat.le_succ _)), pa, pc, rfl, h6, h7, ?_⟩, finW_cells x0, x0, x1⟩
    exact (h8.keep (fun b hb => finW_other _ _ _ _ _ _ _ _ (by omega) (by omega))).mono h1.size
  clear hC hS hD hby hrow hfam hN hsz
  obtain ⟨GH, gc, hg1, hg4⟩ := hgen
  have HW0 : Hid (((w.alloc (.cells #[.int .u8 0, .int .i64 0, .int .i64 0, .slice none 0 0] 60)).alloc (.cells #[.int .u8 (g : Int), .int .i64 (ix : Int), .int .i64 (n : Int), .slice none 0 0] 60)) = W0) := hW0
  clear hW0
  go_enter Tryd.func55, Tryd.ntmps55
  go_wp2
  go_cut [9] from 10 (fun pv wc => pv = .pointer (some ⟨w.heap.size + 1, 0, none⟩) ∧ ∃ q, wc = W0.drewN q)
  case first =>
    go_region
    all_goals
      go_wp2
      go_meet
      first
        | exact ⟨rfl, 1, congrArg World.drew HW0.out⟩
        | exact ⟨rfl, 0, HW0.out⟩
  case rest =>
    obtain ⟨rfl, q, hwc⟩ := hcut
    subst hwc
    have hbq : Below w.heap.size w (W0.drewN q) := HB0.out.trans (drewN_below _ _ _)
    have hzq : (W0.drewN q).heap.size = w.heap.size + 2 := by rw [(World.drewN_alike _ _).1]; exact hzs
    have HQ0 : Hid ((W0.drewN q).heap[w.heap.size]? = W0.heap[w.heap.size]? ∧ (W0.drewN q).heap[w.heap.size + 1]? = W0.heap[w.heap.size + 1]?) := by rw [(World.drewN_alike W0 q).1]; exact ⟨rfl, rfl⟩
    obtain ⟨V, hV⟩ : ∃ V, W0.drewN q = V := ⟨_, rfl⟩
    rw [hV] at hbq hzq HQ0 ⊢
    clear hV HW0 hzs
    have HBV : Hid (Below w.heap.size w V) := hbq
    have kp := Below.keeps hbq
    have c0V := kp _ _ _ c0
    have s0V := kp _ _ _ s0
    have s1V := kp _ _ _ s1
    have g1V := kp _ _ _ hg1
    by_cases hixk : ix < k
    · have hixk' : (ix : Int) < (k : Int) := by omega
      obtain ⟨rb, ro, rfl, hrows⟩ := HD.out (by omega)
      obtain ⟨so, sc, r1, r2, r3, r4⟩ := hrows ix hixk
      have r1V := kp _ _ _ r1
      have HCl : Hid _ := clone_any so size sc (D ix) V (r4.below hbq) (by omega)
      have HTop : Hid (∀ c, c < size → D ix c = gdot (genr g k ix) (fun j => D j c) k) := fun c hc => (genr_top g k ix (by omega) hixk (fun j => D j c) (fun j hj => Hby.out j hj c hc)).symm
      clear r1 r4 hrows kp hbq s0 s1 c0 hg1
      go_wp2_with fail
      refine Calls.mono HCl.out ?_
      rintro r w3 ⟨pa, pc, rfl, hp1, hp2, hfr, hb3⟩
      obtain ⟨hpost, hfin, x0, x1⟩ := HEnd.out V w3 pa pc HBV.out (by omega) HQ0.out.1 HQ0.out.2 hb3 hp1 hp2 (hfr.congr HTop.out)
      have HF : Hid _ := hpost
      have HFin : Hid _ := hfin
      clear hpost hfin hfr hb3 HCl
      have a0 : w3.cell? ⟨w.heap.size + 1, 0, none⟩ = some (.int .u8 (g : Int)) := by simp [World.cell?, x1]
      have a1 : w3.cell? ⟨w.heap.size + 1, 1, none⟩ = some (.int .i64 (ix : Int)) := by simp [World.cell?, x1]
      have a2 : w3.cell? ⟨w.heap.size + 1, 2, none⟩ = some (.int .i64 (n : Int)) := by simp [World.cell?, x1]
      have a3 : w3.cell? ⟨w.heap.size + 1, 3, none⟩ = some (.slice none 0 0) := by simp [World.cell?, x1]
      have b0 : w3.cell? ⟨w.heap.size, 0, none⟩ = some (.int .u8 0) := by simp [World.cell?, x0]
      have b1 : w3.cell? ⟨w.heap.size, 1, none⟩ = some (.int .i64 0) := by simp [World.cell?, x0]
      have b2 : w3.cell? ⟨w.heap.size, 2, none⟩ = some (.int .i64 0) := by simp [World.cell?, x0]
      have b3 : w3.cell? ⟨w.heap.size, 3, none⟩ = some (.slice none 0 0) := by simp [World.cell?, x0]
      have af : ∀ i, w3.frozen? ⟨w.heap.size + 1, i, none⟩ = false := fun i => by simp [World.frozen?, x1]
      have bf : ∀ i, w3.frozen? ⟨w.heap.size, i, none⟩ = false := fun i => by simp [World.frozen?, x0]
      clear x0 x1
      unfold finW at HF HFin
      go_wp2
      obtain ⟨Wf, hWf⟩ : ∃ Wf, ((((w3.setCell ⟨w.heap.size + 1, 3, none⟩ (.slice pa size pc)).setCell ⟨w.heap.size, 0, none⟩ (.int .u8 (g : Int))).setCell ⟨w.heap.size, 1, none⟩ (.int .i64 (ix : Int))).setCell ⟨w.heap.size, 2, none⟩ (.int .i64 (n : Int))).setCell ⟨w.heap.size, 3, none⟩ (.slice pa size pc) = Wf := ⟨_, rfl⟩
      rw [hWf] at HF HFin ⊢
      have z0 : Wf.cell? ⟨w.heap.size, 0, none⟩ = some (.int .u8 (g : Int)) := by simp [World.cell?, HFin.out]
      have z1 : Wf.cell? ⟨w.heap.size, 1, none⟩ = some (.int .i64 (ix : Int)) := by simp [World.cell?, HFin.out]
      have z2 : Wf.cell? ⟨w.heap.size, 2, none⟩ = some (.int .i64 (n : Int)) := by simp [World.cell?, HFin.out]
      have z3 : Wf.cell? ⟨w.heap.size, 3, none⟩ = some (.slice pa size pc) := by simp [World.cell?, HFin.out]
      refine bodyPost_ret (v := .agg #[.int .u8 (g : Int), .int .i64 (ix : Int), .int .i64 (n : Int), .slice pa size pc]) (by simp [results, Tryd.results55, go_sem, z0, z1, z2, z3]) rfl HF.out
    · have hixk' : ¬ (ix : Int) < (k : Int) := by omega
      obtain ⟨hb', ho', hbe, hrr⟩ := (hg4.rmat) (by omega)
      obtain ⟨rfl, rfl⟩ : GH = hb' ∧ 0 = ho' := by simpa using hbe
      obtain ⟨so, sc, r1, r2, r3, r4⟩ := hrr ix hix
      rw [Nat.zero_add] at r1
      have r1V := kp _ _ _ r1
      have hix' : (ix : Int) < (N : Int) := by omega
      have HCm : Hid (∀ V', (V' = V ∨ V' = V.drew) → Calls Tryd.prog 51 #[.slice so k sc, .slice da k dc, .int .i64 (size : Int)] V' fun e w3 => ∃ pa pc, e = .returned (.slice pa size pc) ∧
          (MkPost w g k n ix D (.returned (.agg #[.int .u8 (g : Int), .int .i64 (ix : Int), .int .i64 (n : Int), .slice pa size pc])) (finW w3 w.heap.size (w.heap.size + 1) g ix n (.slice pa size pc)) ∧
          (finW w3 w.heap.size (w.heap.size + 1) g ix n (.slice pa size pc)).heap[w.heap.size]? = some (.cells #[.int .u8 (g : Int), .int .i64 (ix : Int), .int .i64 (n : Int), .slice pa size pc] 60 (0, 0)) ∧
          w3.heap[w.heap.size]? = some (.cells #[.int .u8 0, .int .i64 0, .int .i64 0, .slice none 0 0] 60 (0, 0)) ∧ w3.heap[w.heap.size + 1]? = some (.cells #[.int .u8 (g : Int), .int .i64 (ix : Int), .int .i64 (n : Int), .slice none 0 0] 60 (0, 0)))) := by
        intro V' hV'
        have hb : Below V.heap.size V V' := by rcases hV' with rfl | rfl; exact Below.refl _ _; exact (Below.refl _ _).drew
        have hsz : V'.heap.size = V.heap.size := by rcases hV' with rfl | rfl <;> rfl
        refine (combine_any so da sc dc k size (genr g k ix) D V' ((FRow.below r4 HBV.out).below hb) ((RMat.below HD.out HBV.out).below hb) (by omega) (by omega)).mono ?_
        rintro e w3 ⟨h1, h2, h3, h4⟩
        refine ⟨_, _, h1, ?_⟩
        rw [hsz]
        rw [hsz] at h2 h3
        exact HEnd.out V w3 (some ⟨V.heap.size, 0, none⟩) size HBV.out (by omega) HQ0.out.1 HQ0.out.2 (hb.trans h3) (Nat.le_refl _) (by omega) ⟨Row.frow h2, fun _ => ⟨V.heap.size, rfl, Nat.le_refl _, Row.wrow h2 (Nat.le_refl _)⟩⟩
      clear r1 r4 hrr hbe kp hbq s0 s1 c0 hg1 hg4
      go_wp2
      go_cut [] from 10 (fun wc => ∃ w3 pa pc, wc = w3.setCell ⟨w.heap.size + 1, 3, none⟩ (.slice pa size pc) ∧
          (MkPost w g k n ix D (.returned (.agg #[.int .u8 (g : Int), .int .i64 (ix : Int), .int .i64 (n : Int), .slice pa size pc])) (finW w3 w.heap.size (w.heap.size + 1) g ix n (.slice pa size pc)) ∧
          (finW w3 w.heap.size (w.heap.size + 1) g ix n (.slice pa size pc)).heap[w.heap.size]? = some (.cells #[.int .u8 (g : Int), .int .i64 (ix : Int), .int .i64 (n : Int), .slice pa size pc] 60 (0, 0)) ∧
          w3.heap[w.heap.size]? = some (.cells #[.int .u8 0, .int .i64 0, .int .i64 0, .slice none 0 0] 60 (0, 0)) ∧ w3.heap[w.heap.size + 1]? = some (.cells #[.int .u8 (g : Int), .int .i64 (ix : Int), .int .i64 (n : Int), .slice none 0 0] 60 (0, 0))))
      case first =>
        go_region_with (go_at_call 51; refine (HCm.out _ (by first | exact .inl rfl | exact .inr rfl)).mono ?_; rintro r w3 ⟨pa, pc, rfl, hq⟩; have a3 : w3.cell? ⟨w.heap.size + 1, 3, none⟩ = some (.slice none 0 0) := (by simp [World.cell?, hq.2.2.2]); have af : w3.frozen? ⟨w.heap.size + 1, 3, none⟩ = false := (by simp [World.frozen?, hq.2.2.2]); have HQ : Hid _ := hq; clear hq)
        all_goals
          go_wp2
          go_meet
          exact ⟨w3, pa, pc, rfl, HQ.out⟩
      case rest =>
        obtain ⟨w3, pa, pc, hwc, hpost, hfin, x0, x1⟩ := hcut
        subst hwc
        have HF : Hid _ := hpost
        have HFin : Hid _ := hfin
        clear hpost hfin HCm
        have a0 : w3.cell? ⟨w.heap.size + 1, 0, none⟩ = some (.int .u8 (g : Int)) := by simp [World.cell?, x1]
        have a1 : w3.cell? ⟨w.heap.size + 1, 1, none⟩ = some (.int .i64 (ix : Int)) := by simp [World.cell?, x1]
        have a2 : w3.cell? ⟨w.heap.size + 1, 2, none⟩ = some (.int .i64 (n : Int)) := by simp [World.cell?, x1]
        have a3 : w3.cell? ⟨w.heap.size + 1, 3, none⟩ = some (.slice none 0 0) := by simp [World.cell?, x1]
        have b0 : w3.cell? ⟨w.heap.size, 0, none⟩ = some (.int .u8 0) := by simp [World.cell?, x0]
        have b1 : w3.cell? ⟨w.heap.size, 1, none⟩ = some (.int .i64 0) := by simp [World.cell?, x0]
        have b2 : w3.cell? ⟨w.heap.size, 2, none⟩ = some (.int .i64 0) := by simp [World.cell?, x0]
        have b3 : w3.cell? ⟨w.heap.size, 3, none⟩ = some (.slice none 0 0) := by simp [World.cell?, x0]
        have af : ∀ i, w3.frozen? ⟨w.heap.size + 1, i, none⟩ = false := fun i => by simp [World.frozen?, x1]
        have bf : ∀ i, w3.frozen? ⟨w.heap.size, i, none⟩ = false := fun i => by simp [World.frozen?, x0]
        clear x0 x1
        unfold finW at HF HFin
        go_wp2
        obtain ⟨Wf, hWf⟩ : ∃ Wf, ((((w3.setCell ⟨w.heap.size + 1, 3, none⟩ (.slice pa size pc)).setCell ⟨w.heap.size, 0, none⟩ (.int .u8 (g : Int))).setCell ⟨w.heap.size, 1, none⟩ (.int .i64 (ix : Int))).setCell ⟨w.heap.size, 2, none⟩ (.int .i64 (n : Int))).setCell ⟨w.heap.size, 3, none⟩ (.slice pa size pc) = Wf := ⟨_, rfl⟩
        rw [hWf] at HF HFin ⊢
        have z0 : Wf.cell? ⟨w.heap.size, 0, none⟩ = some (.int .u8 (g : Int)) := by simp [World.cell?, HFin.out]
        have z1 : Wf.cell? ⟨w.heap.size, 1, none⟩ = some (.int .i64 (ix : Int)) := by simp [World.cell?, HFin.out]
        have z2 : Wf.cell? ⟨w.heap.size, 2, none⟩ = some (.int .i64 (n : Int)) := by simp [World.cell?, HFin.out]
        have z3 : Wf.cell? ⟨w.heap.size, 3, none⟩ = some (.slice pa size pc) := by simp [World.cell?, HFin.out]
        refine bodyPost_ret (v := .agg #[.int .u8 (g : Int), .int .i64 (ix : Int), .int .i64 (n : Int), .slice pa size pc]) (by simp [results, Tryd.results55, go_sem, z0, z1, z2, z3]) rfl HF.out
end Go.Proofs.Qxb6500697aDoor
