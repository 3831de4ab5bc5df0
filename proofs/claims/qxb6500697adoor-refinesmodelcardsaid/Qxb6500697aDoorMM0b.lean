/-
  THE MODEL's STEP: KSetup.
-/
import Derived.Test.Qxb6500697aDoorMM6
namespace Go.Proofs.Qxb6500697aDoor
open Go.RowKit

set_option maxRecDepth 100000 in
set_option maxHeartbeats 4000000 in
theorem stepM0_bad {B : Nat} {w : World} {bb sb cb mb k m k2 m2 : Nat} {v1 v2 : Value} {ss ts : List Sd} {pm : Nat} {o : KOp} (h : InM B w bb sb cb mb k m k2 m2 v1 ss v2 ts pm o) (h0 : o.kind = 0) (hg : geo o.k o.m = false) :
    Calls Tryd.prog 16 #[.pointer (some ⟨sb, 0, none⟩), opV o] w (StepM B w bb sb cb mb k m k2 m2 v1 ss v2 ts pm o) := by
  have hP := pro w o
  obtain ⟨W, hW⟩ : ∃ W, (w.alloc (opB o)).alloc ansZ = W := ⟨_, rfl⟩
  rw [hW] at hP
  obtain ⟨hRW, hBW⟩ := begR h.rs hP
  have hg2 := hRW.g2
  have c0 : W.cell? ⟨w.heap.size, 0, none⟩ = some (.int .u8 o.kind) := hP.cell 0
  have c3 : W.cell? ⟨w.heap.size, 3, none⟩ = some (.int .u8 o.gen) := hP.cell 3
  have c5 : W.cell? ⟨w.heap.size, 5, none⟩ = some (.slice o.pa o.pick.length o.pc) := hP.cell 5
  have c8 : W.cell? ⟨w.heap.size, 8, none⟩ = some (.int .i64 o.value) := hP.cell 8
  have d0 := hRW.s0
  have d1 := hRW.s1
  have b0 : ((o.kind : Int) == 0) = true := by simp; omega
  have HRes : Hid (Res W (w.heap.size + 1)) := hP.res
  have HRW : Hid (RS B W bb sb cb mb k m k2 m2 v1 ss v2 ts pm (fun b => b = w.heap.size + 1)) := hRW
  have HPb : Hid (Below w.heap.size w W) := hP.bel
  have HK0 : Hid (o.kind = 0) := h0
  have c1 : W.cell? ⟨w.heap.size, 1, none⟩ = some (.int .i64 o.k) := hP.cell 1
  have c2 : W.cell? ⟨w.heap.size, 2, none⟩ = some (.int .i64 o.m) := hP.cell 2
  have HGn : Hid _ := goodGeo_any o.k o.m W h.op.hk.1 h.op.hk.2 h.op.hm.1 h.op.hm.2
  rw [hg] at HGn
  have HSp : Hid (Spec k2 m2 ts o (ansE 1) k2 m2 ts) := by
    show Spec k2 m2 ts o (ansE 1) k2 m2 ts
    unfold Spec; rw [if_pos h0]; exact .inl ⟨hg, AnsEq.refl _, Stay.refl _ _ _⟩
  unfold opB ansZ at hW
  unfold opV
  clear h hP hRW hBW h0 hg2
  go_enter Tryd.func16, Tryd.ntmps16
  have hres3 : Res W (w.heap.size + 1) := HRes.out
  obtain ⟨r0, r1, r2, r3, r4, rf⟩ := hres3.cells
  have HF : Hid (StepM B w bb sb cb mb k m k2 m2 v1 ss v2 ts pm o (.returned (.agg #[.int .u8 1, .slice none 0 0, .slice none 0 0, .slice none 0 0, .int .i64 0])) (ansW W (w.heap.size + 1) (.int .u8 1) (.slice none 0 0) (.slice none 0 0) (.slice none 0 0) (.int .i64 0))) :=
    finM0 HRW.out HPb.out (Below.refl _ _) (HSp.out) (fun w3 _ => AnsOk.num w3 1 0)
  clear hres3 HRW HPb HK0 hg HSp
  go_wp2_with fail
  refine Calls.mono HGn.out ?_
  rintro r w9 ⟨rfl, hw⟩
  rw [hw]
  clear hw w9 HGn
  go_wp2
  exact retM rfl rfl HRes.out HF.out

theorem drew_cell (w : World) (a : Addr) : w.drew.cell? a = w.cell? a := rfl
theorem drew_res {w : World} {R : Nat} (h : Res w R) : Res w.drew R := h
theorem three_cells {w : World} {b : Nat} {p q r u v x : Value} {t : TypeId} (h : w.heap[b]? = some (.cells #[p, q, r] t (0, 0))) : (((w.setCell ⟨b, 0, none⟩ u).setCell ⟨b, 1, none⟩ v).setCell ⟨b, 2, none⟩ x).heap[b]? = some (.cells #[u, v, x] t (0, 0)) := by
  simp [World.setCell, Array.getElem?_modify, h]
/-- New numbers, an empty tray. -/
theorem RS.setup2 {B : Nat} {w : World} {bb sb cb mb k m k2 m2 k2' m2' : Nat} {v1 v2 : Value} {ss ts : List Sd} {pm : Nat} {Z : Nat → Prop} (h : RS B w bb sb cb mb k m k2 m2 v1 ss v2 ts pm Z) (hg : 1 ≤ k2' ∧ 1 ≤ m2' ∧ k2' + m2' ≤ 16) :
    RS B (((w.setCell ⟨sb, 0, none⟩ (.int .i64 (k2' : Int))).setCell ⟨sb, 1, none⟩ (.int .i64 (m2' : Int))).setCell ⟨sb, 2, none⟩ (.slice none 0 0)) bb sb cb mb k m k2' m2' v1 ss (.slice none 0 0) [] pm Z := by
  have hO : Only sb w (((w.setCell ⟨sb, 0, none⟩ (.int .i64 (k2' : Int))).setCell ⟨sb, 1, none⟩ (.int .i64 (m2' : Int))).setCell ⟨sb, 2, none⟩ (.slice none 0 0)) := (((Only.refl _ _).setCell _ _).setCell _ _).setCell _ _
  exact h.tray2 (Nat.le_of_eq hO.size.symm) (three_cells h.hs) (fun b _ hne _ => hO.block b hne) (Tray.nil _ _) (fun b hb => (tblk_nil b hb).elim) (by simp) (by simp) (Nat.le_refl _) hg

set_option maxRecDepth 100000 in
set_option maxHeartbeats 4000000 in
theorem stepM0_ok {B : Nat} {w : World} {bb sb cb mb k m k2 m2 : Nat} {v1 v2 : Value} {ss ts : List Sd} {pm : Nat} {o : KOp} (h : InM B w bb sb cb mb k m k2 m2 v1 ss v2 ts pm o) (h0 : o.kind = 0) (hg : geo o.k o.m = true) (k' m' : Nat) (hk' : o.k = (k' : Int)) (hm' : o.m = (m' : Int)) (hgg : 1 ≤ k' ∧ 1 ≤ m' ∧ k' + m' ≤ 16) :
    Calls Tryd.prog 16 #[.pointer (some ⟨sb, 0, none⟩), opV o] w (StepM B w bb sb cb mb k m k2 m2 v1 ss v2 ts pm o) := by
  have hP := pro w o
  obtain ⟨W, hW⟩ : ∃ W, (w.alloc (opB o)).alloc ansZ = W := ⟨_, rfl⟩
  rw [hW] at hP
  obtain ⟨hRW, hBW⟩ := begR h.rs hP
  have hg2 := hRW.g2
  have c0 : W.cell? ⟨w.heap.size, 0, none⟩ = some (.int .u8 o.kind) := hP.cell 0
  have c3 : W.cell? ⟨w.heap.size, 3, none⟩ = some (.int .u8 o.gen) := hP.cell 3
  have c5 : W.cell? ⟨w.heap.size, 5, none⟩ = some (.slice o.pa o.pick.length o.pc) := hP.cell 5
  have c8 : W.cell? ⟨w.heap.size, 8, none⟩ = some (.int .i64 o.value) := hP.cell 8
  have d0 := hRW.s0
  have d1 := hRW.s1
  have b0 : ((o.kind : Int) == 0) = true := by simp; omega
  have HRes : Hid (Res W (w.heap.size + 1)) := hP.res
  have HRW : Hid (RS B W bb sb cb mb k m k2 m2 v1 ss v2 ts pm (fun b => b = w.heap.size + 1)) := hRW
  have HPb : Hid (Below w.heap.size w W) := hP.bel
  have HK0 : Hid (o.kind = 0) := h0
  have c1 : W.cell? ⟨w.heap.size, 1, none⟩ = some (.int .i64 (k' : Int)) := by rw [← hk']; exact hP.cell 1
  have c2 : W.cell? ⟨w.heap.size, 2, none⟩ = some (.int .i64 (m' : Int)) := by rw [← hm']; exact hP.cell 2
  have HGn : Hid (Calls Tryd.prog 42 #[.int .i64 (k' : Int), .int .i64 (m' : Int)] W fun r w' => r = .returned (.bool true) ∧ w' = W) := by
    have := goodGeo_any o.k o.m W h.op.hk.1 h.op.hk.2 h.op.hm.1 h.op.hm.2
    rw [hg, hk', hm'] at this
    exact this
  have HSp : Hid (Spec k2 m2 ts o { ansE 0 with n := ((k' + m' : Nat) : Int) } k' m' []) := by
    show Spec k2 m2 ts o { ansE 0 with n := ((k' + m' : Nat) : Int) } k' m' []
    unfold Spec; rw [if_pos h0]
    refine .inr ⟨hg, ⟨rfl, rfl, fun _ _ => rfl, SL.nil, rfl, fun _ _ => rfl, ?_⟩, hk'.symm, hm'.symm, rfl⟩
    show ((k' + m' : Nat) : Int) = o.k + o.m
    omega
  have d2 := hRW.s2
  have df := hRW.fs
  have hsz := hP.sz
  have hsR : sb ≠ w.heap.size + 1 := Ne.symm (hRW.hz _ rfl).2.2.2.1
  have hsO : sb ≠ w.heap.size := by have := heap_lt h.rs.hs; omega
  unfold opB ansZ at hW
  unfold opV
  clear h hP hRW hBW h0 hg2
  go_enter Tryd.func16, Tryd.ntmps16
  rw [hk', hm'] at hW ⊢
  clear hk' hm' hg
  go_wp2_with fail
  refine Calls.mono HGn.out ?_
  rintro r w9 ⟨rfl, hw⟩
  rw [hw]
  clear hw w9 HGn
  go_upto_region 5 with fail
  clear hW c0 c3 c5 c8
  go_region_held3 (fun w' => w'.cell? ⟨w.heap.size, 1, none⟩ = some (.int .i64 (k' : Int)) ∧ w'.cell? ⟨w.heap.size, 2, none⟩ = some (.int .i64 (m' : Int)))
    (first | go_keep)
    (first | fail)
  have hsu := HRW.out.setup2 (k2' := k') (m2' := m') hgg
  obtain ⟨V, hV⟩ : ∃ V, (((W.setCell ⟨sb, 0, none⟩ (.int .i64 (k' : Int))).setCell ⟨sb, 1, none⟩ (.int .i64 (m' : Int))).setCell ⟨sb, 2, none⟩ (.slice none 0 0)) = V := ⟨_, rfl⟩
  have hOV : Only sb W V := by rw [← hV]; exact (((Only.refl _ _).setCell _ _).setCell _ _).setCell _ _
  rw [hV] at hsu
  simp only [hV]
  have hCV : Chg (PM sb v2 ts) w V := (Below.chg HPb.out _).trans (Only.chg (P := PM sb v2 ts) hOV (.inl rfl))
  obtain ⟨X, hX⟩ : ∃ X, V.drew = X := ⟨_, rfl⟩
  have hbX : Below V.heap.size V X := by rw [← hX]; exact (Below.refl _ _).drew
  simp only [hX]
  have hRX := hsu.below hbX
  have hresX : Res X (w.heap.size + 1) := (HRes.out.keep (hOV.block _ (Ne.symm hsR))).below hbX
  have HRX : Hid (Res X.drew (w.heap.size + 1)) := drew_res hresX
  obtain ⟨r0, r1, r2, r3, r4, rf⟩ := hresX.cells
  have HF : Hid (StepM B w bb sb cb mb k m k2 m2 v1 ss v2 ts pm o (.returned (.agg #[.int .u8 0, .slice none 0 0, .slice none 0 0, .slice none 0 0, .int .i64 ((k' + m' : Nat) : Int)])) (ansW X.drew (w.heap.size + 1) (.int .u8 0) (.slice none 0 0) (.slice none 0 0) (.slice none 0 0) (.int .i64 ((k' + m' : Nat) : Int)))) := by
    have hbd : Below X.heap.size X X.drew := (Below.refl _ _).drew
    exact finM ((hRX.below hbd).more (Nat.le_succ _)) HSp.out ((hCV.trans (Below.chg hbX _)).trans (Below.chg hbd _)) (Nat.le_succ _) (fun w3 _ => AnsOk.num w3 0 _)
  have e0 := hRX.s0
  have e1 := hRX.s1
  have HKs : Hid (∀ a b c d e, (ansW X (w.heap.size + 1) a b c d e).drew.cell? ⟨sb, 0, none⟩ = some (.int .i64 (k' : Int)) ∧ (ansW X (w.heap.size + 1) a b c d e).drew.cell? ⟨sb, 1, none⟩ = some (.int .i64 (m' : Int))) := fun a b c d e => by
    have hO := ansW_only X (w.heap.size + 1) a b c d e
    rw [drew_cell, drew_cell]
    exact ⟨(World.cell?_of_block (a := ⟨sb, 0, none⟩) (hO.block sb hsR)).trans e0, (World.cell?_of_block (a := ⟨sb, 1, none⟩) (hO.block sb hsR)).trans e1⟩
  have HKW : Hid (X.drew.cell? ⟨sb, 0, none⟩ = some (.int .i64 (k' : Int)) ∧ X.drew.cell? ⟨sb, 1, none⟩ = some (.int .i64 (m' : Int))) := by show X.drew.cell? ⟨sb, 0, none⟩ = some (.int .i64 (k' : Int)) ∧ X.drew.cell? ⟨sb, 1, none⟩ = some (.int .i64 (m' : Int)); rw [drew_cell, drew_cell]; exact ⟨e0, e1⟩
  unfold ansW at HKs
  obtain ⟨sm, hsm⟩ : ∃ sm, k' + m' = sm := ⟨_, rfl⟩
  have zs : (k' : Int) + (m' : Int) = (sm : Int) := by omega
  have hws : IntKind.i64.wrap (sm : Int) = (sm : Int) := by simp [IntKind.wrap, IntKind.bits, IntKind.signed]; omega
  rw [hsm] at HF
  clear hsu hOV hCV hbX hRX hresX HRW HPb HRes HSp hX hV HK0 c1 c2 d0 d1 d2 df hsm hgg
  go_upto_region 6 with fail
  go_region_held3 (fun w' => w'.cell? ⟨sb, 0, none⟩ = some (.int .i64 (k' : Int)) ∧ w'.cell? ⟨sb, 1, none⟩ = some (.int .i64 (m' : Int)))
    (first | with_reducible exact HKW.out | with_reducible exact HKs.out _ _ _ _ _)
    (first | fail)
  go_wp2
  exact retM rfl rfl HRX.out HF.out
theorem stepM0 {B : Nat} {w : World} {bb sb cb mb k m k2 m2 : Nat} {v1 v2 : Value} {ss ts : List Sd} {pm : Nat} {o : KOp} (h : InM B w bb sb cb mb k m k2 m2 v1 ss v2 ts pm o) (h0 : o.kind = 0) :
    Calls Tryd.prog 16 #[.pointer (some ⟨sb, 0, none⟩), opV o] w (StepM B w bb sb cb mb k m k2 m2 v1 ss v2 ts pm o) := by
  cases hg : geo o.k o.m with
  | false => exact stepM0_bad h h0 hg
  | true =>
    have hgg : 1 ≤ o.k ∧ 1 ≤ o.m ∧ o.k + o.m ≤ 16 := of_decide_eq_true hg
    exact stepM0_ok h h0 hg o.k.toNat o.m.toNat (by omega) (by omega) (by omega)
end Go.Proofs.Qxb6500697aDoor
