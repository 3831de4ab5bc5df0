/-
  THE WALKS OF Shard.Clone AND copies.
-/
import Derived.Test.Qxb6500697aDoorKChoose
import Derived.Test.Qxb6500697aDoorKReb2
namespace Go.Proofs.Qxb6500697aDoor
open Go.RowKit

/-- A copy of a shard: the same but for the memory of the payload. -/
def Sd.with (s : Sd) (pa : Option Addr) (pc : Nat) : Sd := { s with pa := pa, pc := pc }

def CnPost (w : World) (x : Sd) (r : Ending) (w' : World) : Prop := Below w.heap.size w w' ∧ ∃ pa pc, r = .returned (.agg #[.int .u8 x.g, .int .i64 x.ix, .int .i64 x.ol, .slice pa x.pl pc]) ∧ x.pl ≤ pc ∧ pc ≤ 9223372036854775807 ∧ Fresh w w' pa x.pl x.P

/-- A shard of any numbers stored into a box. -/
def boxV (w : World) (B : Nat) (x : Sd) (v : Value) : World := (((w.setCell ⟨B, 0, none⟩ (.int .u8 x.g)).setCell ⟨B, 1, none⟩ (.int .i64 x.ix)).setCell ⟨B, 2, none⟩ (.int .i64 x.ol)).setCell ⟨B, 3, none⟩ v

set_option maxRecDepth 100000 in
set_option maxHeartbeats 2000000 in
theorem sclone_any (x : Sd) (w : World) (hx : SdOk w x) (hn : x.pl ≤ 140737488355328) :
    Calls Tryd.prog 52 #[.agg #[.int .u8 x.g, .int .i64 x.ix, .int .i64 x.ol, .slice x.pa x.pl x.pc]] w (CnPost w x) := by
  obtain ⟨W, hW⟩ : ∃ W, (w.alloc (.cells #[.int .u8 x.g, .int .i64 x.ix, .int .i64 x.ol, .slice x.pa x.pl x.pc] 60)).alloc (.cells #[.int .u8 0, .int .i64 0, .int .i64 0, .slice none 0 0] 60) = W := ⟨_, rfl⟩
  have hB : Below w.heap.size w W := by rw [← hW]; exact ((Below.refl _ _).alloc (Nat.le_refl _) _).alloc (by simp) _
  have hWs : W.heap.size = w.heap.size + 2 := by rw [← hW]; simp
  have HR : Hid (BRow W x.pa ((List.range x.pl).map x.P)) := (hx.pay.below hB).brow'
  have hlt := hx.pay.1
  have hx0 : W.heap[w.heap.size]? = some (.cells #[.int .u8 x.g, .int .i64 x.ix, .int .i64 x.ol, .slice x.pa x.pl x.pc] 60 (0, 0)) := by
    rw [← hW, Below.heap_alloc _ _ _ (by simp)]; exact heap_alloc_new w _
  have hx1 : W.heap[w.heap.size + 1]? = some (.cells #[.int .u8 0, .int .i64 0, .int .i64 0, .slice none 0 0] 60 (0, 0)) := by
    have h := heap_alloc_new (w.alloc (.cells #[.int .u8 x.g, .int .i64 x.ix, .int .i64 x.ol, .slice x.pa x.pl x.pc] 60)) (.cells #[.int .u8 0, .int .i64 0, .int .i64 0, .slice none 0 0] 60)
    rw [hW] at h
    simpa using h
  have p3 : W.cell? ⟨w.heap.size, 3, none⟩ = some (.slice x.pa x.pl x.pc) := by simp [World.cell?, hx0]
  have HO : Hid (W.ownsRow (w.heap.size + 2) 5 1 (.slice none 0 0) ([] : List Nat).length (([] : List Nat).map fun y => Value.int .u8 ((y : Nat) : Int))) := by
    have h := World.ownsRow_nil W (w.heap.size + 2) 5 1
    exact h
  have hll : ((List.range x.pl).map x.P).length = x.pl := by simp
  have hlb : ([] : List Nat).length + ((List.range x.pl).map x.P).length ≤ 140737488355328 := by rw [hll]; simpa using hn
  have HFin : Hid (∀ v' w', w'.ownsRow (w.heap.size + 2) 5 1 v' ([] ++ (List.range x.pl).map x.P).length (([] ++ (List.range x.pl).map x.P).map fun y => Value.int .u8 ((y : Nat) : Int)) → W.grownBy w' none → ∃ pa pc, v' = .slice pa x.pl pc ∧ x.pl ≤ pc ∧ pc ≤ 9223372036854775807 ∧ Fresh W w' pa x.pl x.P ∧ Below w.heap.size w w' ∧ w'.heap[w.heap.size]? = some (.cells #[.int .u8 x.g, .int .i64 x.ix, .int .i64 x.ol, .slice x.pa x.pl x.pc] 60 (0, 0)) ∧ w'.heap[w.heap.size + 1]? = some (.cells #[.int .u8 0, .int .i64 0, .int .i64 0, .slice none 0 0] 60 (0, 0))) := by
    intro v' w' h1 h2
    rw [List.nil_append] at h1
    obtain ⟨ao', c', q1, q2, q3, q4⟩ := fresh_of_owns (w := W) h1 hlt (by omega)
    exact ⟨ao', c', q1, q2, q3, q4, hB.grown h2 hB.size (fun k hk => by cases hk), (h2.block _ (by omega) (by simp)).trans hx0, (h2.block _ (by omega) (by simp)).trans hx1⟩
  have hbase : w.heap.size + 2 ≤ W.heap.size := by omega
  clear hx hB hx0 hx1
  go_enter Tryd.func52, Tryd.ntmps52
  go_wp2_with (at_builtin; refine wpList_append_bytes W (by rfl) _ _ (by rfl) (w.heap.size + 2) (.slice none 0 0) [] ((List.range x.pl).map x.P) (by rfl) HO.out x.pa x.pc (by rw [hll]; rfl) HR.out hlb hbase ?_; intro v' w' h1 h2 h3; obtain ⟨pa, pc, hv, hq⟩ := HFin.out v' w' h1 h2; subst hv; have HQ : Hid _ := hq; have y0 := hq.2.2.2.2.1; have y1 := hq.2.2.2.2.2; have a0 : w'.cell? ⟨w.heap.size, 0, none⟩ = some (.int .u8 x.g) := (by simp [World.cell?, y0]); have a1 : w'.cell? ⟨w.heap.size, 1, none⟩ = some (.int .i64 x.ix) := (by simp [World.cell?, y0]); have a2 : w'.cell? ⟨w.heap.size, 2, none⟩ = some (.int .i64 x.ol) := (by simp [World.cell?, y0]); have a3 : w'.cell? ⟨w.heap.size, 3, none⟩ = some (.slice x.pa x.pl x.pc) := (by simp [World.cell?, y0]); have af : ∀ i, w'.frozen? ⟨w.heap.size, i, none⟩ = false := (fun i => by simp [World.frozen?, y0]); have b0 : w'.cell? ⟨w.heap.size + 1, 0, none⟩ = some (.int .u8 0) := (by simp [World.cell?, y1]); have b1 : w'.cell? ⟨w.heap.size + 1, 1, none⟩ = some (.int .i64 0) := (by simp [World.cell?, y1]); have b2 : w'.cell? ⟨w.heap.size + 1, 2, none⟩ = some (.int .i64 0) := (by simp [World.cell?, y1]); have b3 : w'.cell? ⟨w.heap.size + 1, 3, none⟩ = some (.slice none 0 0) := (by simp [World.cell?, y1]); have bf : ∀ i, w'.frozen? ⟨w.heap.size + 1, i, none⟩ = false := (fun i => by simp [World.frozen?, y1]); clear h1 h2 h3 hq y0 y1)
  obtain ⟨Wf, hWf⟩ : ∃ Wf, ((((w'.setCell ⟨w.heap.size, 3, none⟩ (.slice pa x.pl pc)).setCell ⟨w.heap.size + 1, 0, none⟩ (.int .u8 (x.g : Int))).setCell ⟨w.heap.size + 1, 1, none⟩ (.int .i64 x.ix)).setCell ⟨w.heap.size + 1, 2, none⟩ (.int .i64 x.ol)).setCell ⟨w.heap.size + 1, 3, none⟩ (.slice pa x.pl pc) = Wf := ⟨_, rfl⟩
  rw [hWf]
  obtain ⟨q1, q2, q3, q4, q5, q6⟩ := HQ.out
  have hfin : Wf.heap[w.heap.size + 1]? = some (.cells #[.int .u8 (x.g : Int), .int .i64 x.ix, .int .i64 x.ol, .slice pa x.pl pc] 60 (0, 0)) := by
    rw [← hWf]; simp [World.setCell, Array.getElem?_modify, q6]
  have hoth : ∀ b, w.heap.size + 2 ≤ b → Wf.heap[b]? = w'.heap[b]? := by
    intro b hb
    rw [← hWf]
    have e0 : w.heap.size ≠ b := by omega
    have e1 : w.heap.size + 1 ≠ b := by omega
    simp [World.setCell, Array.getElem?_modify, e0, e1]
  have hbel : Below w.heap.size w Wf := by
    rw [← hWf]
    exact ((((q4.setCell (p := ⟨w.heap.size, 3, none⟩) (Nat.le_refl _) _).setCell (p := ⟨w.heap.size + 1, 0, none⟩) (Nat.le_succ _) _).setCell (p := ⟨w.heap.size + 1, 1, none⟩) (Nat.le_succ _) _).setCell (p := ⟨w.heap.size + 1, 2, none⟩) (Nat.le_succ _) _).setCell (p := ⟨w.heap.size + 1, 3, none⟩) (Nat.le_succ _) _
  have HF : Hid (CnPost w x (.returned (.agg #[.int .u8 (x.g : Int), .int .i64 x.ix, .int .i64 x.ol, .slice pa x.pl pc])) Wf) := ⟨hbel, pa, pc, rfl, q1, q2, (q3.keep (fun b hb => hoth b (by omega))).mono (by omega)⟩
  have z0 : Wf.cell? ⟨w.heap.size + 1, 0, none⟩ = some (.int .u8 (x.g : Int)) := by simp [World.cell?, hfin]
  have z1 : Wf.cell? ⟨w.heap.size + 1, 1, none⟩ = some (.int .i64 x.ix) := by simp [World.cell?, hfin]
  have z2 : Wf.cell? ⟨w.heap.size + 1, 2, none⟩ = some (.int .i64 x.ol) := by simp [World.cell?, hfin]
  have z3 : Wf.cell? ⟨w.heap.size + 1, 3, none⟩ = some (.slice pa x.pl pc) := by simp [World.cell?, hfin]
  refine bodyPost_ret (v := .agg #[.int .u8 (x.g : Int), .int .i64 x.ix, .int .i64 x.ol, .slice pa x.pl pc]) (by simp [results, Tryd.results52, go_sem, z0, z1, z2, z3]) rfl HF.out

/-- The copies so far: shard i's payload lies alone, in a block behind w. -/
structure CpRel (w wr : World) (ss : List Sd) (f : Nat → Sd) (j : Nat) : Prop where
  row : wr.rowIs w.heap.size 60 (4 * ss.length) (fun p => if p < 4 * j then sdc f p else shz p)
  eq : ∀ i, i < j → ∃ pa pc, f i = (ss.getD i Sd.zero).with pa pc ∧ (ss.getD i Sd.zero).pl ≤ pc ∧ pc ≤ 9223372036854775807
  pay : ∀ i, i < j → FRow wr (f i).pa (f i).pl (f i).P
  own : ∀ i, i < j → 0 < (f i).pl → ∃ g, (f i).pa = some ⟨g, 0, none⟩ ∧ w.heap.size < g ∧ WRow wr g (f i).pl (f i).P
  apart : ∀ i i', i < j → i' < j → i ≠ i' → 0 < (f i).pl → 0 < (f i').pl → (f i).pa ≠ (f i').pa
  bel : Below w.heap.size w wr

theorem CpRel.step {w wr wq : World} {ss : List Sd} {f : Nat → Sd} {j : Nat} {x : Sd} {pa : Option Addr} {pc : Nat} (h : CpRel w wr ss f j) (hx : ss.getD j Sd.zero = x) (hb : Below wr.heap.size wr wq) (h1 : x.pl ≤ pc) (h2 : pc ≤ 9223372036854775807) (hf : Fresh wr wq pa x.pl x.P) :
    CpRel w (sdPut wq w.heap.size j (x.with pa pc)) ss (fun i => if i = j then x.with pa pc else f i) (j + 1) := by
  have hwr : w.heap.size < wr.heap.size := h.row.lt
  have hO := sdPut_only wq w.heap.size j (x.with pa pc)
  have hrow : wq.rowIs w.heap.size 60 (4 * ss.length) (fun p => if p < 4 * j then sdc (fun i => if i = j then x.with pa pc else f i) p else shz p) := by
    refine (h.row.of_block (hb.block _ hwr)).congr (fun p _ => ?_)
    by_cases e : p < 4 * j
    · have hpj : p / 4 ≠ j := by omega
      rw [if_pos e, if_pos e]
      unfold sdc
      simp only [if_neg hpj]
    · rw [if_neg e, if_neg e]
  have hr2 := sd_row hrow
  rw [if_pos rfl] at hr2
  have kf : ∀ {ao n s}, Fresh wr wq ao n s → Fresh wr (sdPut wq w.heap.size j (x.with pa pc)) ao n s := fun hh => hh.keep (fun b hb => hO.block b (by omega))
  refine ⟨hr2, fun i hi => ?_, fun i hi => ?_, fun i hi h0 => ?_, fun i i' hi hi' hne h0 h0' => ?_, (h.bel.trans (hb.mono h.bel.size)).trans (hO.below (Nat.le_refl _))⟩
  · by_cases e : i = j
    · simp only [if_pos e]; rw [e, hx]; exact ⟨pa, pc, rfl, h1, h2⟩
    · simp only [if_neg e]; exact h.eq i (by omega)
  · by_cases e : i = j
    · simp only [if_pos e]; exact (kf hf).1
    · simp only [if_neg e]
      refine ((h.pay i (by omega)).below hb).only hO (fun h0 b o he => ?_)
      obtain ⟨g, q1, q2, _⟩ := h.own i (by omega) h0
      rw [q1] at he
      have : g = b := congrArg (fun x : Option Addr => (x.getD ⟨0, 0, none⟩).block) he
      omega
  · by_cases e : i = j
    · simp only [if_pos e] at h0 ⊢
      obtain ⟨g, q1, q2, q3⟩ := (kf hf).2 h0
      exact ⟨g, q1, by omega, q3⟩
    · simp only [if_neg e] at h0 ⊢
      obtain ⟨g, q1, q2, q3⟩ := h.own i (by omega) h0
      exact ⟨g, q1, q2, (q3.below hb).of_block (hO.block g (by omega))⟩
  · have key : ∀ i, i < j → 0 < (f i).pl → 0 < x.pl → (f i).pa ≠ pa := by
      intro i hi p1 p2 e
      obtain ⟨g, q1, _, q3⟩ := h.own i hi p1
      obtain ⟨g', r1, r2, _⟩ := hf.2 p2
      have hlt := q3.lt
      rw [q1, r1] at e
      have : g = g' := congrArg (fun x : Option Addr => (x.getD ⟨0, 0, none⟩).block) e
      omega
    by_cases e : i = j
    · have e' : i' ≠ j := fun h => hne (by rw [e, h])
      simp only [if_pos e, if_neg e'] at h0 h0' ⊢
      exact fun hh => key i' (by omega) h0' h0 hh.symm
    · by_cases e' : i' = j
      · simp only [if_neg e, if_pos e'] at h0 h0' ⊢
        exact key i (by omega) h0 h0'
      · simp only [if_neg e, if_neg e'] at h0 h0' ⊢
        exact h.apart i i' (by omega) (by omega) hne h0 h0'

set_option maxRecDepth 100000 in
set_option maxHeartbeats 2000000 in
theorem copies_any (w : World) (ao : Option Addr) (cap : Nat) (ss : List Sd) (hS : SdRow w ao ss) (hl : ss.length ≤ 4096) (hp : ∀ s ∈ ss, s.pl ≤ 140737488355328) :
    Calls Tryd.prog 21 #[.slice ao ss.length cap] w fun e w' => e = .returned (.slice (some ⟨w.heap.size, 0, none⟩) ss.length ss.length) ∧ ∃ f, CpRel w w' ss f ss.length := by
  have HS : Hid (SdRow w ao ss) := hS
  have HP : Hid (∀ s ∈ ss, s.pl ≤ 140737488355328) := hp
  obtain ⟨L, hL⟩ : ∃ L, ss.length = L := ⟨_, rfl⟩
  have HL : Hid (ss.length = L) := hL
  have hmk := make_shards L (by omega)
  have HM0 : Hid (CpRel w (w.alloc (.cells (madeCells #[.int .u8 0, .int .i64 0, .int .i64 0, .slice none 0 0] (L * 4)) 60)) ss (fun _ => Sd.zero) 0) :=
    ⟨by rw [hL]; exact (made_shz w L).congr (fun p _ => by simp), fun i hi => by omega, fun i hi => by omega, fun i hi => by omega, fun i i' hi => by omega, (Below.refl _ _).alloc (Nat.le_refl _) _⟩
  rw [hL] at hl ⊢
  clear hS hp hL
  go_enter Tryd.func21, Tryd.ntmps21
  go_wp2
  clear hmk
  go_loopw [11] (fun i wr => ∃ (j : Nat) (f : Nat → Sd), j ≤ L ∧ i = .int .i64 j ∧ CpRel w wr ss f j) (fun i _ => L - (intOf i).toNat)
  case atStart => exact ⟨0, _, Nat.zero_le _, rfl, HM0.out⟩
  case round =>
    obtain ⟨j, f, hj, rfl, hR⟩ := hrel
    clear HM0
    by_cases hlt : j < L
    · have hlt' : (j : Int) < (L : Int) := by omega
      have hjs : j < ss.length := by rw [HL.out]; exact hlt
      obtain ⟨sb, rfl, hr⟩ := HS.out.row (by omega)
      obtain ⟨r0, r1, r2, r3⟩ := hr j hjs
      have hxo := HS.out.ok ss[j] (List.getElem_mem hjs)
      have hxp := HP.out ss[j] (List.getElem_mem hjs)
      have hxd : ss.getD j Sd.zero = ss[j] := getD_lt hjs
      obtain ⟨x, hx⟩ : ∃ x, ss[j] = x := ⟨_, rfl⟩
      rw [hx] at r0 r1 r2 r3 hxo hxp hxd
      have kp := Below.keeps hR.bel
      have c0 := kp _ _ _ r0
      have c1 := kp _ _ _ r1
      have c2 := kp _ _ _ r2
      have c3 := kp _ _ _ r3
      obtain ⟨W, hW⟩ : ∃ W, wr.alloc (.cells #[.int .u8 x.g, .int .i64 x.ix, .int .i64 x.ol, .slice x.pa x.pl x.pc] 60) = W := ⟨_, rfl⟩
      have hbW : Below wr.heap.size wr W := by rw [← hW]; exact (Below.refl _ _).alloc (Nat.le_refl _) _
      have HCl : Hid _ := sclone_any x W ((hxo.keeps kp).keeps (Below.keeps hbW)) hxp
      have HStep : Hid (∀ w3 pa pc, Below W.heap.size W w3 → x.pl ≤ pc → pc ≤ 9223372036854775807 → Fresh W w3 pa x.pl x.P → CpRel w (sdPut w3 w.heap.size j (x.with pa pc)) ss (fun i => if i = j then x.with pa pc else f i) (j + 1)) := fun w3 pa pc h1 h2 h3 h4 => hR.step hxd (hbW.trans (h1.mono hbW.size)) h2 h3 (h4.mono hbW.size)
      have HRow : Hid (∀ w3, Below W.heap.size W w3 → w3.rowIs w.heap.size 60 (4 * L) (fun p => if p < 4 * j then sdc f p else shz p)) := by
        intro w3 h1
        rw [← HL.out]
        exact (hR.row.of_block (hbW.block _ hR.row.lt)).of_block (h1.block _ (Nat.lt_of_lt_of_le hR.row.lt hbW.size))
      have d0 : W.cell? ⟨wr.heap.size, 0, none⟩ = some (.int .u8 x.g) := by rw [← hW]; simp
      have d1 : W.cell? ⟨wr.heap.size, 1, none⟩ = some (.int .i64 x.ix) := by rw [← hW]; simp
      have d2 : W.cell? ⟨wr.heap.size, 2, none⟩ = some (.int .i64 x.ol) := by rw [← hW]; simp
      have d3 : W.cell? ⟨wr.heap.size, 3, none⟩ = some (.slice x.pa x.pl x.pc) := by rw [← hW]; simp
      clear r0 r1 r2 r3 hr hxo hxp hxd hx kp hbW hR
      go_wp2_with fail
      refine Calls.mono HCl.out ?_
      rintro r w3 ⟨hb3, pa, pc, rfl, hp1, hp2, hfr⟩
      have hrow := HRow.out w3 hb3
      have HF : Hid (CpRel w (sdPut w3 w.heap.size j (x.with pa pc)) ss (fun i => if i = j then x.with pa pc else f i) (j + 1)) := HStep.out w3 pa pc hb3 hp1 hp2 hfr
      have o0 := hrow.cell (i := j * 4) (by omega)
      have o1 := hrow.cell (i := j * 4 + 1) (by omega)
      have o2 := hrow.cell (i := j * 4 + 2) (by omega)
      have o3 := hrow.cell (i := j * 4 + 3) (by omega)
      have f0 := hrow.frozen (j * 4)
      have f1 := hrow.frozen (j * 4 + 1)
      have f2 := hrow.frozen (j * 4 + 2)
      have f3 := hrow.frozen (j * 4 + 3)
      rw [if_neg (by omega)] at o0 o1 o2 o3
      unfold shz at o0 o1 o2 o3
      rw [if_pos (by omega)] at o0
      rw [if_neg (by omega), if_pos (by omega)] at o1
      rw [if_neg (by omega), if_neg (by omega), if_pos (by omega)] at o2
      rw [if_neg (by omega), if_neg (by omega), if_neg (by omega)] at o3
      clear hrow hb3 hfr HCl HStep HRow c0 c1 c2 c3 d0 d1 d2 d3 hW
      unfold sdPut Sd.with at HF
      go_wp2
      go_roundw
      case rel => exact ⟨j + 1, _, by omega, by go_num, HF.out⟩
      case measure => simp [intOf]; omega
    · have hlt' : ¬ (j : Int) < (L : Int) := by omega
      have hjL : j = L := by omega
      rw [hjL] at hR
      have HF : Hid (CpRel w wr ss f L) := hR
      clear hR
      go_wp2
      go_ret
      exact ⟨rfl, f, HF.out⟩

/-- The copies, as a list. -/
def cps (f : Nat → Sd) (L : Nat) : List Sd := (List.range L).map f
theorem CpRel.sdrow {w wr : World} {ss : List Sd} {f : Nat → Sd} {ao : Option Addr} (h : CpRel w wr ss f ss.length) (hS : SdRow w ao ss) : SdRow wr (some ⟨w.heap.size, 0, none⟩) (cps f ss.length) := by
  refine SdRow.of_rowIs (f := f) ?_ (fun j hj => by simp [cps]) (fun s hs => ?_)
  · have e : (cps f ss.length).length = ss.length := by simp [cps]
    rw [e]
    exact h.row.congr (fun p hp => by rw [if_pos hp])
  · obtain ⟨i, hi, rfl⟩ := List.mem_map.1 hs
    have hi' := List.mem_range.1 hi
    obtain ⟨pa, pc, q1, q2, q3⟩ := h.eq i hi'
    have hok := hS.ok _ (getD_mem (d := Sd.zero) hi')
    have hpay := h.pay i hi'
    rw [q1] at hpay ⊢
    exact ⟨hok.hg, hok.hix, hok.hol, hpay, q2, q3⟩
end Go.Proofs.Qxb6500697aDoor
