/-
  clones (THE MODEL's) AND copies (THE BENCH's), AS TRAYS.
-/
import Derived.Test.Qxb6500697aDoorMTray
namespace Go.Proofs.Qxb6500697aDoor
open Go.RowKit

theorem SdOk.rng {w : World} {x : Sd} (h : SdOk w x) : RngS x := ⟨h.hg, h.hix, h.hol, h.pay.1⟩
theorem RngS.with {x : Sd} (h : RngS x) (pa : Option Addr) (pc : Nat) : RngS (x.with pa pc) := ⟨h.hg, h.hix, h.hol, h.byt⟩

/-- What clones answers. -/
def ClPost (w : World) (ss : List Sd) (r : Ending) (w' : World) : Prop := ∃ v ts, r = .returned v ∧ Tray w.heap.size w' v ts ∧ SL ss ts ∧ Below w.heap.size w w'

theorem SL.take_succ {ss ts : List Sd} {j : Nat} {y : Sd} (h : SL (ss.take j) ts) (hj : j < ss.length) (hy : (ss[j]).same y) : SL (ss.take (j + 1)) (ts ++ [y]) := by
  rw [List.take_succ_eq_append_getElem hj]
  exact h.push hy

set_option maxRecDepth 100000 in
set_option maxHeartbeats 2000000 in
theorem clones_any (w : World) (ao : Option Addr) (cap : Nat) (ss : List Sd) (hS : SdRow w ao ss) (hl : ss.length ≤ 4096) (hp : ∀ s ∈ ss, s.pl ≤ 140737488355328) :
    Calls Tryd.prog 44 #[.slice ao ss.length cap] w (ClPost w ss) := by
  have HS : Hid (SdRow w ao ss) := hS
  have HP : Hid (∀ s ∈ ss, s.pl ≤ 140737488355328) := hp
  obtain ⟨L, hL⟩ : ∃ L, ss.length = L := ⟨_, rfl⟩
  have HL : Hid (ss.length = L) := hL
  rw [hL] at hl ⊢
  clear hS hp hL
  go_enter Tryd.func44, Tryd.ntmps44
  go_wp2
  go_loopw [3, 8] (fun uv i wr => ∃ (j : Nat) (v : Value) (ts : List Sd), j ≤ L ∧ i = .int .i64 j ∧ uv = v ∧ Tray w.heap.size wr v ts ∧ SL (ss.take j) ts ∧ Below w.heap.size w wr) (fun _ i _ => L - (intOf i).toNat)
  case atStart => exact ⟨0, _, [], Nat.zero_le _, rfl, rfl, Tray.nil _ _, SL.nil, Below.refl _ _⟩
  case round =>
    obtain ⟨j, v5, ts, hj, rfl, hv5, hO, hsl, hb⟩ := hrel
    have hv5 := hv5.symm
    subst hv5
    have HO : Hid (Tray w.heap.size wr v5 ts) := hO
    have HSl : Hid (SL (ss.take j) ts) := hsl
    have HB : Hid (Below w.heap.size w wr) := hb
    by_cases hlt : j < L
    · have hlt' : (j : Int) < (L : Int) := by omega
      have hjs : j < ss.length := by rw [HL.out]; exact hlt
      obtain ⟨b, rfl, c0, c1, c2, c3⟩ := (HS.out.keeps (Below.keeps hb)).at_ hjs
      have hxo := (HS.out.keeps (Below.keeps hb)).ok ss[j] (List.getElem_mem hjs)
      have hxp := HP.out ss[j] (List.getElem_mem hjs)
      obtain ⟨x, hx⟩ : ∃ x, ss[j] = x := ⟨_, rfl⟩
      rw [hx] at c0 c1 c2 c3 hxo hxp
      obtain ⟨W, hW⟩ : ∃ W, wr.alloc (.cells #[.int .u8 x.g, .int .i64 x.ix, .int .i64 x.ol, .slice x.pa x.pl x.pc] 60) = W := ⟨_, rfl⟩
      have hbW : Below wr.heap.size wr W := by rw [← hW]; exact (Below.refl _ _).alloc (Nat.le_refl _) _
      have d0 : W.cell? ⟨wr.heap.size, 0, none⟩ = some (.int .u8 x.g) := by rw [← hW]; simp
      have d1 : W.cell? ⟨wr.heap.size, 1, none⟩ = some (.int .i64 x.ix) := by rw [← hW]; simp
      have d2 : W.cell? ⟨wr.heap.size, 2, none⟩ = some (.int .i64 x.ol) := by rw [← hW]; simp
      have d3 : W.cell? ⟨wr.heap.size, 3, none⟩ = some (.slice x.pa x.pl x.pc) := by rw [← hW]; simp
      have HCl : Hid _ := sclone_own x W (hxo.keeps (Below.keeps hbW)) hxp
      have hlk : ts.length ≤ 65536 := by
        have h1 := hsl.len
        rw [List.length_take] at h1
        omega
      have HFin : Hid (∀ w3 pa pc v' w', Below W.heap.size W w3 → OwnP W.heap.size w3 (x.with pa pc) → (∀ o, World.ownsRow w' w.heap.size 60 4 v' (ts.length + 1) (ts.flatMap Sd.cells ++ (x.with pa pc).cells) → (w3.alloc o).grownBy w' v5.ownBlock → (v'.ownBlock = v5.ownBlock ∨ v'.ownBlock = some (w3.alloc o).heap.size) → Tray w.heap.size w' v' (ts ++ [x.with pa pc]) ∧ Below w.heap.size w w')) := by
        intro w3 pa pc v' w' hb3 hown o h1 h2 h3
        have hb03 : Below wr.heap.size wr w3 := hbW.trans (hb3.mono hbW.size)
        have hba : Below w3.heap.size w3 (w3.alloc o) := (Below.refl _ _).alloc (Nat.le_refl _) _
        have hT := (hO.below hb03).below hba
        have hb0a : Below w.heap.size w (w3.alloc o) := (hb.trans (hb03.mono hb.size)).trans (hba.mono (Nat.le_trans hb.size hb03.size))
        refine ⟨hT.push (own_block hown (fun b hbb => hba.block b (hown.lt b hbb).2)) (hxo.rng.with pa pc) (Nat.le_trans hb.size hbW.size) (fun b hbk => Nat.lt_of_lt_of_le (hO.lt hbk).2 hbW.size) h1 h2 h3, hb0a.grown h2 hb0a.size (fun k hk => (hO.hdr.lt k hk).1)⟩
      have HSo : Hid (∀ w3 o, Below W.heap.size W w3 → SOut w.heap.size (w3.alloc o) v5 ts ∧ w.heap.size ≤ (w3.alloc o).heap.size) := by
        intro w3 o hb3
        have hb03 : Below wr.heap.size wr w3 := hbW.trans (hb3.mono hbW.size)
        have hba : Below w3.heap.size w3 (w3.alloc o) := (Below.refl _ _).alloc (Nat.le_refl _) _
        exact ⟨((hO.below hb03).below hba).sout, Nat.le_trans hb.size (Nat.le_trans hb03.size hba.size)⟩
      have HSame : Hid (∀ pa pc, SL (ss.take (j + 1)) (ts ++ [x.with pa pc])) := fun pa pc => hsl.take_succ hjs (by rw [hx]; exact ⟨rfl, rfl, rfl, rfl, fun _ _ => rfl⟩)
      clear hO hsl hb hxo hxp hx hbW
      go_wp2_with fail
      refine Calls.mono HCl.out ?_
      rintro r w3 ⟨hb3, pa, pc, rfl, hown⟩
      have HB3 : Hid (Below W.heap.size W w3) := hb3
      have HOw : Hid (OwnP W.heap.size w3 (x.with pa pc)) := hown
      have HNews : Hid (∀ o, o = .cells #[.int .u8 x.g, .int .i64 x.ix, .int .i64 x.ol, .slice pa x.pl pc] 60 → (w3.alloc o).heap[w3.heap.size]? = some (.cells #[.int .u8 (x.with pa pc).g, .int .i64 (x.with pa pc).ix, .int .i64 (x.with pa pc).ol, .slice (x.with pa pc).pa (x.with pa pc).pl (x.with pa pc).pc] 60 (0, 0))) := fun o ho => by rw [ho]; exact heap_alloc_new w3 _
      clear hb3 hown HCl hW d0 d1 d2 d3 c0 c1 c2 c3
      obtain ⟨i0, hi, hzz⟩ := Option.map_eq_some_iff.1 Tryd.info60
      simp only [Prod.mk.injEq] at hzz
      obtain ⟨hz0, hz1, hz2⟩ := hzz
      go_wp2_with (at_builtin; refine wpList_append_own_at _ (by rfl) _ _ 36 (by rfl) w.heap.size 60 i0 _ 4 48 Tryd.underlying36 hi hz0 hz1 hz2 rfl (by decide) v5 ts.length _ (by rfl) (HSo.out w3 _ HB3.out).1.own ⟨w3.heap.size, 0, none⟩ 1 1 (x.with pa pc).cells (by rfl) (by rfl) (by intro q y' hq; have e : (⟨w3.heap.size, 0, none⟩ : Addr).add q = ⟨w3.heap.size, 0 + q, none⟩ := (by unfold Addr.add; split <;> simp_all); rw [e]; have hB := HNews.out _ rfl; simp only [World.cell?, hB, Nat.zero_add]; simpa [Sd.cells] using hq) (by intro u hu; simp [Sd.cells] at hu; rcases hu with rfl | rfl | rfl | rfl <;> rfl) (by unfold maxLen; omega) (by omega) (HSo.out w3 _ HB3.out).2 ?_; intro v' w' h1 h2 _ h3; have HF : Hid (Tray w.heap.size w' v' (ts ++ [x.with pa pc]) ∧ Below w.heap.size w w') := HFin.out w3 pa pc v' w' HB3.out HOw.out _ h1 h2 h3; clear h1 h2 h3)
      go_roundw
      case rel => exact ⟨j + 1, _, ts ++ [x.with pa pc], by omega, by go_num, rfl, HF.out.1, HSame.out pa pc, HF.out.2⟩
      case measure => simp [intOf]; omega
    · have hlt' : ¬ (j : Int) < (L : Int) := by omega
      have HF : Hid (SL ss ts) := by
        have h := HSl.out
        rw [List.take_of_length_le (by have := HL.out; omega)] at h
        exact h
      clear hO hb hsl
      go_wp2
      go_ret
      exact ⟨_, ts, rfl, HO.out, HF.out, HB.out⟩

/-- The copies so far, each payload in memory of its own. -/
structure CpT (w wr : World) (ss : List Sd) (f : Nat → Sd) (j : Nat) : Prop where
  row : wr.rowIs w.heap.size 60 (4 * ss.length) (fun p => if p < 4 * j then sdc f p else shz p)
  eq : ∀ i, i < j → ∃ pa pc, f i = (ss.getD i Sd.zero).with pa pc
  own : ∀ i, i < j → OwnP (w.heap.size + 1) wr (f i) ∧ RngS (f i)
  apart : ∀ i i', i < j → i' < j → i ≠ i' → ∀ b, (f i).pv.ownBlock = some b → (f i').pv.ownBlock ≠ some b
  bel : Below w.heap.size w wr
theorem CpT.step {w wr wq : World} {ss : List Sd} {f : Nat → Sd} {j : Nat} {x : Sd} {pa : Option Addr} {pc : Nat} (h : CpT w wr ss f j) (hx : ss.getD j Sd.zero = x) (hr : RngS x) (hb : Below wr.heap.size wr wq) (hf : OwnP wr.heap.size wq (x.with pa pc)) :
    CpT w (sdPut wq w.heap.size j (x.with pa pc)) ss (fun i => if i = j then x.with pa pc else f i) (j + 1) := by
  have hwr : w.heap.size < wr.heap.size := h.row.lt
  have hO := sdPut_only wq w.heap.size j (x.with pa pc)
  have hrow : wq.rowIs w.heap.size 60 (4 * ss.length) (fun p => if p < 4 * j then sdc (fun i => if i = j then x.with pa pc else f i) p else shz p) := by
    refine (h.row.of_block (hb.block _ hwr)).congr (fun p _ => ?_)
    by_cases e : p < 4 * j
    · have hpj : p / 4 ≠ j := by omega
      rw [if_pos e, if_pos e]
      unfold sdc
      simp only [if_neg hpj]
    · rw [if_neg e, if_neg e]
  have hr2 := sd_row hrow
  rw [if_pos rfl] at hr2
  have key : ∀ i, i < j → ∀ b, (f i).pv.ownBlock = some b → (x.with pa pc).pv.ownBlock ≠ some b := fun i hi b hb1 hb2 => by
    have h1 := ((h.own i hi).1.lt b hb1).2
    have h2 := (hf.lt b hb2).1
    omega
  refine ⟨hr2, fun i hi => ?_, fun i hi => ?_, fun i i' hi hi' hne b hbi => ?_, (h.bel.trans (hb.mono h.bel.size)).trans (hO.below (Nat.le_refl _))⟩
  · by_cases e : i = j
    · simp only [if_pos e]; rw [e, hx]; exact ⟨pa, pc, rfl⟩
    · simp only [if_neg e]; exact h.eq i (by omega)
  · by_cases e : i = j
    · simp only [if_pos e]
      have h1 : OwnP (w.heap.size + 1) wq (x.with pa pc) := hf.base hwr
      exact ⟨own_block h1 (fun b hb' => hO.block b (by have := (h1.lt b hb').1; omega)), hr.with pa pc⟩
    · simp only [if_neg e]
      have h1 := (h.own i (by omega)).1
      exact ⟨own_block (own_block h1 (fun b hb' => hb.block b (h1.lt b hb').2)) (fun b hb' => hO.block b (by have := (h1.lt b hb').1; omega)), (h.own i (by omega)).2⟩
  · by_cases e : i = j
    · have e' : i' ≠ j := fun h => hne (by rw [e, h])
      simp only [if_pos e, if_neg e'] at hbi ⊢
      exact fun hh => key i' (by omega) b hh hbi
    · by_cases e' : i' = j
      · simp only [if_neg e, if_pos e'] at hbi ⊢
        exact key i (by omega) b hbi
      · simp only [if_neg e, if_neg e'] at hbi ⊢
        exact h.apart i i' (by omega) (by omega) hne b hbi

set_option maxRecDepth 100000 in
set_option maxHeartbeats 2000000 in
theorem copies_tr (w : World) (ao : Option Addr) (cap : Nat) (ss : List Sd) (hS : SdRow w ao ss) (hl : ss.length ≤ 4096) (hp : ∀ s ∈ ss, s.pl ≤ 140737488355328) :
    Calls Tryd.prog 21 #[.slice ao ss.length cap] w fun e w' => e = .returned (.slice (some ⟨w.heap.size, 0, none⟩) ss.length ss.length) ∧ ∃ f, CpT w w' ss f ss.length := by
  have HS : Hid (SdRow w ao ss) := hS
  have HP : Hid (∀ s ∈ ss, s.pl ≤ 140737488355328) := hp
  obtain ⟨L, hL⟩ : ∃ L, ss.length = L := ⟨_, rfl⟩
  have HL : Hid (ss.length = L) := hL
  have hmk := make_shards L (by omega)
  have HM0 : Hid (CpT w (w.alloc (.cells (madeCells #[.int .u8 0, .int .i64 0, .int .i64 0, .slice none 0 0] (L * 4)) 60)) ss (fun _ => Sd.zero) 0) :=
    ⟨by rw [hL]; exact (made_shz w L).congr (fun p _ => by simp), fun i hi => by omega, fun i hi => by omega, fun i i' hi => by omega, (Below.refl _ _).alloc (Nat.le_refl _) _⟩
  rw [hL] at hl ⊢
  clear hS hp hL
  go_enter Tryd.func21, Tryd.ntmps21
  go_wp2
  clear hmk
  go_loopw [11] (fun i wr => ∃ (j : Nat) (f : Nat → Sd), j ≤ L ∧ i = .int .i64 j ∧ CpT w wr ss f j) (fun i _ => L - (intOf i).toNat)
  case atStart => exact ⟨0, _, Nat.zero_le _, rfl, HM0.out⟩
  case round =>
    obtain ⟨j, f, hj, rfl, hR⟩ := hrel
    clear HM0
    by_cases hlt : j < L
    · have hlt' : (j : Int) < (L : Int) := by omega
      have hjs : j < ss.length := by rw [HL.out]; exact hlt
      obtain ⟨sb, rfl, hr⟩ := HS.out.row (by omega)
      obtain ⟨r0, r1, r2, r3⟩ := hr j hjs
      have hxo := HS.out.ok ss[j] (List.getElem_mem hjs)
      have hxp := HP.out ss[j] (List.getElem_mem hjs)
      have hxd : ss.getD j Sd.zero = ss[j] := getD_lt hjs
      obtain ⟨x, hx⟩ : ∃ x, ss[j] = x := ⟨_, rfl⟩
      rw [hx] at r0 r1 r2 r3 hxo hxp hxd
      have kp := Below.keeps hR.bel
      have c0 := kp _ _ _ r0
      have c1 := kp _ _ _ r1
      have c2 := kp _ _ _ r2
      have c3 := kp _ _ _ r3
      obtain ⟨W, hW⟩ : ∃ W, wr.alloc (.cells #[.int .u8 x.g, .int .i64 x.ix, .int .i64 x.ol, .slice x.pa x.pl x.pc] 60) = W := ⟨_, rfl⟩
      have hbW : Below wr.heap.size wr W := by rw [← hW]; exact (Below.refl _ _).alloc (Nat.le_refl _) _
      have HCl : Hid _ := sclone_own x W ((hxo.keeps kp).keeps (Below.keeps hbW)) hxp
      have HStep : Hid (∀ w3 pa pc, Below W.heap.size W w3 → OwnP W.heap.size w3 (x.with pa pc) → CpT w (sdPut w3 w.heap.size j (x.with pa pc)) ss (fun i => if i = j then x.with pa pc else f i) (j + 1)) := fun w3 pa pc h1 h2 => hR.step hxd hxo.rng (hbW.trans (h1.mono hbW.size)) (h2.base hbW.size)
      have HRow : Hid (∀ w3, Below W.heap.size W w3 → w3.rowIs w.heap.size 60 (4 * L) (fun p => if p < 4 * j then sdc f p else shz p)) := by
        intro w3 h1
        rw [← HL.out]
        exact (hR.row.of_block (hbW.block _ hR.row.lt)).of_block (h1.block _ (Nat.lt_of_lt_of_le hR.row.lt hbW.size))
      have d0 : W.cell? ⟨wr.heap.size, 0, none⟩ = some (.int .u8 x.g) := by rw [← hW]; simp
      have d1 : W.cell? ⟨wr.heap.size, 1, none⟩ = some (.int .i64 x.ix) := by rw [← hW]; simp
      have d2 : W.cell? ⟨wr.heap.size, 2, none⟩ = some (.int .i64 x.ol) := by rw [← hW]; simp
      have d3 : W.cell? ⟨wr.heap.size, 3, none⟩ = some (.slice x.pa x.pl x.pc) := by rw [← hW]; simp
      clear r0 r1 r2 r3 hr hxo hxp hxd hx kp hbW hR
      go_wp2_with fail
      refine Calls.mono HCl.out ?_
      rintro r w3 ⟨hb3, pa, pc, rfl, hfr⟩
      have hrow := HRow.out w3 hb3
      have HF : Hid (CpT w (sdPut w3 w.heap.size j (x.with pa pc)) ss (fun i => if i = j then x.with pa pc else f i) (j + 1)) := HStep.out w3 pa pc hb3 hfr
      have o0 := hrow.cell (i := j * 4) (by omega)
      have o1 := hrow.cell (i := j * 4 + 1) (by omega)
      have o2 := hrow.cell (i := j * 4 + 2) (by omega)
      have o3 := hrow.cell (i := j * 4 + 3) (by omega)
      have f0 := hrow.frozen (j * 4)
      have f1 := hrow.frozen (j * 4 + 1)
      have f2 := hrow.frozen (j * 4 + 2)
      have f3 := hrow.frozen (j * 4 + 3)
      rw [if_neg (by omega)] at o0 o1 o2 o3
      unfold shz at o0 o1 o2 o3
      rw [if_pos (by omega)] at o0
      rw [if_neg (by omega), if_pos (by omega)] at o1
      rw [if_neg (by omega), if_neg (by omega), if_pos (by omega)] at o2
      rw [if_neg (by omega), if_neg (by omega), if_neg (by omega)] at o3
      clear hrow hb3 hfr HCl HStep HRow c0 c1 c2 c3 d0 d1 d2 d3 hW
      unfold sdPut Sd.with at HF
      go_wp2
      go_roundw
      case rel => exact ⟨j + 1, _, by omega, by go_num, HF.out⟩
      case measure => simp [intOf]; omega
    · have hlt' : ¬ (j : Int) < (L : Int) := by omega
      have hjL : j = L := by omega
      rw [hjL] at hR
      have HF : Hid (CpT w wr ss f L) := hR
      clear hR
      go_wp2
      go_ret
      exact ⟨rfl, f, HF.out⟩


theorem cps_get {f : Nat → Sd} {L i : Nat} (h : i < L) : (cps f L).getD i Sd.zero = f i := by
  rw [getD_lt (by simp [cps]; exact h)]; simp [cps]
theorem CpT.tray {w wr : World} {ss : List Sd} {f : Nat → Sd} (h : CpT w wr ss f ss.length) (hl : ss.length ≤ 65536) : Tray w.heap.size wr (.slice (some ⟨w.heap.size, 0, none⟩) ss.length ss.length) (cps f ss.length) ∧ SL ss (cps f ss.length) := by
  have e : (cps f ss.length).length = ss.length := by simp [cps]
  have hown : ∀ s ∈ cps f ss.length, OwnP (w.heap.size + 1) wr s ∧ RngS s := fun s hs => by
    obtain ⟨i, hi, rfl⟩ := List.mem_map.1 hs
    exact h.own i (List.mem_range.1 hi)
  have h0 := SOut.of_rowIs (B := w.heap.size) (H := w.heap.size) (ss := cps f ss.length) (f := f) (w := wr) (by rw [e]; exact h.row.congr (fun p hp => by rw [if_pos hp])) (Nat.le_refl _) (by rw [e]; exact hl) (fun j hj => by simp [cps]) (fun s hs => ⟨(hown s hs).1.ok (hown s hs).2, fun _ b o he hb => by
    have := ((hown s hs).1.lt b (pv_block he)).1
    omega⟩)
  refine ⟨⟨by have h1 := h0.own; rw [e] at h1 ⊢; exact h1, fun s hs => ⟨(hown s hs).1.base (by omega), (hown s hs).2⟩, fun s hs b hb hv => ?_, fun i j hi hj hij b hb => ?_⟩, ⟨e.symm, fun j hj => ?_⟩⟩
  · have h1 := ((hown s hs).1.lt b hb).1
    have h2 : w.heap.size = b := by simpa [Value.ownBlock] using hv
    omega
  · rw [e] at hi hj
    rw [cps_get hi] at hb
    rw [cps_get hj]
    exact h.apart i j hi hj hij b hb
  · rw [cps_get hj]
    obtain ⟨pa, pc, h1⟩ := h.eq j hj
    rw [h1]
    exact ⟨rfl, rfl, rfl, rfl, fun _ _ => rfl⟩

/-- What copies answers, as a tray. -/
theorem copies_tray (w : World) (ao : Option Addr) (cap : Nat) (ss : List Sd) (hS : SdRow w ao ss) (hl : ss.length ≤ 4096) (hp : ∀ s ∈ ss, s.pl ≤ 140737488355328) :
    Calls Tryd.prog 21 #[.slice ao ss.length cap] w (ClPost w ss) := by
  refine (copies_tr w ao cap ss hS hl hp).mono ?_
  rintro r w' ⟨hr, f, hC⟩
  obtain ⟨h1, h2⟩ := hC.tray (by omega)
  exact ⟨_, _, hr, h1, h2, hC.bel⟩
end Go.Proofs.Qxb6500697aDoor
