/-
  THE WALK OF THE LAW RebuildEqualsOriginal.
-/
import Derived.Test.Qxb6500697aDoorKLoop
namespace Go.Proofs.Qxb6500697aDoor
open Go.RowKit

theorem nodup_len : ∀ {l1 l2 : List Nat}, l1.Nodup → (∀ x ∈ l1, x ∈ l2) → l1.length ≤ l2.length
  | [], _, _, _ => Nat.zero_le _
  | x :: l, l2, hn, hs => by
    rw [List.nodup_cons] at hn
    have hx := hs x List.mem_cons_self
    have h1 := nodup_len (l1 := l) (l2 := l2.erase x) hn.2 (fun y hy => (List.mem_erase_of_ne (fun e => hn.1 (by rw [← e]; exact hy))).2 (hs y (List.mem_cons_of_mem _ hy)))
    rw [List.length_erase_of_mem hx] at h1
    have : 0 < l2.length := List.length_pos_of_mem hx
    rw [List.length_cons]
    omega

/-- The other numbers: those of the subset, then the rest. -/
def oth1 (sub : List Nat) (idx : Nat) : List Nat := sub.filter (fun i => decide (i ≠ idx))
def oth2 (sub : List Nat) (idx N : Nat) : List Nat := (List.range N).filter (fun i => !(decide (i = idx) || decide (i ∈ sub)))
theorem oth_facts (sub : List Nat) (idx N : Nat) (hn : sub.Nodup) (hs : ∀ i ∈ sub, i < N) (hi : idx < N) : (oth1 sub idx ++ oth2 sub idx N).Nodup ∧ (∀ i ∈ oth1 sub idx ++ oth2 sub idx N, i < N ∧ i ≠ idx) ∧ N - 1 ≤ (oth1 sub idx ++ oth2 sub idx N).length := by
  have m1 : ∀ i, i ∈ oth1 sub idx ↔ i ∈ sub ∧ i ≠ idx := fun i => by unfold oth1; rw [List.mem_filter]; simp
  have m2 : ∀ i, i ∈ oth2 sub idx N ↔ i < N ∧ i ≠ idx ∧ i ∉ sub := fun i => by unfold oth2; rw [List.mem_filter, List.mem_range]; simp
  refine ⟨?_, fun i hm => ?_, ?_⟩
  · rw [List.nodup_append]
    refine ⟨List.Pairwise.filter _ hn, List.Pairwise.filter _ List.nodup_range, fun a ha b hb e => ?_⟩
    rw [m1] at ha
    rw [m2] at hb
    exact hb.2.2 (e ▸ ha.1)
  · rcases List.mem_append.1 hm with h | h
    · rw [m1] at h; exact ⟨hs i h.1, h.2⟩
    · rw [m2] at h; exact ⟨h.1, h.2.1⟩
  · have h1 : ((List.range N).erase idx).length = N - 1 := by rw [List.length_erase_of_mem (List.mem_range.2 hi), List.length_range]
    rw [← h1]
    refine nodup_len (List.nodup_range.erase _) (fun x hx => ?_)
    have hx1 := (List.nodup_range.mem_erase_iff.1 hx)
    have hxN := List.mem_range.1 hx1.2
    by_cases h : x ∈ sub
    · exact List.mem_append_left _ ((m1 x).2 ⟨h, hx1.1⟩)
    · exact List.mem_append_right _ ((m2 x).2 ⟨hxN, hx1.1, h⟩)

theorem oth1_take (sub : List Nat) (idx q : Nat) (hq : q < sub.length) : oth1 (sub.take (q + 1)) idx = oth1 (sub.take q) idx ++ (if sub.getD q 0 = idx then [] else [sub.getD q 0]) := by
  unfold oth1
  rw [List.take_succ_eq_append_getElem hq, List.filter_append, getD_lt hq]
  congr 1
  by_cases e : sub[q] = idx
  · simp [e]
  · simp [e]
theorem oth2_succ (sub : List Nat) (idx i : Nat) : oth2 sub idx (i + 1) = oth2 sub idx i ++ (if i = idx ∨ i ∈ sub then [] else [i]) := by
  unfold oth2
  rw [List.range_succ, List.filter_append]
  congr 1
  by_cases e : i = idx ∨ i ∈ sub
  · rw [if_pos e]
    rcases e with e | e <;> simp [e]
  · rw [if_neg e]
    have h1 : i ≠ idx := fun h => e (.inl h)
    have h2 : i ∉ sub := fun h => e (.inr h)
    simp [h1, h2]

/-- The box of a trial. -/
def TrBox (w : World) (B : Nat) (t : Tr) : Prop := w.heap[B]? = some (.cells t.cells.toArray 45 (0, 0))
theorem TrBox.cell {w : World} {B : Nat} {t : Tr} (h : TrBox w B t) (i : Nat) : w.cell? ⟨B, i, none⟩ = t.cells[i]? := by unfold TrBox at h; simp [World.cell?, h]
theorem TrBox.of_block {w w' : World} {B : Nat} {t : Tr} (h : TrBox w B t) (e : w'.heap[B]? = w.heap[B]?) : TrBox w' B t := e.trans h

theorem set4_cell {w : World} {B C o : Nat} {a b c d : Value} (h : B ≠ C) : ((((w.setCell ⟨C, 0, none⟩ a).setCell ⟨C, 1, none⟩ b).setCell ⟨C, 2, none⟩ c).setCell ⟨C, 3, none⟩ d).cell? ⟨B, o, none⟩ = w.cell? ⟨B, o, none⟩ := Only.cell (((((Only.refl C w).setCell _ _).setCell _ _).setCell _ _).setCell _ _) h
theorem lt_alloc (w : World) (o : Obj) : w.heap.size < (w.alloc o).heap.size := by simp
theorem lt_alloc_drew (w : World) (o : Obj) : w.heap.size < (w.alloc o).drew.heap.size := by simp
theorem heap_alloc_drew (w : World) (o : Obj) : (w.alloc o).drew.heap[w.heap.size]? = some o := heap_alloc_new w o

/-- What Rebuild leaves, called in V, all blocks of V behind w6 still free to be written. -/
structure RR (w1 w6 V w' : World) (ts : List Tr) (mb size : Nat) (pa : Option Addr) (pc : Nat) (s : Nat → Nat) : Prop where
  c1 : size ≤ pc
  c2 : pc ≤ 9223372036854775807
  row : FRow w' pa size s
  far : 0 < size → ∀ b o, pa = some ⟨b, o, none⟩ → V.heap.size ≤ b
  kp : Keeps V w'
  tw : TW (fun b => w6.heap.size ≤ b ∧ b < V.heap.size) w1 w' ts
  sz : V.heap.size ≤ w'.heap.size
  blk : ∀ b, b < V.heap.size → b ≠ mb → w'.heap[b]? = V.heap[b]?
  k6 : Keeps w6 w'
  mb6 : mb < w6.heap.size
theorem RR.bc {w1 w6 V w' : World} {ts : List Tr} {mb size : Nat} {pa : Option Addr} {pc : Nat} {s : Nat → Nat} (h : RR w1 w6 V w' ts mb size pa pc s) (Bx : Nat) (h6 : w6.heap.size ≤ Bx) (hz : V.heap[Bx]? = some (.cells #[.int .u8 0, .int .i64 0, .int .i64 0, .slice none 0 0] 60 (0, 0))) :
    w'.cell? ⟨Bx, 0, none⟩ = some (.int .u8 0) ∧ w'.cell? ⟨Bx, 1, none⟩ = some (.int .i64 0) ∧ w'.cell? ⟨Bx, 2, none⟩ = some (.int .i64 0) ∧ w'.cell? ⟨Bx, 3, none⟩ = some (.slice none 0 0) ∧ ∀ i, w'.frozen? ⟨Bx, i, none⟩ = false := by
  have x := (h.blk Bx (heap_lt hz) (by have := h.mb6; omega)).trans hz
  exact ⟨by simp [World.cell?, x], by simp [World.cell?, x], by simp [World.cell?, x], by simp [World.cell?, x], fun i => by simp [World.frozen?, x]⟩
/-- The rebuilt shard in its box. -/
structure RE (w1 w6 wx : World) (ts : List Tr) (size Bx g ix n : Nat) (pa : Option Addr) (pc : Nat) (s : Nat → Nat) : Prop where
  c1 : size ≤ pc
  c2 : pc ≤ 9223372036854775807
  row : FRow wx pa size s
  kp : Keeps w6 wx
  tw : TW NoX w1 wx ts
  sz : w6.heap.size ≤ wx.heap.size
  x0 : wx.cell? ⟨Bx, 0, none⟩ = some (.int .u8 (g : Int))
  x1 : wx.cell? ⟨Bx, 1, none⟩ = some (.int .i64 (ix : Int))
  x2 : wx.cell? ⟨Bx, 2, none⟩ = some (.int .i64 (n : Int))
  x3 : wx.cell? ⟨Bx, 3, none⟩ = some (.slice pa size pc)
theorem RE.drewN {w1 w6 wx : World} {ts : List Tr} {size Bx g ix n : Nat} {pa : Option Addr} {pc : Nat} {s : Nat → Nat} (h : RE w1 w6 wx ts size Bx g ix n pa pc s) (q : Nat) : RE w1 w6 (wx.drewN q) ts size Bx g ix n pa pc s := by
  have hb : Below wx.heap.size wx (wx.drewN q) := drewN_below _ _ _
  have kp := Below.keeps hb
  exact ⟨h.c1, h.c2, h.row.below hb, h.kp.trans kp, h.tw.belowStep hb, Nat.le_trans h.sz hb.size, kp _ _ _ h.x0, kp _ _ _ h.x1, kp _ _ _ h.x2, kp _ _ _ h.x3⟩
theorem RR.fin1 {w1 w6 V w8 : World} {ts : List Tr} {mb size g ix n : Nat} {pa : Option Addr} {pc : Nat} {s : Nat → Nat} (hb : Below w6.heap.size w6 V) (h : RR w1 w6 V w8 ts mb size pa pc s) : RE w1 w6 (w8.alloc (.cells #[.int .u8 (g : Int), .int .i64 (ix : Int), .int .i64 (n : Int), .slice pa size pc] 60)) ts size w8.heap.size g ix n pa pc s := by
  have hba : Below w8.heap.size w8 (w8.alloc (.cells #[.int .u8 (g : Int), .int .i64 (ix : Int), .int .i64 (n : Int), .slice pa size pc] 60)) := (Below.refl _ _).alloc (Nat.le_refl _) _
  refine ⟨h.c1, h.c2, h.row.below hba, ((Below.keeps hb).trans h.kp).trans (Below.keeps hba), (h.tw.weak (fun b hb => False.elim hb)).belowStep hba, Nat.le_trans hb.size (Nat.le_trans h.sz hba.size), by simp, by simp, by simp, by simp⟩
theorem RR.fin2 {w0 w1 w6 V w8 : World} {v : Value} {ts : List Tr} {mb size g ix n Bx : Nat} {pa : Option Addr} {pc : Nat} {s : Nat → Nat} (hT : TOut w0 w1 v ts) (hTW : TW NoX w1 w6 ts) (hb : Below w6.heap.size w6 V) (h0 : w6.heap.size ≤ Bx) (hz : V.heap[Bx]? = some (.cells #[.int .u8 0, .int .i64 0, .int .i64 0, .slice none 0 0] 60 (0, 0))) (h : RR w1 w6 V w8 ts mb size pa pc s) (hmb : mb < w1.heap.size) : RE w1 w6 (boxW w8 Bx g ix n (.slice pa size pc)) ts size Bx g ix n pa pc s := by
  have h16 := hTW.size
  have hBV : Bx < V.heap.size := heap_lt hz
  have x8 := (h.blk Bx hBV (by omega)).trans hz
  have hc := boxW_cells (g := g) (ix := ix) (n := n) (v := .slice pa size pc) x8
  have hbb := boxW_below w8 Bx g ix n (.slice pa size pc) w6.heap.size h0
  refine ⟨h.c1, h.c2, ?_, ?_, (h.tw.keepX hT (fun b hb => by omega) (hbb.mono h16) (fun b hn => boxW_other _ _ _ _ _ _ _ (fun e => hn ⟨by omega, by omega⟩))).weak (fun b hb => False.elim hb), Nat.le_trans hb.size (Nat.le_trans h.sz hbb.size), by simp [World.cell?, hc], by simp [World.cell?, hc], by simp [World.cell?, hc], by simp [World.cell?, hc]⟩
  · rcases Nat.eq_zero_or_pos size with h1 | h1
    · exact ⟨h.row.1, fun h2 => by omega⟩
    · exact h.row.same (fun b o he _ => boxW_other _ _ _ _ _ _ _ (by have := h.far h1 b o he; omega))
  · intro b o y hy
    have hlt : b < w6.heap.size := cell_lt hy
    have h3 : w8.cell? ⟨b, o, none⟩ = some y := ((Below.keeps hb).trans h.kp) _ _ _ hy
    exact (World.cell?_of_block (a := ⟨b, o, none⟩) (boxW_other _ _ _ _ _ _ _ (by show b ≠ Bx; omega))).trans h3

open Classical in
theorem same_true {x y : Sd} (h : x.same y) : decide (x.same y) = true := decide_eq_true h

set_option maxRecDepth 100000 in
set_option maxHeartbeats 4000000 in
theorem reb_any (ops : List KOp) (ao : Option Addr) (cap : Nat) (w : World) (e : Nat → Addr) (E : KErrs 10 w e) (hG : Gens w) (hs : KScript w ao ops) (hm : ops.length ≤ 140737488355328) (hb : ∀ x ∈ ops, x.bs.length ≤ 140737488355328 ∧ x.pick.length ≤ 140737488355328) :
    Calls Tryd.prog 5 #[.slice ao ops.length cap] w fun r w' => r = .returned (.bool true) ∧ Below w.heap.size w w' := by
  have hI : Tryd.prog.isIface 48 = true := by kernel_rfl
  have HSm : Hid _ := ksmall_any ao ops cap w hs hm hb
  cases hsm : ksmall ops with
  | false =>
    rw [hsm] at HSm
    clear hs E hG
    go_enter Tryd.func5, Tryd.ntmps5
    go_wp2_with fail
    refine Calls.mono HSm.out ?_
    rintro r w' ⟨rfl, hw⟩
    have hw := hw.symm; subst hw
    go_wp2
    go_ret
    exact ⟨rfl, Below.refl _ _⟩
  | true =>
    rw [hsm] at HSm
    obtain ⟨hn, hbs⟩ := ksmall_len hsm
    have HTr : Hid _ := trials_any 10 ops ao cap w e E (by omega) hs hn hbs
    have HG : Hid (Gens w) := hG
    have HE : Hid (KErrs 10 w e) := E
    clear hs hb hsm E hG
    go_enter Tryd.func5, Tryd.ntmps5
    go_wp2_with fail
    refine Calls.mono HSm.out ?_
    rintro r w' ⟨rfl, hw⟩
    have hw := hw.symm; subst hw
    clear HSm
    go_wp2_with fail
    refine Calls.mono HTr.out ?_
    rintro r w1 ⟨v, ts, rfl, hT, htl⟩
    have hts : ts.length ≤ 140737488355328 := by omega
    clear htl
    obtain ⟨ta, tcap, rfl, htc⟩ := hT.form
    have HT : Hid (TOut w w1 (.slice ta ts.length tcap) ts) := hT
    have HTC : Hid _ := htc
    clear hT htc HTr
    go_wp2
    go_loopw [21] (fun i wr => ∃ j : Nat, j ≤ ts.length ∧ i = .int .i64 j ∧ TW NoX w1 wr ts) (fun i _ => ts.length - (intOf i).toNat)
    case atStart => exact ⟨0, Nat.zero_le _, rfl, TW.start HT.out⟩
    case round =>
      obtain ⟨w2, hw2⟩ : ∃ x, x = wr := ⟨_, rfl⟩
      subst hw2
      obtain ⟨j, hj, rfl, hTW⟩ := hrel
      by_cases hlt : j < ts.length
      · obtain ⟨g0, rfl, hcs⟩ := HTC.out (by omega)
        have hmem : ts[j] ∈ ts := List.getElem_mem hlt
        have kp := hTW.keeps HT.out
        have hok := (HT.out.ok ts[j] hmem).keeps kp
        have kc : ∀ i, i < 14 → w2.cell? ⟨g0, j * 14 + i, none⟩ = (ts[j]).cells[i]? := by
          intro i hi
          have h1 := hcs j hlt i hi
          have hl : (ts[j]).cells.length = 14 := rfl
          have h2 : (ts[j]).cells[i]? = some ((ts[j]).cells[i]'(by rw [hl]; exact hi)) := List.getElem?_eq_getElem _
          rw [h2] at h1 ⊢
          exact kp _ _ _ h1
        have HMem : Hid (ts[j] ∈ ts) := hmem
        obtain ⟨t, ht⟩ : ∃ t, ts[j] = t := ⟨_, rfl⟩
        rw [ht] at kc hok HMem
        have HOk : Hid (TrOk w2 w.heap.size (fun b => w.heap.size ≤ b ∧ (Value.slice (some ⟨g0, 0, none⟩) ts.length tcap).ownBlock ≠ some b) t) := hok
        have HTW : Hid (TW NoX w1 w2 ts) := hTW
        have k0 := kc 0 (by omega)
        have k1 := kc 1 (by omega)
        have k2 := kc 2 (by omega)
        have k3 := kc 3 (by omega)
        have k4 := kc 4 (by omega)
        have k5 := kc 5 (by omega)
        have k6 := kc 6 (by omega)
        have k7 := kc 7 (by omega)
        have k8 := kc 8 (by omega)
        have k9 := kc 9 (by omega)
        have k10 := kc 10 (by omega)
        have k11 := kc 11 (by omega)
        have k12 := kc 12 (by omega)
        have k13 := kc 13 (by omega)
        simp only [Tr.cells, KOp.cells, List.getElem?_cons_zero, List.getElem?_cons_succ, Nat.add_zero] at k0 k1 k2 k3 k4 k5 k6 k7 k8 k9 k10 k11 k12 k13
        have hlt' : (j : Int) < (ts.length : Int) := by omega
        have hidx := hok.idx
        have hkn := hok.codec.hn
        have hk1 := hok.codec.hk
        have hm1 := hok.codec.hm
        clear hcs hok kc ht hTW kp hmem
        -- the map
        obtain ⟨Wb, hWb⟩ : ∃ Wb, w2.alloc (.cells #[.pointer (some ⟨t.cb, 0, none⟩), .slice t.oa t.obs.length t.oc, .slice t.sa t.sub.length t.sc, .int .i64 t.idx, .int .u8 t.op.kind, .int .i64 t.op.k, .int .i64 t.op.m, .int .u8 t.op.gen, .slice t.op.da t.op.bs.length t.op.dc, .slice t.op.pa t.op.pick.length t.op.pc, .int .i64 t.op.index, .int .u8 t.op.field, .int .i64 t.op.value, .int .u8 t.op.mask] 45) = Wb := ⟨_, rfl⟩
        have hWs : Wb.heap.size = w2.heap.size + 1 := by rw [← hWb]; simp
        obtain ⟨Wi, hins, hseen, hgr⟩ := (Seen.made Wb).put (i := t.idx) (by omega) (by omega)
        have HBox : Hid (TrBox Wb w2.heap.size t) := by
          show Wb.heap[w2.heap.size]? = _
          rw [← hWb]; exact heap_alloc_new w2 _
        have HBi : Hid (TrBox Wi w2.heap.size t ∧ Below w2.heap.size w2 Wi ∧ w2.heap.size + 2 ≤ Wi.heap.size) := by
          have hb1 : Below w2.heap.size w2 (Wb.alloc (.map #[] 0)) := by rw [← hWb]; exact ((Below.refl _ _).alloc (Nat.le_refl _) _).alloc (by simp) _
          refine ⟨HBox.out.of_block ((hgr.block _ (by simp; omega) (by simp; omega)).trans (Below.heap_alloc _ _ _ (by omega))), hb1.grown hgr (by simp; omega) (fun k hk => by simp at hk; omega), ?_⟩
          have := hgr.size
          simp at this
          omega
        rw [hWs] at hins hseen
        have HSe : Hid (Seen Wi (w2.heap.size + 1) 1 (fun q => decide (q = t.idx))) := Seen.congr hseen (fun q => by by_cases e : q = t.idx <;> simp [e])
        have hmm := @run_makeMap Tryd.prog
        have m3 := HBox.out.cell 3
        have m3' : (Wb.alloc (.map #[] 0)).cell? ⟨w2.heap.size, 3, none⟩ = some (.int .i64 (t.idx : Int)) := (World.cell?_of_block (a := ⟨w2.heap.size, 3, none⟩) (Below.heap_alloc _ _ _ (by show w2.heap.size < Wb.heap.size; omega))).trans m3
        have n2 := HBi.out.1.cell 2
        have n2' : Wi.cell? ⟨w2.heap.size, 2, none⟩ = some (.slice t.sa t.sub.length t.sc) := n2
        clear hseen hgr m3 n2 HBox
        go_wp2
        obtain ⟨B, hB⟩ : ∃ B, w2.heap.size = B := ⟨_, rfl⟩
        rw [hB] at HBi HSe n2' ⊢
        clear hmm hins m3' hWs hWb k0 k1 k2 k3 k4 k5 k6 k7 k8 k9 k10 k11 k12 k13
        have HB : Hid (w2.heap.size = B) := hB
        clear hB
        obtain ⟨sL, hsL⟩ : ∃ sL, t.sub.length = sL := ⟨_, rfl⟩
        rw [hsL] at n2' ⊢
        have HsL : Hid (t.sub.length = sL) := hsL
        have hsL16 : sL ≤ 16 := by
          have h1 := nodup_len HOk.out.nodup (l2 := List.range (t.k + t.m)) (fun x hx => List.mem_range.2 (HOk.out.slt x hx))
          rw [List.length_range, hsL] at h1
          omega
        clear hsL
        go_loopw [5, 32] (fun sv i wq => ∃ q : Nat, q ≤ sL ∧ i = .int .i64 q ∧ wq.ownsRow (B + 2) 3 1 sv (oth1 (t.sub.take q) t.idx).length ((oth1 (t.sub.take q) t.idx).map fun y => Value.int .i64 ((y : Nat) : Int)) ∧ Seen wq (B + 1) (q + 1) (fun z => decide (z = t.idx ∨ z ∈ t.sub.take q)) ∧ TrBox wq B t ∧ Below B w2 wq ∧ B + 2 ≤ wq.heap.size) (fun _ i _ => sL - (intOf i).toNat)
        case atStart =>
          refine ⟨0, Nat.zero_le _, rfl, by simpa [oth1] using World.ownsRow_nil Wi (B + 2) 3 1, Seen.congr HSe.out (fun z => by simp), HBi.out⟩
        case round =>
          obtain ⟨q, hq, rfl, hown, hseen, hbox, hbel, hsz⟩ := hrel
          clear HSe HBi n2'
          have HBox : Hid (TrBox wr B t) := hbox
          have HBel : Hid (Below B w2 wr) := hbel
          have HOwn : Hid (wr.ownsRow (B + 2) 3 1 u5 (oth1 (t.sub.take q) t.idx).length ((oth1 (t.sub.take q) t.idx).map fun y => Value.int .i64 ((y : Nat) : Int))) := hown
          have HSeen : Hid (Seen wr (B + 1) (q + 1) (fun z => decide (z = t.idx ∨ z ∈ t.sub.take q))) := hseen
          by_cases hlq : q < sL
          · have hlq' : (q : Int) < (sL : Int) := by omega
            have hqs : q < t.sub.length := by rw [HsL.out]; exact hlq
            obtain ⟨nb, no, hsa, _, hnc⟩ := HOk.out.sub (ne_nil_of_lt hqs)
            have hn0 := hnc q hqs
            have hnb : nb < B := by rw [← HB.out]; exact cell_lt hn0
            have hn1 : wr.cell? ⟨nb, no + q, none⟩ = some (.int .i64 ((t.sub.getD q 0 : Nat) : Int)) := (hbel.cell (p := ⟨nb, no + q, none⟩) hnb).trans hn0
            have hslt := HOk.out.slt _ (getD_mem (d := 0) hqs)
            have hot := oth1_take t.sub t.idx q hqs
            have htk : t.sub.take (q + 1) = t.sub.take q ++ [t.sub.getD q 0] := by rw [List.take_succ_eq_append_getElem hqs, getD_lt hqs]
            have hnotin : t.sub.getD q 0 ∉ t.sub.take q := by
              have hnd : (t.sub.take (q + 1)).Nodup := HOk.out.nodup.sublist (List.take_sublist _ _)
              rw [htk, List.nodup_append] at hnd
              intro h
              exact hnd.2.2 _ h _ (by simp) rfl
            have hlook := hseen.look (i := t.sub.getD q 0) (by omega)
            rw [hsa] at ⊢
            obtain ⟨p, hp⟩ : ∃ p, t.sub.getD q 0 = p := ⟨_, rfl⟩
            rw [hp] at hn1 hslt hot htk hnotin hlook
            have HTk : Hid (t.sub.take (q + 1) = t.sub.take q ++ [p]) := htk
            have HOt : Hid (oth1 (t.sub.take (q + 1)) t.idx = oth1 (t.sub.take q) t.idx ++ (if p = t.idx then [] else [p])) := hot
            clear hnc hn0 hp htk hot hown hseen hbox hbel hsa
            by_cases hpi : p = t.idx
            · have hb1 : decide (p = t.idx ∨ p ∈ t.sub.take q) = true := by simp [hpi]
              rw [hb1] at hlook
              have HF : Hid (wr.ownsRow (B + 2) 3 1 u5 (oth1 (t.sub.take (q + 1)) t.idx).length ((oth1 (t.sub.take (q + 1)) t.idx).map fun y => Value.int .i64 ((y : Nat) : Int)) ∧ Seen wr (B + 1) (q + 1 + 1) (fun z => decide (z = t.idx ∨ z ∈ t.sub.take (q + 1)))) := by
                rw [HOt.out, if_pos hpi, List.append_nil]
                refine ⟨HOwn.out, Seen.congr (Seen.mono HSeen.out (by omega)) (fun z => ?_)⟩
                rw [HTk.out]
                by_cases hz : z = t.idx
                · simp [hz]
                · have : z ≠ p := by rw [hpi]; exact hz
                  simp [hz, this]
              clear hpi hnotin hb1
              go_wp2
              go_roundw
              case rel => exact ⟨q + 1, by omega, by go_num, HF.out.1, HF.out.2, HBox.out, HBel.out, hsz⟩
              case measure => simp [intOf]; omega
            · have hb1 : decide (p = t.idx ∨ p ∈ t.sub.take q) = false := by simp [hpi, hnotin]
              rw [hb1] at hlook
              obtain ⟨acc, hacc⟩ : ∃ acc, oth1 (t.sub.take q) t.idx = acc := ⟨_, rfl⟩
              have hal : acc.length ≤ 16 := by
                rw [← hacc]
                have := List.length_filter_le (fun i => decide (i ≠ t.idx)) (t.sub.take q)
                have h2 : (t.sub.take q).length ≤ q := by simp; omega
                show (List.filter (fun i => decide (i ≠ t.idx)) (t.sub.take q)).length ≤ 16
                omega
              rw [hacc] at HOwn HOt
              rw [if_neg hpi] at HOt
              have HSt : Hid (∀ w3 w4 v' o, Seen w3 (B + 1) (q + 1 + 1) (fun z => if z = p then true else decide (z = t.idx ∨ z ∈ t.sub.take q)) → wr.grownBy w3 (some (B + 1)) → w4.ownsRow (B + 2) 3 1 v' (acc ++ [p]).length ((acc ++ [p]).map fun y => Value.int .i64 ((y : Nat) : Int)) → (w3.alloc o).grownBy w4 u5.ownBlock →
                  w4.ownsRow (B + 2) 3 1 v' (oth1 (t.sub.take (q + 1)) t.idx).length ((oth1 (t.sub.take (q + 1)) t.idx).map fun y => Value.int .i64 ((y : Nat) : Int)) ∧ Seen w4 (B + 1) (q + 1 + 1) (fun z => decide (z = t.idx ∨ z ∈ t.sub.take (q + 1))) ∧ TrBox w4 B t ∧ Below B w2 w4 ∧ B + 2 ≤ w4.heap.size) := by
                intro w3 w4 v' o h1 h2 h3 h4
                have hz3 : B + 2 ≤ w3.heap.size := Nat.le_trans hsz h2.size
                have hz4 : B + 2 ≤ w4.heap.size := by have := h4.size; simp at this; omega
                have hob : ∀ g, u5.ownBlock = some g → B + 2 ≤ g := fun g hg => (HOwn.out.lt g hg).1
                have kb : ∀ b, b < B + 2 → w4.heap[b]? = w3.heap[b]? := fun b hb => (h4.block b (by simp; omega) (fun e => by have := hob b e.symm; omega)).trans (Below.heap_alloc _ _ _ (by omega))
                refine ⟨by rw [HOt.out]; exact h3, (Seen.congr h1 (fun z => ?_)).of_block (kb (B + 1) (by omega)), ?_, ?_, hz4⟩
                · rw [HTk.out]
                  by_cases e : z = p
                  · simp [e]
                  · simp [e]
                · exact HBox.out.of_block ((kb B (by omega)).trans (h2.block B (by omega) (by simp)))
                · have hb3 : Below B w2 w3 := HBel.out.grown h2 (by omega) (fun k hk => by simp at hk; omega)
                  exact (hb3.alloc (by omega) o).grown h4 (by simp; omega) (fun k hk => by have := hob k hk; omega)
              have HO3 : Hid (∀ w3, wr.grownBy w3 (some (B + 1)) → ∀ o, (w3.alloc o).ownsRow (B + 2) 3 1 u5 acc.length (acc.map fun y => Value.int .i64 ((y : Nat) : Int))) := by
                intro w3 h2 o
                refine own_keep HOwn.out (fun g hg => ?_)
                have hgl := HOwn.out.lt g hg
                rw [Below.heap_alloc _ _ _ (Nat.lt_of_lt_of_le hgl.2 h2.size)]
                exact h2.block g hgl.2 (by simp; omega)
              clear hpi hnotin hb1 hacc
              go_wp2_with (first
                | (at_mapUpdate; refine wpList_seen_put rfl _ _ _ rfl (B + 1) (q + 1) (fun z => decide (z = t.idx ∨ z ∈ t.sub.take q)) p rfl rfl rfl HSeen.out (by omega) (by omega) ?_; intro w3 h1 h2; have H1 : Hid _ := h1; have H2 : Hid (wr.grownBy w3 (some (B + 1))) := h2; have hz3 : B + 2 ≤ w3.heap.size := Nat.le_trans hsz h2.size; clear h1 h2)
                | (at_builtin; refine wpList_append_num _ rfl _ _ rfl (B + 2) u5 acc rfl (HO3.out w3 H2.out _) w3.heap.size 1 p rfl (by simp) (by omega) (by simp; omega) ?_; intro v' w4 g1 g2 g5; have HFin : Hid _ := HSt.out w3 w4 v' _ H1.out H2.out g1 g2; clear g1 g2 g5)
                | fail)
              go_roundw
              case rel => exact ⟨q + 1, by omega, by go_num, HFin.out⟩
              case measure => simp [intOf]; omega
          · have hlq' : ¬ (q : Int) < (sL : Int) := by omega
            have hqL : q = sL := by omega
            have hts : t.sub.take q = t.sub := by rw [hqL, ← HsL.out, List.take_length]
            rw [hts] at HOwn HSeen
            clear hown hseen hbox hbel hts hqL
            obtain ⟨N, hN⟩ : ∃ N, t.k + t.m = N := ⟨_, rfl⟩
            have HN : Hid (t.k + t.m = N) := hN
            have hN16 : N ≤ 16 := by omega
            obtain ⟨w3, hw3⟩ : ∃ x, x = wr := ⟨_, rfl⟩
            subst hw3
            have HSeen3 : Hid (Seen w3 (B + 1) (sL + 1) (fun z => decide (z = t.idx ∨ z ∈ t.sub))) := Seen.mono HSeen.out (by omega)
            have HOwn0 : Hid (w3.ownsRow (B + 2) 3 1 u5 (oth1 t.sub t.idx ++ oth2 t.sub t.idx 0).length ((oth1 t.sub t.idx ++ oth2 t.sub t.idx 0).map fun y => Value.int .i64 ((y : Nat) : Int))) := by
              have e0 : oth1 t.sub t.idx ++ oth2 t.sub t.idx 0 = oth1 t.sub t.idx := by simp [oth2]
              rw [e0]; exact HOwn.out
            clear HOwn HSeen hN
            go_wp2
            go_loopw [5, 9] (fun sv i wq => ∃ z : Nat, z ≤ N ∧ i = .int .i64 z ∧ wq.ownsRow (B + 2) 3 1 sv (oth1 t.sub t.idx ++ oth2 t.sub t.idx z).length ((oth1 t.sub t.idx ++ oth2 t.sub t.idx z).map fun y => Value.int .i64 ((y : Nat) : Int)) ∧ Seen wq (B + 1) (sL + 1) (fun z => decide (z = t.idx ∨ z ∈ t.sub)) ∧ TrBox wq B t ∧ Below B w2 wq ∧ B + 2 ≤ wq.heap.size) (fun _ i _ => N - (intOf i).toNat)
            case atStart => exact ⟨0, Nat.zero_le _, rfl, HOwn0.out, HSeen3.out, HBox.out, HBel.out, hsz⟩
            case round =>
              obtain ⟨z, hz, rfl, hown, hseen, hbox, hbel, hszr⟩ := hrel
              clear HOwn0 HSeen3 HBox HBel
              have b0 : wr.cell? ⟨B, 0, none⟩ = some (.pointer (some ⟨t.cb, 0, none⟩)) := hbox.cell 0
              have hCr : CodecAt wr _ t.cb t.mb t.k t.m := HOk.out.codec.below (by rw [HB.out]; exact hbel)
              have HNn : Hid _ := codecN_drew wr _ t.cb t.mb t.k t.m hCr
              rw [HN.out] at HNn
              have HBox : Hid (TrBox wr.drew B t) := hbox.of_block rfl
              have HBel : Hid (Below B w2 wr.drew) := hbel.drew
              have HOwn : Hid (wr.drew.ownsRow (B + 2) 3 1 u5 (oth1 t.sub t.idx ++ oth2 t.sub t.idx z).length ((oth1 t.sub t.idx ++ oth2 t.sub t.idx z).map fun y => Value.int .i64 ((y : Nat) : Int))) := hown
              have hseenD : Seen wr.drew (B + 1) (sL + 1) (fun z => decide (z = t.idx ∨ z ∈ t.sub)) := hseen.of_block rfl
              have HSeen : Hid (Seen wr.drew (B + 1) (sL + 1) (fun z => decide (z = t.idx ∨ z ∈ t.sub))) := hseenD
              have hszd : B + 2 ≤ wr.drew.heap.size := hszr
              by_cases hlz : z < N
              · have hlz' : (z : Int) < (N : Int) := by omega
                have hlook := hseenD.look (i := z) (by omega)
                have hot := oth2_succ t.sub t.idx z
                by_cases hin : z = t.idx ∨ z ∈ t.sub
                · rw [decide_eq_true hin] at hlook
                  have HF : Hid (wr.drew.ownsRow (B + 2) 3 1 u5 (oth1 t.sub t.idx ++ oth2 t.sub t.idx (z + 1)).length ((oth1 t.sub t.idx ++ oth2 t.sub t.idx (z + 1)).map fun y => Value.int .i64 ((y : Nat) : Int))) := by
                    rw [hot, if_pos hin, List.append_nil]; exact HOwn.out
                  clear hown hseen hbox hbel hseenD hin hot hCr
                  go_wp2_with fail
                  refine Calls.mono HNn.out ?_
                  rintro r1 w4 ⟨rfl, hw⟩
                  subst hw
                  go_wp2
                  go_roundw
                  case rel => exact ⟨z + 1, by omega, by go_num, HF.out, HSeen.out, HBox.out, HBel.out, hszd⟩
                  case measure => simp [intOf]; omega
                · rw [decide_eq_false hin] at hlook
                  rw [if_neg hin] at hot
                  obtain ⟨acc, hacc⟩ : ∃ acc, oth1 t.sub t.idx ++ oth2 t.sub t.idx z = acc := ⟨_, rfl⟩
                  have hacc2 : oth1 t.sub t.idx ++ oth2 t.sub t.idx (z + 1) = acc ++ [z] := by rw [hot, ← List.append_assoc, hacc]
                  have hal : acc.length ≤ 1000 := by
                    rw [← hacc, List.length_append]
                    have h1 := List.length_filter_le (fun i => decide (i ≠ t.idx)) t.sub
                    have h2 := List.length_filter_le (fun i => !(decide (i = t.idx) || decide (i ∈ t.sub))) (List.range z)
                    rw [List.length_range] at h2
                    have h3 := HsL.out
                    unfold oth1 oth2
                    omega
                  rw [hacc] at HOwn
                  have HSt : Hid (∀ w4 v' o, w4.ownsRow (B + 2) 3 1 v' (acc ++ [z]).length ((acc ++ [z]).map fun y => Value.int .i64 ((y : Nat) : Int)) → (wr.drew.alloc o).grownBy w4 u5.ownBlock →
                      w4.ownsRow (B + 2) 3 1 v' (oth1 t.sub t.idx ++ oth2 t.sub t.idx (z + 1)).length ((oth1 t.sub t.idx ++ oth2 t.sub t.idx (z + 1)).map fun y => Value.int .i64 ((y : Nat) : Int)) ∧ Seen w4 (B + 1) (sL + 1) (fun z => decide (z = t.idx ∨ z ∈ t.sub)) ∧ TrBox w4 B t ∧ Below B w2 w4 ∧ B + 2 ≤ w4.heap.size) := by
                    intro w4 v' o h3 h4
                    have hz4 : B + 2 ≤ w4.heap.size := by have := h4.size; simp at this; omega
                    have hob : ∀ g, u5.ownBlock = some g → B + 2 ≤ g := fun g hg => (HOwn.out.lt g hg).1
                    have kb : ∀ b, b < B + 2 → w4.heap[b]? = wr.drew.heap[b]? := fun b hb => (h4.block b (by simp; omega) (fun e => by have := hob b e.symm; omega)).trans (Below.heap_alloc _ _ _ (by omega))
                    refine ⟨by rw [hacc2]; exact h3, HSeen.out.of_block (kb (B + 1) (by omega)), HBox.out.of_block (kb B (by omega)), ?_, hz4⟩
                    exact (HBel.out.alloc (by omega) o).grown h4 (by simp; omega) (fun k hk => by have := hob k hk; omega)
                  have HO3 : Hid (∀ o, (wr.drew.alloc o).ownsRow (B + 2) 3 1 u5 acc.length (acc.map fun y => Value.int .i64 ((y : Nat) : Int))) := by
                    intro o
                    refine own_keep HOwn.out (fun g hg => ?_)
                    exact Below.heap_alloc _ _ _ (HOwn.out.lt g hg).2
                  clear hown hseen hbox hbel hseenD hin hot hCr hacc hacc2
                  go_wp2_with fail
                  refine Calls.mono HNn.out ?_
                  rintro r1 w4 ⟨rfl, hw⟩
                  subst hw
                  go_wp2_with (first
                    | (at_builtin; refine wpList_append_num _ rfl _ _ rfl (B + 2) u5 acc rfl (HO3.out _) wr.heap.size 1 z rfl (by simp) (by omega) (by simp; omega) ?_; intro v' w4 g1 g2 g5; have HFin : Hid _ := HSt.out w4 v' _ g1 g2; clear g1 g2 g5)
                    | fail)
                  go_roundw
                  case rel => exact ⟨z + 1, by omega, by go_num, HFin.out⟩
                  case measure => simp [intOf]; omega
              · have hlz' : ¬ (z : Int) < (N : Int) := by omega
                have hzN : z = N := by omega
                rw [hzN] at HOwn
                clear hown hseen hbox hbel hseenD hzN
                have hofa := oth_facts t.sub t.idx N HOk.out.nodup (fun i hi => by rw [← HN.out]; exact HOk.out.slt i hi) (by rw [← HN.out]; exact hidx)
                obtain ⟨oall, hoall⟩ : ∃ oall, oth1 t.sub t.idx ++ oth2 t.sub t.idx N = oall := ⟨_, rfl⟩
                rw [hoall] at HOwn hofa
                obtain ⟨ho1, ho2, ho3⟩ := hofa
                obtain ⟨oa', oc', hov, hoc1, hoc2, hon⟩ := NRow.of_owns HOwn.out
                subst hov
                have hok' : t.k ≤ oall.length := by have := HN.out; omega
                have hok2 : (t.k : Int) ≤ (oc' : Int) := by omega
                have HOth : Hid (NRow wr.drew (fun b => B + 2 ≤ b) oa' (oall.take t.k)) := by
                  intro hne
                  obtain ⟨b, o, h1, h2, h3⟩ := hon (fun e => hne (by rw [e]; simp))
                  refine ⟨b, o, h1, h2, fun i hi => ?_⟩
                  have hi1 : i < t.k := by simp at hi; omega
                  have hi2 : i < oall.length := by omega
                  rw [h3 i hi2, List.getD_eq_getElem?_getD, List.getD_eq_getElem?_getD, List.getElem?_take, if_pos hi1]
                have HOl : Hid ((oall.take t.k).length = t.k ∧ (oall.take t.k).Nodup ∧ ∀ i ∈ oall.take t.k, i < N) := ⟨by simp; omega, ho1.sublist (List.take_sublist _ _), fun i hi => (ho2 i (List.mem_of_mem_take hi)).1⟩
                have HKd : Hid _ := codecK_any wr.drew _ t.cb t.mb t.k t.m (HOk.out.codec.below (by rw [HB.out]; exact HBel.out))
                have b0d : wr.drew.cell? ⟨B, 0, none⟩ = some (.pointer (some ⟨t.cb, 0, none⟩)) := HBox.out.cell 0
                obtain ⟨oL, hoL⟩ : ∃ oL, oall.length = oL := ⟨_, rfl⟩
                rw [hoL] at hok' hoc1 ⊢
                clear hon ho1 ho2 ho3 hoall HOwn hCr hoL
                have hok3 : (t.k : Int) ≤ (oL : Int) := by omega
                have hGr : Gens wr.drew := ((HG.out.below HT.out.bel).keeps (HTW.out.keeps HT.out)).keeps (Below.keeps (by rw [HB.out]; exact HBel.out))
                obtain ⟨gb, go, gc, hg0, hg1, hg2⟩ := hGr
                have HTWd : Hid (TW NoX w1 wr.drew ts) := HTW.out.belowStep (by rw [HB.out]; exact HBel.out)
                go_wp2_with fail
                refine Calls.mono HNn.out ?_
                rintro r1 w4 ⟨rfl, hw⟩
                subst hw
                go_wp2_with fail
                refine Calls.mono HKd.out ?_
                rintro r1 w4 ⟨rfl, hw⟩
                have hw := hw.symm
                subst hw
                obtain ⟨w5, hw5⟩ : ∃ w5, wr.drew = w5 := ⟨_, rfl⟩
                rw [hw5] at HOth HBox HBel HTWd b0d hg0 hg2 ⊢
                clear HNn HKd hw5 b0 HSeen
                go_wp2
                have HKS : Hid (∀ wq, Keeps w5 wq → TrOk wq w.heap.size (fun b => w.heap.size ≤ b ∧ (Value.slice (some ⟨g0, 0, none⟩) ts.length tcap).ownBlock ≠ some b) t) := fun wq kq => (HOk.out.keeps (Below.keeps (by rw [HB.out]; exact HBel.out))).keeps kq
                have b1 : w5.cell? ⟨B, 1, none⟩ = some (.slice t.oa t.obs.length t.oc) := HBox.out.cell 1
                have b3 : w5.cell? ⟨B, 3, none⟩ = some (.int .i64 (t.idx : Int)) := HBox.out.cell 3
                have HKP : Hid (∀ i, i < 3 → w5.cell? ⟨gb, go + i, none⟩ = some (.int .u8 ((i + 1 : Nat) : Int))) := hg2
                obtain ⟨n, hn⟩ : ∃ n, t.obs.length = n := ⟨_, rfl⟩
                have Hn : Hid (t.obs.length = n) := hn
                have hn256 : n ≤ 256 := by rw [← hn]; exact HOk.out.olen
                rw [hn] at b1
                clear hn hg2 HBel
                go_loopw [69] (fun i wq => ∃ q : Nat, q ≤ 3 ∧ i = .int .i64 q ∧ Keeps w5 wq ∧ TW NoX w1 wq ts ∧ w5.heap.size ≤ wq.heap.size) (fun i _ => 3 - (intOf i).toNat)
                case atStart => exact ⟨0, by omega, rfl, Keeps.refl _, HTWd.out, Nat.le_refl _⟩
                case round =>
                  obtain ⟨q, hq, rfl, kq, hTWq, hszq⟩ := hrel
                  have HKq : Hid (Keeps w5 wr) := kq
                  have HTWq : Hid (TW NoX w1 wr ts) := hTWq
                  by_cases hlq : q < 3
                  · have hlq' : (q : Int) < 3 := by omega
                    have gq := kq _ _ _ (HKP.out q hlq)
                    obtain ⟨g, hg⟩ : ∃ g, g = q + 1 := ⟨_, rfl⟩
                    rw [← hg] at gq
                    have hOk := HKS.out wr kq
                    have hf8 : ∀ i, i < n → t.obs.getD i 0 < 256 := fun i hi => hOk.obj.byte (by rw [Hn.out]; exact hi)
                    have HE6 : Hid _ := encode_ok wr _ t.cb t.mb t.k t.m g t.obs.length t.oc t.oa (fun i => t.obs.getD i 0) hOk.codec hOk.obj.frow (by omega) hOk.olen hOk.ocap hOk.ocap2
                    rw [Hn.out, HN.out] at HE6
                    have a0 := kq _ _ _ b0d
                    have a1 := kq _ _ _ b1
                    have hg123 : g = 1 ∨ g = 2 ∨ g = 3 := by omega
                    have HGG : Hid (g = 1 ∨ g = 2 ∨ g = 3) := hg123
                    have Hf8 : Hid (∀ i, i < n → t.obs.getD i 0 < 256) := hf8
                    have Hgq : Hid (g = q + 1) := hg
                    clear hOk kq hTWq hg hg123 hf8
                    go_wp2_with fail
                    refine Calls.mono HE6.out ?_
                    rintro r w6 ⟨HS, pb, po, rfl, hHS, hpb, hSA, hb6⟩
                    clear HE6
                    have hps := psize_le g t.k n hk1 hn256
                    have kp6 : Keeps w5 w6 := HKq.out.trans (Below.keeps hb6)
                    have HKp6 : Hid (Keeps w5 w6) := kp6
                    have HS56 : Hid (w5.heap.size ≤ w6.heap.size) := Nat.le_trans hszq hb6.size
                    have hSd := hSA.sdrow (by have := HGG.out; omega) (by omega) (by omega) (by omega)
                    have HSd : Hid (SdRow w6 (some ⟨HS, 0, none⟩) (shL N g n (psize g t.k n) pb po (pay g t.k n (fun i => t.obs.getD i 0)))) := hSd
                    have HTW6 : Hid (TW NoX w1 w6 ts) := HTWq.out.belowStep hb6
                    have hE6 : KErrs 10 w6 e := HTW6.out.errs HT.out (HE.out.below HT.out.bel)
                    have hC6 := (HKS.out w6 kp6).codec
                    have hlen : (shL N g n (psize g t.k n) pb po (pay g t.k n (fun i => t.obs.getD i 0))).length = N := shL_len _ _ _ _ _ _ _
                    have HCh : Hid (∀ V, Below w6.heap.size w6 V → Calls Tryd.prog 20 #[.slice (some ⟨HS, 0, none⟩) N N, .slice oa' t.k oc'] V fun e w' => ∃ cB, e = .returned (.slice (some ⟨cB, 0, none⟩) t.k t.k) ∧ SdRow w' (some ⟨cB, 0, none⟩) (chosen (oall.take t.k) N g n (psize g t.k n) pb po (pay g t.k n (fun i => t.obs.getD i 0))) ∧ Below V.heap.size V w' ∧ Below w6.heap.size w6 w') := by
                      intro V hb
                      have h := choose_any V (fun b => B + 2 ≤ b) (some ⟨HS, 0, none⟩) oa' N oc' _ (oall.take t.k) (hSd.keeps (Below.keeps hb)) ((HOth.out.keeps kp6).keeps (Below.keeps hb)) (fun i hi => by rw [hlen]; exact HOl.out.2.2 i hi) (by rw [HOl.out.1]; omega)
                      rw [hlen, HOl.out.1] at h
                      refine h.mono ?_
                      rintro e w' ⟨h1, h2, h3⟩
                      exact ⟨_, h1, h2, h3, hb.trans (h3.mono hb.size)⟩
                    obtain ⟨hGood, hg0e, ho0e, hbyt, hfit, hpad⟩ := chosen_good (ns := oall.take t.k) (k := t.k) (N := N) (g := g) (n := n) (pb := pb) (po := po) (f := fun i => t.obs.getD i 0) hk1 (by omega) HGG.out hn256 Hf8.out HOl.out.2.2 HOl.out.2.1 (by rw [HOl.out.1]; exact Nat.le_refl _)
                    have HRb : Hid (∀ V cB, Below w6.heap.size w6 V → SdRow V (some ⟨cB, 0, none⟩) (chosen (oall.take t.k) N g n (psize g t.k n) pb po (pay g t.k n (fun i => t.obs.getD i 0))) → Calls Tryd.prog 28 #[.pointer (some ⟨t.cb, 0, none⟩), .int .i64 (t.idx : Int), .slice (some ⟨cB, 0, none⟩) t.k t.k] V fun r w' => ∃ pa pc, r = .returned (.tuple #[.agg #[.int .u8 (g : Int), .int .i64 (t.idx : Int), .int .i64 (n : Int), .slice pa (psize g t.k n) pc], .nilIface]) ∧ RR w1 w6 V w' ts t.mb (psize g t.k n) pa pc (pay g t.k n (fun i => t.obs.getD i 0) t.idx)) := by
                      intro V cB hbV hSV
                      have hX6 : ∀ b, (w6.heap.size ≤ b ∧ b < V.heap.size) → w1.heap.size ≤ b := fun b hb => by have := HTW6.out.size; omega
                      have hTWV : TW (fun b => w6.heap.size ≤ b ∧ b < V.heap.size) w1 V ts := HTW6.out.addX hbV (fun b hb => .inr hb.1)
                      have hcV := hTWV.cache t HMem.out
                      have hmb6 : ¬ (w6.heap.size ≤ t.mb ∧ t.mb < V.heap.size) := fun hh => by have h1 := hX6 _ hh; have h2 := heap_lt (HT.out.map t HMem.out).1; omega
                      have h := rebuild_any (fun b => w6.heap.size ≤ b ∧ b < V.heap.size) V _ t.cb t.mb t.k t.m t.idx (some ⟨cB, 0, none⟩) t.k _ e (hE6.below hbV) (hC6.below hbV) hcV (fun b hb => hb.2) hmb6 hSV (by simp [chosen]; omega) hidx
                      have hcl : (chosen (oall.take t.k) N g n (psize g t.k n) pb po (pay g t.k n (fun i => t.obs.getD i 0))).length = t.k := by simp only [chosen, List.length_map]; exact HOl.out.1
                      rw [hcl] at h
                      refine h.mono ?_
                      rintro r w' ⟨hM, hK', hcase⟩
                      rw [HN.out] at hcase
                      have hTW' := hTWV.step HT.out HMem.out hM hK'
                      rcases hcase with ⟨i, hgc, _⟩ | ⟨_, hNo, _⟩ | ⟨_, D, pa, pc, hr, hp1, hp2, hD1, hD2, hD3, v, hv1, hv2, hv3⟩
                      · rw [gcls_good hGood] at hgc; cases hgc
                      · exfalso
                        apply hNo
                        rw [hg0e, ho0e, Int.toNat_natCast]
                        exact ⟨_, hbyt, hfit, hpad⟩
                      · rw [hg0e, ho0e, Int.toNat_natCast] at hr hp1 hD1 hD2 hv3
                        have hDu := fits_uniq (by omega) hN16 hGood hD1 hbyt hD2 hfit
                        refine ⟨pa, pc, hr, hp1, hp2, hv3.1.congr (fun c hc => ?_), fun h0 b o he => ?_, hM.keepsC hcV, hTW', hM.size, fun b hb hne => hM.block b hb hne, (Below.keeps hbV).trans (hM.keepsC hcV), Nat.lt_of_lt_of_le (heap_lt (HT.out.map t HMem.out).1) HTW6.out.size⟩
                        · rw [pay_dot g t.k n _ (by omega) Hf8.out t.idx c]
                          exact gdot_congr (fun _ _ => rfl) (fun j hj => hDu j hj c hc)
                        · obtain ⟨gg, q1, q2, _⟩ := hv3.2 h0
                          rw [q1] at he
                          have : gg = b := congrArg (fun x : Option Addr => (x.getD ⟨0, 0, none⟩).block) he
                          omega
                    have c0 := kp6 _ _ _ b0d
                    have c3 := kp6 _ _ _ b3
                    have hBw6 : B < w6.heap.size := cell_lt c0
                    clear hSA hSd hb6 hGood hg0e ho0e hbyt hfit hpad hlen hE6 hC6 kp6 gq a0 a1
                    obtain ⟨size, hsize⟩ : ∃ size, psize g t.k n = size := ⟨_, rfl⟩
                    have HSize : Hid (psize g t.k n = size) := hsize
                    rw [hsize] at HRb HCh HSd hps
                    obtain ⟨Pf, hPf⟩ : ∃ Pf, pay g t.k n (fun i => t.obs.getD i 0) = Pf := ⟨_, rfl⟩
                    rw [hPf] at HRb HCh HSd
                    clear hsize hPf
                    go_upto_region 27 with fail
                    go_cut [13, 14] from 70 to 107 (fun ev bv wx => ev = .nilIface ∧ ∃ Bx pa pc, bv = .pointer (some ⟨Bx, 0, none⟩) ∧ RE w1 w6 wx ts size Bx g t.idx n pa pc (Pf t.idx))
                    case first =>
                      have HA : Hid (∀ V w8 pa pc, Below w6.heap.size w6 V → RR w1 w6 V w8 ts t.mb size pa pc (Pf t.idx) → RE w1 w6 (w8.alloc (.cells #[.int .u8 (g : Int), .int .i64 (t.idx : Int), .int .i64 (n : Int), .slice pa size pc] 60)) ts size w8.heap.size g t.idx n pa pc (Pf t.idx)) := fun V w8 pa pc h1 h2 => RR.fin1 h1 h2
                      have HBb : Hid (∀ V w8 pa pc Bx, Below w6.heap.size w6 V → w6.heap.size ≤ Bx → V.heap[Bx]? = some (.cells #[.int .u8 0, .int .i64 0, .int .i64 0, .slice none 0 0] 60 (0, 0)) → RR w1 w6 V w8 ts t.mb size pa pc (Pf t.idx) → RE w1 w6 (boxW w8 Bx g t.idx n (.slice pa size pc)) ts size Bx g t.idx n pa pc (Pf t.idx)) := fun V w8 pa pc Bx h1 h2 h3 h4 => RR.fin2 HT.out HTW6.out h1 h2 h3 h4 (heap_lt (HT.out.map t HMem.out).1)
                      unfold boxW at HBb
                      go_region_held3 (fun w' => w'.cell? ⟨B, 0, none⟩ = some (.pointer (some ⟨t.cb, 0, none⟩)) ∧ w'.cell? ⟨B, 3, none⟩ = some (.int .i64 (t.idx : Int)))
                        (first | go_keep | with_reducible exact ⟨(set4_cell (Nat.ne_of_lt hB7)).trans e0, (set4_cell (Nat.ne_of_lt hB7)).trans e3⟩ | with_reducible exact ⟨(set4_cell (Nat.ne_of_lt hBw6)).trans e0, (set4_cell (Nat.ne_of_lt hBw6)).trans e3⟩)
                        (first
                        | (go_at_call 20; refine (HCh.out _ (by first | with_reducible exact Below.refl _ _ | with_reducible exact (Below.refl _ _).drew | with_reducible exact (Below.refl _ _).alloc (Nat.le_refl _) _ | with_reducible exact ((Below.refl _ _).alloc (Nat.le_refl _) _).drew | with_reducible exact (Below.refl _ _).drew.alloc (Nat.le_refl _) _)).mono ?_; rintro r w7 ⟨cB, rfl, h1, h2, h3⟩; have H1 : Hid _ := h1; have H2 : Hid _ := h2; have HW : Hid (Below w6.heap.size w6 w7) := h3; have d0 : w7.cell? ⟨B, 0, none⟩ = some (.pointer (some ⟨t.cb, 0, none⟩)) := (Below.keeps h3 _ _ _ c0); have d3 : w7.cell? ⟨B, 3, none⟩ = some (.int .i64 (t.idx : Int)) := (Below.keeps h3 _ _ _ c3); have hB7 : B < w7.heap.size := (cell_lt d0); clear h1 h2 h3)
                        | (go_at_call 28; refine (HRb.out _ cB (by first | with_reducible exact HW.out | with_reducible exact HW.out.drew | with_reducible exact HW.out.alloc HW.out.size _ | with_reducible exact (HW.out.alloc HW.out.size _).drew | with_reducible exact HW.out.drew.alloc HW.out.size _) (by first | with_reducible exact H1.out | with_reducible exact H1.out.keeps (Below.keeps (Below.refl _ _).drew) | with_reducible exact H1.out.keeps (Below.keeps ((Below.refl _ _).alloc (Nat.le_refl _) _)) | with_reducible exact H1.out.keeps (Below.keeps ((Below.refl _ _).alloc (Nat.le_refl _) _).drew) | with_reducible exact H1.out.keeps (Below.keeps ((Below.refl _ _).drew.alloc (Nat.le_refl _) _)))).mono ?_; rintro r w8 ⟨pa, pc, rfl, h1⟩; have H3 : Hid _ := h1; have e0 : w8.cell? ⟨B, 0, none⟩ = some (.pointer (some ⟨t.cb, 0, none⟩)) := (h1.k6 _ _ _ c0); have e3 : w8.cell? ⟨B, 3, none⟩ = some (.int .i64 (t.idx : Int)) := (h1.k6 _ _ _ c3); have hB8 : B < w8.heap.size := (cell_lt e0); first | (with_reducible have hq := h1.bc w7.heap.size HW.out.size (heap_alloc_new w7 _); obtain ⟨fb0, fb1, fb2, fb3, ffb⟩ := hq; clear h1) | (with_reducible have hq := h1.bc w7.heap.size HW.out.size (heap_alloc_drew w7 _); obtain ⟨fb0, fb1, fb2, fb3, ffb⟩ := hq; clear h1) | (with_reducible have hq := h1.bc w6.heap.size (Nat.le_refl _) ((H2.out.block w6.heap.size (lt_alloc w6 _)).trans (heap_alloc_new w6 _)); obtain ⟨fb0, fb1, fb2, fb3, ffb⟩ := hq; clear h1) | (with_reducible have hq := h1.bc w6.heap.size (Nat.le_refl _) ((H2.out.block w6.heap.size (lt_alloc_drew w6 _)).trans (heap_alloc_drew w6 _)); obtain ⟨fb0, fb1, fb2, fb3, ffb⟩ := hq; clear h1) | clear h1))
                      all_goals
                        go_wp2
                        go_meet
                        first
                          | with_reducible exact ⟨rfl, w8.heap.size, pa, pc, rfl, HA.out _ w8 pa pc HW.out H3.out⟩
                          | with_reducible exact ⟨rfl, w7.heap.size, pa, pc, rfl, HBb.out _ w8 pa pc w7.heap.size (HW.out.alloc HW.out.size _) HW.out.size (heap_alloc_new w7 _) H3.out⟩
                          | with_reducible exact ⟨rfl, w6.heap.size, pa, pc, rfl, HBb.out _ w8 pa pc w6.heap.size HW.out (Nat.le_refl _) ((H2.out.block w6.heap.size (lt_alloc w6 _)).trans (heap_alloc_new w6 _)) H3.out⟩
                          | with_reducible exact ⟨rfl, w6.heap.size, pa, pc, rfl, HBb.out _ w8 pa pc w6.heap.size HW.out (Nat.le_refl _) ((H2.out.block w6.heap.size (lt_alloc_drew w6 _)).trans (heap_alloc_drew w6 _)) H3.out⟩
                          | with_reducible exact ⟨rfl, w7.heap.size, pa, pc, rfl, HBb.out _ w8 pa pc w7.heap.size (HW.out.alloc HW.out.size _).drew HW.out.size (heap_alloc_drew w7 _) H3.out⟩
                    case rest =>
                      obtain ⟨wy, hwy⟩ : ∃ x, x = wc := ⟨_, rfl⟩
                      subst hwy
                      obtain ⟨rfl, Bx, pa, pc, rfl, hp1, hp2, hfr, kx, hTWx, hszx, x0, x1, x2, x3⟩ := hcut
                      have y3 := kx _ _ _ c3
                      obtain ⟨hb', hbe, hrr⟩ := HSd.out.row (by rw [shL_len]; have := HN.out; omega)
                      obtain rfl : HS = hb' := congrArg (fun x : Option Addr => (x.getD ⟨0, 0, none⟩).block) hbe
                      have hiN : t.idx < N := by rw [← HN.out]; exact hidx
                      obtain ⟨r0, r1, r2, r3⟩ := hrr t.idx (by rw [shL_len]; exact hiN)
                      have hge : (shL N g n size pb po Pf)[t.idx]'(by rw [shL_len]; exact hiN) = mkSd g n size pb po Pf t.idx := by simp [shL]
                      rw [hge] at r0 r1 r2 r3
                      have z0 : wy.cell? ⟨HS, t.idx * 4, none⟩ = some (.int .u8 (g : Int)) := kx _ _ _ r0
                      have z1 : wy.cell? ⟨HS, t.idx * 4 + 1, none⟩ = some (.int .i64 (t.idx : Int)) := kx _ _ _ r1
                      have z2 : wy.cell? ⟨HS, t.idx * 4 + 2, none⟩ = some (.int .i64 (n : Int)) := kx _ _ _ r2
                      have z3 : wy.cell? ⟨HS, t.idx * 4 + 3, none⟩ = some (.slice (some ⟨pb t.idx, po t.idx, none⟩) size size) := kx _ _ _ r3
                      have hokS : SdOk wy (mkSd g n size pb po Pf t.idx) := (HSd.out.ok _ (by rw [← hge]; exact List.getElem_mem _)).keeps kx
                      have hokX : SdOk wy ⟨g, (t.idx : Int), (n : Int), pa, size, pc, Pf t.idx⟩ := ⟨hokS.hg, hokS.hix, hokS.hol, hfr, hp1, hp2⟩
                      have HSa : Hid (∀ V, (V = wy ∨ V = wy.drew) → Calls Tryd.prog 29 #[.agg #[.int .u8 (g : Int), .int .i64 (t.idx : Int), .int .i64 (n : Int), .slice pa size pc], .agg #[.int .u8 (g : Int), .int .i64 (t.idx : Int), .int .i64 (n : Int), .slice (some ⟨pb t.idx, po t.idx, none⟩) size size]] V fun e w' => e = .returned (.bool true) ∧ Below wy.heap.size wy w') := by
                        intro V hV
                        have hb : Below wy.heap.size wy V := by rcases hV with rfl | rfl; exact Below.refl _ _; exact (Below.refl _ _).drew
                        have hszV : V.heap.size = wy.heap.size := by rcases hV with rfl | rfl <;> rfl
                        refine (same_any ⟨g, (t.idx : Int), (n : Int), pa, size, pc, Pf t.idx⟩ (mkSd g n size pb po Pf t.idx) V (hokX.keeps (Below.keeps hb)) (hokS.keeps (Below.keeps hb)) (by show size ≤ _; omega) (by show size ≤ _; omega)).mono ?_
                        rintro e w' ⟨h1, h2⟩
                        refine ⟨h1.trans ?_, hb.trans (by rw [← hszV]; exact h2)⟩
                        exact congrArg (fun b => Ending.returned (.bool b)) (same_true ⟨rfl, rfl, rfl, rfl, fun _ _ => rfl⟩)
                      have HTWx : Hid (TW NoX w1 wy ts) := hTWx
                      have HKx : Hid (Keeps w5 wy) := HKp6.out.trans kx
                      have HSzx : Hid (w5.heap.size ≤ wy.heap.size) := by
                        have h1 := HS56.out
                        show w5.heap.size ≤ wy.heap.size
                        omega
                      have hiN' : (t.idx : Int) < (N : Int) := by omega
                      clear hfr kx hTWx hokS hokX r0 r1 r2 r3 hrr hbe hge
                      go_upto_region 28 with fail
                      go_cut [106] from 70 to 107 (fun bv wx => bv = .bool false ∧ Below wy.heap.size wy wx)
                      case first =>
                        go_region_with (go_at_call 29; refine (HSa.out _ (by first | exact .inl rfl | exact .inr rfl)).mono ?_; rintro r w9 ⟨rfl, h1⟩; have H1 : Hid (Below wy.heap.size wy w9) := h1; clear h1)
                        all_goals
                          go_wp2
                          go_meet
                          exact ⟨rfl, H1.out⟩
                      case rest =>
                        obtain ⟨rfl, hbx⟩ := hcut
                        have HF : Hid (Keeps w5 wc ∧ TW NoX w1 wc ts ∧ w5.heap.size ≤ wc.heap.size) := ⟨HKx.out.trans (Below.keeps hbx), HTWx.out.belowStep hbx, Nat.le_trans HSzx.out hbx.size⟩
                        clear hbx
                        go_wp2
                        go_roundw
                        case rel => exact ⟨q + 1, by omega, by go_num, HF.out⟩
                        case measure => simp [intOf]; omega
                  · have hlq' : ¬ (q : Int) < 3 := by omega
                    clear kq hTWq
                    go_wp2
                    go_roundw
                    case rel => exact ⟨j + 1, by omega, by go_num, HTWq.out⟩
                    case measure => simp [intOf]; omega
      · have hlt' : ¬ (j : Int) < (ts.length : Int) := by omega
        have HB : Hid (Below w.heap.size w w2) := hTW.fin HT.out
        clear hTW
        go_wp2
        go_ret
        exact ⟨rfl, HB.out⟩
end Go.Proofs.Qxb6500697aDoor
