/-
  THE WALK OF trials.
-/
import Derived.Test.Qxb6500697aDoorKTrials
import Derived.Deep.Cut
import Derived.Deep.CutRange
namespace Go.Proofs.Qxb6500697aDoor
open Go.RowKit

/-- The blocks that the call has made, but for the slice v's own. -/
def FB (B : Nat) (v : Value) : Nat → Prop := fun b => B ≤ b ∧ v.ownBlock ≠ some b

theorem own_keep {w w' : World} {base : Nat} {e : TypeId} {s : Nat} {v : Value} {n : Nat} {xs : List Value} (h : w.ownsRow base e s v n xs) (hk : ∀ g, v.ownBlock = some g → w'.heap[g]? = w.heap[g]?) : w'.ownsRow base e s v n xs := by
  refine ⟨h.1, ?_⟩
  rcases h.2 with h1 | ⟨g, cap, cur, hv, hbg, hg, h2⟩
  · exact .inl h1
  · exact .inr ⟨g, cap, cur, hv, hbg, (hk g (by rw [hv]; rfl)).trans hg, h2⟩
theorem Seen.mono {w : World} {b n n' : Nat} {S : Nat → Bool} (h : Seen w b n S) (hn : n ≤ n') : Seen w b n' S := by
  obtain ⟨D, h1, h2⟩ := h
  exact ⟨D, h1.mono hn, h2⟩
theorem Seen.congr {w : World} {b n : Nat} {S S' : Nat → Bool} (h : Seen w b n S) (e : ∀ i, S i = S' i) : Seen w b n S' := by
  obtain ⟨D, h1, h2⟩ := h
  exact ⟨D, h1, fun i hi => by rw [h2 i hi, e i]⟩

theorem sub_step {Wa w3 w4 : World} {Bt cb idx q : Nat} {x : KOp} {ov sv v' : Value} {S : Nat → Bool} {ns : List Nat} {o : Obj} (hT : TBlk w3 Bt cb x ov sv idx) (hS : Seen w3 (Bt + 1) q S) (hsv : ∀ g, sv.ownBlock = some g → Bt + 2 ≤ g) (hsz : Bt + 2 ≤ w3.heap.size) (hb : Below Bt Wa w3)
    (g1 : w4.ownsRow (Bt + 2) 3 1 v' ns.length (ns.map fun y => Value.int .i64 ((y : Nat) : Int))) (g2 : (w3.alloc o).grownBy w4 sv.ownBlock) :
    TBlk w4 Bt cb x ov sv idx ∧ TBlk (w4.setCell ⟨Bt, 2, none⟩ v') Bt cb x ov v' idx ∧ (w4.setCell ⟨Bt, 2, none⟩ v').ownsRow (Bt + 2) 3 1 v' ns.length (ns.map fun y => Value.int .i64 ((y : Nat) : Int)) ∧
      Seen (w4.setCell ⟨Bt, 2, none⟩ v') (Bt + 1) q S ∧ Below Bt Wa (w4.setCell ⟨Bt, 2, none⟩ v') ∧ Bt + 2 ≤ (w4.setCell ⟨Bt, 2, none⟩ v').heap.size := by
  have kb : ∀ k, k < Bt + 2 → w4.heap[k]? = w3.heap[k]? := fun k hk => (g2.block k (by simp; omega) (fun e => by have := hsv k e.symm; omega)).trans (Below.heap_alloc _ _ _ (by omega))
  have hs4 : Bt + 2 ≤ w4.heap.size := by have := g2.size; simp at this; omega
  have t4 := hT.of_block (kb Bt (by omega))
  have hb4 : Below Bt Wa w4 := (hb.alloc (by omega) o).grown g2 (by simp; omega) (fun k hk => by have := hsv k hk; omega)
  refine ⟨t4, t4.set2 v', own_keep g1 (fun g hg => Below.heap_setCell _ _ _ _ (fun e => ?_)), (hS.of_block (kb (Bt + 1) (by omega))).of_block (Below.heap_setCell _ _ _ _ (by simp)), hb4.setCell (p := ⟨Bt, 2, none⟩) (Nat.le_refl _) _, by simpa [World.setCell] using hs4⟩
  have h1 := (g1.lt g hg).1
  have h2 : g = Bt := e
  omega

theorem Tryd.info45 : (Tryd.prog.info? 45).map (fun i => (i.zero, i.size, i.bytes)) = some (some (.agg #[.pointer none, .slice none 0 0, .slice none 0 0, .int .i64 0, .int .u8 0, .int .i64 0, .int .i64 0, .int .u8 0, .slice none 0 0, .slice none 0 0, .int .i64 0, .int .u8 0, .int .i64 0, .int .u8 0]), 14, 176) := by kernel_rfl

theorem Cur.push {W w' : World} {B : Nat} {v v' : Value} {cb mb k m : Nat} (h : Cur W (FB B v) cb mb k m) (h3 : W.grownBy w' v.ownBlock) (h5 : v'.ownBlock = v.ownBlock ∨ v'.ownBlock = some W.heap.size) : Cur w' (FB B v') cb mb k m := by
  have ne : ∀ b, b < W.heap.size → v.ownBlock ≠ some b → v'.ownBlock ≠ some b := by
    intro b hb hne
    rcases h5 with h5 | h5
    · rw [h5]; exact hne
    · rw [h5]; intro e; have e : W.heap.size = b := by simpa using e
      omega
  refine ⟨?_, (h3.block mb (heap_lt h.map) (fun e => h.fm.2 e.symm)).trans h.map, h.fm.1, ne mb (heap_lt h.map) h.fm.2⟩
  have h1 := h.codec.mono (F' := fun b => B ≤ b ∧ v.ownBlock ≠ some b ∧ v'.ownBlock ≠ some b) (fun b hb hF => ⟨hF.1, hF.2, ne b hb hF.2⟩)
  have h2 := h1.keep (w' := w') (fun b hF hl => h3.block b hl (fun e => hF.2.1 e.symm))
  exact h2.mono (fun b _ hF => ⟨hF.1, hF.2.2⟩)

theorem cells_one (t : Tr) : ∀ u ∈ t.cells, u.oneCell' = true := by
  intro u hu
  simp [Tr.cells, KOp.cells] at hu
  rcases hu with rfl | rfl | rfl | rfl | rfl | rfl | rfl | rfl | rfl | rfl | rfl | rfl | rfl | rfl <;> rfl

theorem wpList_append_trial (W : World) {ops : Array Oper} {rest : List Oper} {o : Oper} {a : Act} {Q : Exit → Act → World → Prop} (hgd : o.guard = none) (s x : Operand)
    (ho : o.op = .call { callee := .builtin .append, args := #[s, x], argTypes := #[41, 41] })
    (w0 : World) (v : Value) (ts : List Tr) (hs : a.eval s = v) (hT : TOut w0 W v ts) (hlen : ts.length ≤ 65536)
    (g c : Nat) (hx : a.eval x = .slice (some ⟨g, 0, none⟩) 1 c) (t : Tr) (hblk : W.heap[g]? = some (.cells t.cells.toArray 45 (0, 0)))
    (hok : TrOk W w0.heap.size (fun b => w0.heap.size ≤ b ∧ v.ownBlock ≠ some b) t) (hmap : W.heap[t.mb]? = some (.map #[] 0) ∧ w0.heap.size ≤ t.mb ∧ v.ownBlock ≠ some t.mb) (hsame : ∀ t' ∈ ts, t'.mb = t.mb → t'.cb = t.cb ∧ t'.k = t.k ∧ t'.m = t.m)
    (h : ∀ v' w', TOut w0 w' v' (ts ++ [t]) → W.grownBy w' v.ownBlock → (v'.ownBlock = v.ownBlock ∨ v'.ownBlock = some W.heap.size) → wpList Tryd.prog ops Q rest (a.put o.dst v') w') :
    wpList Tryd.prog ops Q (o :: rest) a W := by
  obtain ⟨i0, hi, hzz⟩ := Option.map_eq_some_iff.1 Tryd.info45
  simp only [Prod.mk.injEq] at hzz
  obtain ⟨hz0, hz1, hz2⟩ := hzz
  refine wpList_append_own_at W hgd s x 41 ho w0.heap.size 45 i0 _ 14 176 Tryd.underlying41 hi hz0 hz1 hz2 rfl (by decide) v ts.length _ hs hT.own ⟨g, 0, none⟩ 1 c t.cells hx (by rfl)
    (by
      intro j y hj
      have e : (⟨g, 0, none⟩ : Addr).add j = ⟨g, 0 + j, none⟩ := by unfold Addr.add; split <;> simp_all
      rw [e]
      simp only [World.cell?, hblk, Nat.zero_add]
      simpa using hj) (cells_one t) (by unfold maxLen; omega) (by omega) hT.bel.size ?_
  intro v' w' h2 h3 _ h5
  exact h v' w' (hT.push hok hmap hsame h2 h3 h5) h3 h5

set_option maxRecDepth 100000 in
set_option maxHeartbeats 4000000 in
theorem trials_any (N : Nat) (ops : List KOp) (ao : Option Addr) (cap : Nat) (w : World) (e : Nat → Addr) (E : KErrs N w e) (hN : 0 < N) (hs : KScript w ao ops) (hn : ops.length ≤ 65536) (hb : ∀ x ∈ ops, x.bs.length ≤ 65536 ∧ x.pick.length ≤ 65536) :
    Calls Tryd.prog 17 #[.slice ao ops.length cap] w fun r w' => ∃ v ts, r = .returned v ∧ TOut w w' v ts ∧ ts.length = ops.length := by
  have HE : Hid (KErrs N w e) := E
  have HS : Hid (KScript w ao ops) := hs
  have HBo : Hid (∀ x ∈ ops, x.bs.length ≤ 65536 ∧ x.pick.length ≤ 65536) := hb
  have HN : Hid _ := new_ok 4 2 w (by omega) (by omega) (by omega)
  rw [show (((4 : Nat)) : Int) = 4 from rfl, show (((2 : Nat)) : Int) = 2 from rfl] at HN
  have hI : Tryd.prog.isIface 48 = true := by kernel_rfl
  clear E hs hb
  go_enter Tryd.func17, Tryd.ntmps17
  go_wp2_with fail
  refine Calls.mono HN.out ?_
  rintro r w1 ⟨hb1, rfl, hc1, hm1⟩
  have HT0 : Hid (TOut w w1 (.slice none 0 0) []) := (TOut.nil w).below hb1
  have HC0 : Hid (Cur w1 (FB w.heap.size (.slice none 0 0)) (w.heap.size + 1) w.heap.size 4 2) := ⟨hc1.mono (fun b _ hF => ⟨hF, by simp [Value.ownBlock]⟩), hm1, ⟨Nat.le_refl _, by simp [Value.ownBlock]⟩⟩
  clear hb1 hc1 hm1 HN
  go_wp2
  go_loopw [3, 5, 21] (fun c v i wr => ∃ (j : Nat) (ts : List Tr) (cb mb k m : Nat), j ≤ ops.length ∧ i = .int .i64 j ∧ ts.length = j ∧ c = .pointer (some ⟨cb, 0, none⟩) ∧ TOut w wr v ts ∧ Cur wr (FB w.heap.size v) cb mb k m ∧ ∀ t ∈ ts, t.mb = mb → t.cb = cb ∧ t.k = k ∧ t.m = m) (fun _ _ i _ => ops.length - (intOf i).toNat)
  case atStart => exact ⟨0, [], _, _, 4, 2, Nat.zero_le _, rfl, rfl, rfl, HT0.out, HC0.out, by simp⟩
  case round =>
    obtain ⟨j, ts, cb, mb, k, m, hj, rfl, htl, rfl, hT, hC, hsame⟩ := hrel
    clear HT0 HC0
    by_cases hlt : j < ops.length
    · obtain ⟨b, o, rfl, hop⟩ := HS.out (ne_nil_of_lt hlt)
      have hx := (hop j hlt).same (w' := wr) (fun b o' hb => hT.bel.cell (p := ⟨b, o', none⟩) hb)
      have hx0 := hop j hlt
      obtain ⟨hbl, hpl⟩ := HBo.out (ops.getD j KOp.zero) (getD_mem hlt)
      clear hop
      generalize ops.getD j KOp.zero = x at *
      have k0 := hx.c0
      have k1 := hx.c1
      have k2 := hx.c2
      have k3 := hx.c3
      have k4 := hx.c4
      have k5 := hx.c5
      have k6 := hx.c6
      have k7 := hx.c7
      have k8 := hx.c8
      have k9 := hx.c9
      have hlt' : (j : Int) < (ops.length : Int) := by omega
      obtain ⟨ob, hob⟩ : ∃ ob, Obj.cells #[.int .u8 x.kind, .int .i64 x.k, .int .i64 x.m, .int .u8 x.gen, .slice x.da x.bs.length x.dc, .slice x.pa x.pick.length x.pc, .int .i64 x.index, .int .u8 x.field, .int .i64 x.value, .int .u8 x.mask] 34 = ob := ⟨_, rfl⟩
      obtain ⟨W, hW⟩ : ∃ W, wr.alloc ob = W := ⟨_, rfl⟩
      have hbW : Below wr.heap.size wr W := by rw [← hW]; exact (Below.refl _ _).alloc (Nat.le_refl _) ob
      have hBlk : W.heap[wr.heap.size]? = some (.cells #[.int .u8 x.kind, .int .i64 x.k, .int .i64 x.m, .int .u8 x.gen, .slice x.da x.bs.length x.dc, .slice x.pa x.pick.length x.pc, .int .i64 x.index, .int .u8 x.field, .int .i64 x.value, .int .u8 x.mask] 34 (0, 0)) := by rw [← hW, ← hob]; exact heap_alloc_new wr _
      have hWsz : W.heap.size = wr.heap.size + 1 := by rw [← hW]; simp
      have b0 : W.cell? ⟨wr.heap.size, 0, none⟩ = some (.int .u8 x.kind) := by simp [World.cell?, hBlk]
      have b1 : W.cell? ⟨wr.heap.size, 1, none⟩ = some (.int .i64 x.k) := by simp [World.cell?, hBlk]
      have b2 : W.cell? ⟨wr.heap.size, 2, none⟩ = some (.int .i64 x.m) := by simp [World.cell?, hBlk]
      have HTW : Hid (TOut w W u5 ts) := hT.below hbW
      have HCW : Hid (Cur W (FB w.heap.size u5) cb mb k m) := ⟨hC.codec.below hbW, (hbW.block _ (heap_lt hC.map)).trans hC.map, hC.fm⟩
      have HBlk : Hid _ := hBlk
      have HX0 : Hid (KOpAt w b (o + j * 10) x) := hx0
      have HSM : Hid (∀ t ∈ ts, t.mb = mb → t.cb = cb ∧ t.k = k ∧ t.m = m) := hsame
      have hvl : Hid (∀ g, u5.ownBlock = some g → g < wr.heap.size) := fun g hg => (hT.own.lt g hg).2
      have hsw : w.heap.size ≤ wr.heap.size := hT.bel.size
      have HBW : Hid (Below wr.heap.size wr W) := hbW
      have HEW : Hid (KErrs N W e) := (HE.out.below hT.bel).below hbW
      have hk1 := hx0.hk
      have hk2 := hx0.hm
      obtain ⟨hka, hkb⟩ := hk1
      obtain ⟨hma, hmb⟩ := hk2
      clear hT hC hx hx0 hsame hbW hBlk
      go_upto_if 27 with fail
      clear k0 k1 k2 k3 k4 k5 k6 k7 k8 k9 hob hW
      go_cut [3] from 22 to 86 (fun c wc => ∃ cb mb k m, c = .pointer (some ⟨cb, 0, none⟩) ∧ TOut w wc u5 ts ∧ Cur wc (FB w.heap.size u5) cb mb k m ∧ (∀ t ∈ ts, t.mb = mb → t.cb = cb ∧ t.k = k ∧ t.m = m) ∧
          wc.heap[wr.heap.size]? = some (.cells #[.int .u8 x.kind, .int .i64 x.k, .int .i64 x.m, .int .u8 x.gen, .slice x.da x.bs.length x.dc, .slice x.pa x.pick.length x.pc, .int .i64 x.index, .int .u8 x.field, .int .i64 x.value, .int .u8 x.mask] 34 (0, 0)) ∧ Below (wr.heap.size + 1) W wc)
      case first =>
        by_cases hkind : x.kind = 0
        · have hkind' : ((x.kind : Int) == 0) = true := by simp; omega
          cases hg : geo x.k x.m with
          | false =>
            have HNB : Hid _ := new_bad N x.k x.m e W HEW.out hN hka hkb hma hmb hg
            clear hg
            go_wp2_with fail
            refine Calls.mono HNB.out ?_
            rintro r w2 ⟨rfl, q, rfl⟩
            have hEV : errV e (some 0) = .iface 186 (.pointer (some (e 0))) := rfl
            rw [hEV]
            clear hEV
            go_wp2
            go_meet
            exact ⟨cb, mb, k, m, rfl, HTW.out.below (drewN_below _ _ _), ⟨HCW.out.codec.below (drewN_below _ _ _), HCW.out.map, HCW.out.fm⟩, HSM.out, HBlk.out, drewN_below _ _ _⟩
          | true =>
            have hg' := of_decide_eq_true hg
            obtain ⟨k', hk'⟩ : ∃ k' : Nat, x.k = k' := ⟨x.k.toNat, by omega⟩
            obtain ⟨m', hm'⟩ : ∃ m' : Nat, x.m = m' := ⟨x.m.toNat, by omega⟩
            have HNG : Hid _ := new_ok k' m' W (by omega) (by omega) (by omega)
            rw [← hk', ← hm'] at HNG
            clear hg hg' hk' hm'
            go_wp2_with fail
            refine Calls.mono HNG.out ?_
            rintro r w2 ⟨hb2, rfl, hc2, hm2⟩
            have HT2 : Hid (TOut w w2 u5 ts) := HTW.out.below hb2
            have HC2 : Hid (Cur w2 (FB w.heap.size u5) (W.heap.size + 1) W.heap.size k' m') :=
              ⟨hc2.mono (fun b _ hF => by
                have hF : W.heap.size ≤ b := hF
                exact ⟨by omega, fun e => by have := hvl.out b e; omega⟩), hm2, ⟨by omega, fun e => by have := hvl.out _ e; omega⟩⟩
            have HS2 : Hid (∀ t ∈ ts, t.mb = W.heap.size → t.cb = W.heap.size + 1 ∧ t.k = k' ∧ t.m = m') := fun t ht e => by
              have := heap_lt (HTW.out.map t ht).1
              omega
            have HB2 : Hid (Below (wr.heap.size + 1) W w2) := by
              have h : Below (wr.heap.size + 1) W w2 := by rw [← hWsz]; exact hb2
              exact h
            clear hb2 hc2 hm2
            go_wp2
            go_meet
            exact ⟨W.heap.size + 1, W.heap.size, k', m', by rw [hWsz], HT2.out, HC2.out, HS2.out, (HB2.out.block _ (Nat.lt_succ_self _)).trans HBlk.out, HB2.out⟩
        · have hkind' : ((x.kind : Int) == 0) = false := by simp; omega
          go_wp2
          go_meet
          exact ⟨cb, mb, k, m, rfl, HTW.out, HCW.out, HSM.out, HBlk.out, Below.refl _ _⟩
      case rest =>
        clear HTW HCW HSM HBlk HEW HBW b0 b1 b2 hka hkb hma hmb
        obtain ⟨cb, mb, k, m, rfl, hT, hC, hsame, hBlk, hbc⟩ := hcut
        obtain ⟨Wa, hWa⟩ : ∃ Wa, Wa = wc := ⟨_, rfl⟩
        subst hWa
        have HTa : Hid (TOut w Wa u5 ts) := hT
        have HCa : Hid (Cur Wa (FB w.heap.size u5) cb mb k m) := hC
        have HSM : Hid (∀ t ∈ ts, t.mb = mb → t.cb = cb ∧ t.k = k ∧ t.m = m) := hsame
        have hasz : wr.heap.size + 1 ≤ Wa.heap.size := by have := hbc.size; omega
        have b0 : Wa.cell? ⟨wr.heap.size, 0, none⟩ = some (.int .u8 x.kind) := by simp [World.cell?, hBlk]
        have b1 : Wa.cell? ⟨wr.heap.size, 1, none⟩ = some (.int .i64 x.k) := by simp [World.cell?, hBlk]
        have b2 : Wa.cell? ⟨wr.heap.size, 2, none⟩ = some (.int .i64 x.m) := by simp [World.cell?, hBlk]
        have b3 : Wa.cell? ⟨wr.heap.size, 3, none⟩ = some (.int .u8 x.gen) := by simp [World.cell?, hBlk]
        have b4 : Wa.cell? ⟨wr.heap.size, 4, none⟩ = some (.slice x.da x.bs.length x.dc) := by simp [World.cell?, hBlk]
        have b5 : Wa.cell? ⟨wr.heap.size, 5, none⟩ = some (.slice x.pa x.pick.length x.pc) := by simp [World.cell?, hBlk]
        have b6 : Wa.cell? ⟨wr.heap.size, 6, none⟩ = some (.int .i64 x.index) := by simp [World.cell?, hBlk]
        have b7 : Wa.cell? ⟨wr.heap.size, 7, none⟩ = some (.int .u8 x.field) := by simp [World.cell?, hBlk]
        have b8 : Wa.cell? ⟨wr.heap.size, 8, none⟩ = some (.int .i64 x.value) := by simp [World.cell?, hBlk]
        have b9 : Wa.cell? ⟨wr.heap.size, 9, none⟩ = some (.int .u8 x.mask) := by simp [World.cell?, hBlk]
        have hkm1 := hC.codec.hk
        have hkm2 := hC.codec.hm
        have hkm3 := hC.codec.hn
        have HNn : Hid (∀ W, Below Wa.heap.size Wa W → Calls Tryd.prog 19 #[.pointer (some ⟨cb, 0, none⟩)] W fun r w' => r = .returned (.int .i64 ((k + m : Nat) : Int)) ∧ w' = W.drew) := fun W hW => codecN_drew _ _ cb mb k m (hC.codec.below hW)
        obtain ⟨hia, hib⟩ := HX0.out.hindex
        obtain ⟨n, hkmn⟩ : ∃ n, k + m = n := ⟨_, rfl⟩
        have HPl : Hid (∀ W, Calls Tryd.prog 27 #[.int .i64 x.index, .int .i64 n] W fun r w' => r = .returned (.int .i64 ((place x.index n : Nat) : Int)) ∧ w' = W) := fun W => place_any x.index n W (by omega) (by omega) hia hib
        rw [hkmn] at HNn
        have HKM : Hid (k + m = n) := hkmn
        have HBlk : Hid _ := hBlk
        have HBc : Hid (Below (wr.heap.size + 1) W Wa) := hbc
        clear hT hC hsame hBlk hbc hkmn
        go_wp2
        go_cut [10] from 22 to 86 (fun tv wc => tv = .pointer (some ⟨Wa.heap.size, 0, none⟩) ∧ TBlk wc Wa.heap.size cb x (.slice x.da x.bs.length x.dc) (.slice none 0 0) (place x.index n) ∧ Below Wa.heap.size Wa wc ∧ wc.heap.size = Wa.heap.size + 1)
        case first =>
          go_region_held3 (fun w' => w'.cell? ⟨wr.heap.size, 0, none⟩ = some (.int .u8 x.kind) ∧ w'.cell? ⟨wr.heap.size, 1, none⟩ = some (.int .i64 x.k) ∧ w'.cell? ⟨wr.heap.size, 2, none⟩ = some (.int .i64 x.m) ∧ w'.cell? ⟨wr.heap.size, 3, none⟩ = some (.int .u8 x.gen) ∧ w'.cell? ⟨wr.heap.size, 4, none⟩ = some (.slice x.da x.bs.length x.dc) ∧ w'.cell? ⟨wr.heap.size, 5, none⟩ = some (.slice x.pa x.pick.length x.pc) ∧ w'.cell? ⟨wr.heap.size, 6, none⟩ = some (.int .i64 x.index) ∧ w'.cell? ⟨wr.heap.size, 7, none⟩ = some (.int .u8 x.field) ∧ w'.cell? ⟨wr.heap.size, 8, none⟩ = some (.int .i64 x.value) ∧ w'.cell? ⟨wr.heap.size, 9, none⟩ = some (.int .u8 x.mask))
            (first | go_keep)
            (first
              | (go_at_call 27; refine (HPl.out _).mono ?_; rintro r w4 ⟨rfl, hw⟩; subst hw)
              | (go_at_call 19; refine (HNn.out _ (by first | exact ((Below.refl _ _).alloc (Nat.le_refl _) _).drew | exact (Below.refl _ _).drew.alloc (Nat.le_refl _) _ | exact (Below.refl _ _).drew)).mono ?_; rintro r w3 ⟨rfl, hw⟩; subst hw))
          all_goals
            go_wp2
            go_meet
            exact ⟨rfl, heap_alloc_new Wa _, ((Below.refl _ _).alloc (Nat.le_refl _) _).drew.drew, by simp⟩
        case rest =>
          clear b0 b1 b2 b3 b4 b6 b7 b8 b9 HNn HPl
          obtain ⟨rfl, hTB, hbb, hbs⟩ := hcut
          obtain ⟨Wb, hWb⟩ : ∃ Wb, Wb = wc := ⟨_, rfl⟩
          subst hWb
          obtain ⟨Bt, hBt⟩ : ∃ Bt, Wa.heap.size = Bt := ⟨_, rfl⟩
          rw [hBt] at hTB hbb hbs hasz ⊢
          have c1 := hTB.c1
          have fr1 := hTB.fr 1
          have HTB : Hid (TBlk Wb Bt cb x (.slice x.da x.bs.length x.dc) (.slice none 0 0) (place x.index n)) := hTB
          have HBb : Hid (Below Bt Wa Wb) := hbb
          have HBT : Hid (Wa.heap.size = Bt) := hBt
          have hdc := HX0.out.cap
          have hdc2 := HX0.out.cap2
          unfold maxLen at hdc2
          clear hTB hbb hBt
          go_upto_if 52 with fail
          go_cut [] from 22 to 86 (fun wc => ∃ obs, TBlk wc Bt cb x (.slice x.da obs x.dc) (.slice none 0 0) (place x.index n) ∧ obs = (x.bs.take 256).length ∧ Below Bt Wa wc ∧ wc.heap.size = Bt + 1)
          case first =>
            by_cases hbig : 256 < x.bs.length
            · have hbig' : (256 : Int) < (x.bs.length : Int) := by omega
              have hdc3 : (256 : Int) ≤ (x.dc : Int) := by omega
              go_wp2
              go_meet
              exact ⟨256, HTB.out.set1 _, by simp; omega, HBb.out.setCell (p := ⟨Bt, 1, none⟩) (Nat.le_refl _) _, by rw [← hbs]; simp [World.setCell]⟩
            · have hbig' : ¬ (256 : Int) < (x.bs.length : Int) := by omega
              go_wp2
              go_meet
              exact ⟨x.bs.length, HTB.out, by simp; omega, HBb.out, hbs⟩
          case rest =>
            obtain ⟨ol, hTB, hol, hbb, hbs2⟩ := hcut
            clear c1 fr1 HTB HBb hbs
            obtain ⟨Wd, hWd⟩ : ∃ Wd, Wd = wc := ⟨_, rfl⟩
            subst hWd
            obtain ⟨Bo, hBo⟩ : ∃ Bo, wr.heap.size = Bo := ⟨_, rfl⟩
            rw [hBo] at hasz b5 ⊢
            have hmm := @run_makeMap Tryd.prog
            obtain ⟨We, hWe⟩ : ∃ We, Wd.alloc (.map #[] 0) = We := ⟨_, rfl⟩
            have HTBe : Hid (TBlk We Bt cb x (.slice x.da ol x.dc) (.slice none 0 0) (place x.index n)) := hTB.of_block (by rw [← hWe]; exact Below.heap_alloc _ _ _ (by omega))
            have HBe : Hid (Below Bt Wa We) := by
              have h : Below Bt Wa We := by rw [← hWe]; exact hbb.alloc (by omega) _
              exact h
            have HSe : Hid (Seen We (Bt + 1) 0 (fun j => decide (j ∈ ([] : List Nat)))) := by
              have h := Seen.made Wd
              rw [hWe, hbs2] at h
              exact h
            have hes : We.heap.size = Bt + 2 := by rw [← hWe]; simp; omega
            have b5e : We.cell? ⟨Bo, 5, none⟩ = some (.slice x.pa x.pick.length x.pc) := (HBe.out.cell (p := ⟨Bo, 5, none⟩) (by show Bo < Bt; omega)).trans b5
            have HOL : Hid (ol = (x.bs.take 256).length) := hol
            have HBlk5 : Hid (Wa.cell? ⟨Bo, 5, none⟩ = some (.slice x.pa x.pick.length x.pc)) := b5
            have hBo' : Bo < Bt := by omega
            clear hTB hbb hol b5 hBo
            go_wp2
            clear hmm hWe
            go_loopw [61] (fun i wr2 => ∃ (q : Nat) (acc : List Nat) (sv : Value), q ≤ x.pick.length ∧ i = .int .i64 q ∧ TBlk wr2 Bt cb x (.slice x.da ol x.dc) sv (place x.index n) ∧ wr2.ownsRow (Bt + 2) 3 1 sv acc.length (acc.map fun y => Value.int .i64 ((y : Nat) : Int)) ∧ Seen wr2 (Bt + 1) q (fun j => decide (j ∈ acc)) ∧ acc.length ≤ q ∧ acc.Nodup ∧ (∀ y ∈ acc, y < n) ∧ Below Bt Wa wr2 ∧ Bt + 2 ≤ wr2.heap.size) (fun i _ => x.pick.length - (intOf i).toNat)
            case atStart => exact ⟨0, [], .slice none 0 0, Nat.zero_le _, rfl, HTBe.out, by simpa using World.ownsRow_nil We (Bt + 2) 3 1, HSe.out, Nat.le_refl _, List.nodup_nil, by simp, HBe.out, by omega⟩
            case round =>
              obtain ⟨q, acc, sv, hq, rfl, hTB, hown, hseen, hal, hnd, hlt2, hbel, hsz2⟩ := hrel
              clear HTBe HBe HSe b5e
              by_cases hqp : q < x.pick.length
              · obtain ⟨pb, po, hpa, hpc⟩ := HX0.out.pk.row (ne_nil_of_lt hqp)
                have hpq := hpc q hqp
                have hwf := HX0.out.pk.wf (x.pick.getD q 0) (getD_mem hqp)
                obtain ⟨hwf1, hwf2⟩ := hwf
                have hsw2 := HTa.out.bel.size
                have hBT := HBT.out
                have hpq2 : wr.cell? ⟨pb, po + q, none⟩ = some (.int .i64 (x.pick.getD q 0)) := (hbel.cell (p := ⟨pb, po + q, none⟩) (by have := cell_lt hpq; show pb < Bt; omega)).trans ((HTa.out.bel.cell (p := ⟨pb, po + q, none⟩) (cell_lt hpq)).trans hpq)
                have b5r : wr.cell? ⟨Bo, 5, none⟩ = some (.slice x.pa x.pick.length x.pc) := (hbel.cell (p := ⟨Bo, 5, none⟩) (by show Bo < Bt; omega)).trans ((HBlk5.out))
                rw [hpa] at b5r ⊢
                have HNn : Hid _ := codecN_drew wr _ cb mb k m (HCa.out.codec.below (by rw [hBT]; exact hbel))
                rw [HKM.out] at HNn
                generalize x.pick.getD q 0 = pz at *
                have hn16 : n ≤ 16 := by have := HKM.out; omega
                have hn1 : 0 < n := by have := HKM.out; omega
                have HPl : Hid _ := place_any pz n wr.drew hn1 (by omega) hwf1 hwf2
                have hpl := place_lt pz n hn1
                obtain ⟨p, hp⟩ : ∃ p, place pz n = p := ⟨_, rfl⟩
                rw [hp] at HPl hpl
                have hseenD : Seen wr.drew (Bt + 1) q (fun j => decide (j ∈ acc)) := hseen.of_block rfl
                have hlook := hseenD.look (i := p) (by omega)
                have hqp' : (q : Int) < (x.pick.length : Int) := by omega
                clear hp hpq hpc hwf1 hwf2
                by_cases hin : p ∈ acc
                · rw [decide_eq_true hin] at hlook
                  have HF : Hid (TBlk wr.drew Bt cb x (.slice x.da ol x.dc) sv (place x.index n) ∧ wr.drew.ownsRow (Bt + 2) 3 1 sv acc.length (acc.map fun y => Value.int .i64 ((y : Nat) : Int)) ∧ Seen wr.drew (Bt + 1) (q + 1) (fun j => decide (j ∈ acc)) ∧ acc.length ≤ q + 1 ∧ acc.Nodup ∧ (∀ y ∈ acc, y < n) ∧ Below Bt Wa wr.drew ∧ Bt + 2 ≤ wr.drew.heap.size) :=
                    ⟨hTB, hown, hseenD.mono (by omega), by omega, hnd, hlt2, hbel.drew, hsz2⟩
                  clear hTB hown hseen hnd hlt2 hbel hseenD
                  go_wp2_with fail
                  refine Calls.mono HNn.out ?_
                  rintro r w3 ⟨rfl, hw⟩
                  subst hw
                  go_wp2_with fail
                  refine Calls.mono HPl.out ?_
                  rintro r w3 ⟨rfl, hw⟩
                  subst hw
                  go_wp2
                  go_roundw
                  case rel => exact ⟨q + 1, acc, sv, by omega, by go_num, HF.out⟩
                  case measure => simp [intOf]; omega
                · rw [decide_eq_false hin] at hlook
                  have HSd : Hid (Seen wr.drew (Bt + 1) q (fun j => decide (j ∈ acc))) := hseenD
                  have HTB : Hid (TBlk wr.drew Bt cb x (.slice x.da ol x.dc) sv (place x.index n)) := hTB
                  have HOw : Hid (wr.drew.ownsRow (Bt + 2) 3 1 sv acc.length (acc.map fun y => Value.int .i64 ((y : Nat) : Int))) := hown
                  have HBel : Hid (Below Bt Wa wr.drew) := hbel.drew
                  have HND : Hid (acc ++ [p]).Nodup := by
                    have h : (acc ++ [p]).Nodup := by
                      rw [List.nodup_append]
                      refine ⟨hnd, by simp, ?_⟩
                      intro a ha b hb
                      have : b = p := by simpa using hb
                      rw [this]; exact fun e => hin (e ▸ ha)
                    exact h
                  have HL2 : Hid (∀ y ∈ acc ++ [p], y < n) := by
                    intro y hy
                    rcases List.mem_append.1 hy with hy | hy
                    · exact hlt2 y hy
                    · have : y = p := by simpa using hy
                      omega
                  have hsvb : Hid (∀ g, sv.ownBlock = some g → Bt + 2 ≤ g ∧ g < wr.heap.size) := fun g hg => hown.lt g hg
                  clear hTB hown hseen hnd hlt2 hbel hseenD
                  go_wp2_with fail
                  refine Calls.mono HNn.out ?_
                  rintro r w3 ⟨rfl, hw⟩
                  subst hw
                  go_wp2_with fail
                  refine Calls.mono HPl.out ?_
                  rintro r w3 ⟨rfl, hw⟩
                  subst hw
                  clear HNn HPl
                  go_wp2_with (first
                    | (at_mapUpdate; refine wpList_seen_put rfl _ _ _ rfl (Bt + 1) q (fun j => decide (j ∈ acc)) p rfl rfl rfl HSd.out (by omega) (by omega) ?_; intro w3 h1 h2; have t3 := HTB.out.of_block (h2.block Bt (by show Bt < wr.heap.size; omega) (by simp)); have c2 := t3.c2; have HS3 : Hid (Seen w3 (Bt + 1) (q + 1) (fun j => decide (j ∈ acc ++ [p]))) := (Seen.congr h1 (fun j => by by_cases e : j = p <;> simp [e])); have HT3 : Hid (TBlk w3 Bt cb x (.slice x.da ol x.dc) sv (place x.index n)) := t3; have hz3 : Bt + 2 ≤ w3.heap.size := Nat.le_trans hsz2 h2.size; have HO3 : Hid (∀ o, (w3.alloc o).ownsRow (Bt + 2) 3 1 sv acc.length (acc.map fun y => Value.int .i64 ((y : Nat) : Int))) := (fun o => World.ownsRow.alloc (own_keep HOw.out (fun g hg => h2.block g (hsvb.out g hg).2 (by have := (hsvb.out g hg).1; simp; omega))) o); have HB3 : Hid (Below Bt Wa w3) := HBel.out.grown h2 (by show Bt ≤ wr.heap.size; omega) (by intro k hk; simp at hk; omega); clear h1 h2 t3)
                    | (at_builtin; refine wpList_append_num _ rfl _ _ rfl (Bt + 2) sv acc rfl (HO3.out _) w3.heap.size 1 p rfl (by simp) (by omega) (by simp; omega) ?_; intro v' w4 g1 g2 g5; obtain ⟨ao', cap', hv', hx1, hx2, hx3⟩ := NRow.of_owns g1; obtain ⟨Ln, hLn⟩ : ∃ Ln, (acc ++ [p]).length = Ln := ⟨_, rfl⟩; rw [hLn] at hv'; subst hv'; clear hLn hx1 hx2 hx3; have HF := sub_step HT3.out HS3.out (fun g hg => (hsvb.out g hg).1) hz3 HB3.out g1 g2; have c2' := HF.1.c2; have fr2 := HF.1.fr 2; have HFin : Hid _ := HF.2; clear g1 g2 g5 HF)
                    | fail)
                  go_roundw
                  case rel => exact ⟨q + 1, acc ++ [p], _, by omega, by go_num, HFin.out.1, HFin.out.2.1, HFin.out.2.2.1, by simp; omega, HND.out, HL2.out, HFin.out.2.2.2.1, HFin.out.2.2.2.2⟩
                  case measure => simp [intOf]; omega
              · have hqq : q = x.pick.length := by omega
                have hqp' : ¬ (q : Int) < (x.pick.length : Int) := by omega
                obtain ⟨sa, scp, rfl, hs1, hs2, hs3⟩ := NRow.of_owns hown
                have hBT := HBT.out
                have hwa := HTa.out.bel.size
                have HTr : Hid (TOut w wr u5 ts) := HTa.out.below (by rw [hBT]; exact hbel)
                obtain ⟨t, ht⟩ : ∃ t : Tr, t = ⟨cb, mb, k, m, x.da, x.dc, x.bs.take 256, sa, scp, acc, place x.index n, x⟩ := ⟨_, rfl⟩
                have hvl2 : ∀ g, u5.ownBlock = some g → g < Bt := fun g hg => by have := (HTa.out.own.lt g hg).2; omega
                have HOk : Hid (TrOk wr w.heap.size (fun b => w.heap.size ≤ b ∧ u5.ownBlock ≠ some b) t) := by
                  rw [ht]
                  have hX := HX0.out.data
                  have hobj : BRow w x.da (x.bs.take 256) := hX.take 256
                  refine { codec := ?_, obj := (hobj.below HTr.out.bel), objB := ?_, ocap := ?_, ocap2 := ?_, olen := ?_, sub := ?_, scap := hs1, scap2 := hs2, nodup := hnd, slt := ?_, idx := ?_, hvalue := HX0.out.hvalue, hmask := HX0.out.hmask }
                  · exact HCa.out.codec.below (by rw [hBT]; exact hbel)
                  · intro hne b o he
                    obtain ⟨b', o', he', hc'⟩ := hobj.row hne
                    have he : x.da = some ⟨b, o, none⟩ := he
                    rw [he] at he'
                    obtain ⟨rfl, rfl⟩ : b = b' ∧ o = o' := by simpa using he'
                    exact cell_lt (hc' 0 (List.length_pos_iff.2 hne))
                  · show (x.bs.take 256).length ≤ x.dc
                    simp; omega
                  · exact Nat.le_trans HX0.out.cap2 (by unfold maxLen; omega)
                  · show (x.bs.take 256).length ≤ 256
                    simp; omega
                  · exact NRow.mono hs3 (fun b hb hF => ⟨by have hF : Bt + 2 ≤ b := hF; omega, fun e => by have := hvl2 b e; have hF : Bt + 2 ≤ b := hF; omega⟩)
                  · intro y hy; have := hlt2 y hy; have := HKM.out; show y < k + m; omega
                  · have := place_lt x.index n (by have := HKM.out; omega); have := HKM.out; show place x.index n < k + m; omega
                have HMp : Hid (wr.heap[t.mb]? = some (.map #[] 0) ∧ w.heap.size ≤ t.mb ∧ u5.ownBlock ≠ some t.mb) := by
                  rw [ht]
                  exact ⟨(hbel.block mb (by have := heap_lt HCa.out.map; omega)).trans HCa.out.map, HCa.out.fm.1, HCa.out.fm.2⟩
                have HSm : Hid (∀ t' ∈ ts, t'.mb = t.mb → t'.cb = t.cb ∧ t'.k = t.k ∧ t'.m = t.m) := by
                  rw [ht]
                  exact HSM.out
                have HCr : Hid (Cur wr (FB w.heap.size u5) cb mb k m) := ⟨HCa.out.codec.below (by rw [hBT]; exact hbel), (hbel.block mb (by have := heap_lt HCa.out.map; omega)).trans HCa.out.map, HCa.out.fm⟩
                have HTc : Hid (t.cells = [.pointer (some ⟨cb, 0, none⟩), .slice x.da ol x.dc, .slice sa acc.length scp, .int .i64 ((place x.index n : Nat) : Int), .int .u8 x.kind, .int .i64 x.k, .int .i64 x.m, .int .u8 x.gen, .slice x.da x.bs.length x.dc, .slice x.pa x.pick.length x.pc, .int .i64 x.index, .int .u8 x.field, .int .i64 x.value, .int .u8 x.mask]) := by
                  show t.cells = _
                  rw [ht, HOL.out]; rfl
                have HMb : Hid (t.mb = mb ∧ t.cb = cb ∧ t.k = k ∧ t.m = m) := by rw [ht]; exact ⟨rfl, rfl, rfl, rfl⟩
                have d0 := hTB.cell 0
                have d1 := hTB.cell 1
                have d2 := hTB.cell 2
                have d3 := hTB.cell 3
                have d4 := hTB.cell 4
                have d5 := hTB.cell 5
                have d6 := hTB.cell 6
                have d7 := hTB.cell 7
                have d8 := hTB.cell 8
                have d9 := hTB.cell 9
                have d10 := hTB.cell 10
                have d11 := hTB.cell 11
                have d12 := hTB.cell 12
                have d13 := hTB.cell 13
                simp only [List.getElem?_toArray, List.getElem?_cons_zero, List.getElem?_cons_succ] at d0 d1 d2 d3 d4 d5 d6 d7 d8 d9 d10 d11 d12 d13
                clear hTB hown hseen hnd hlt2 hbel ht hs3 hvl2
                have HTA : Hid (∀ o, TOut w (wr.alloc o) u5 ts) := fun o => HTr.out.below ((Below.refl _ _).alloc (Nat.le_refl _) o)
                have HOA : Hid (∀ o, TrOk (wr.alloc o) w.heap.size (fun b => w.heap.size ≤ b ∧ u5.ownBlock ≠ some b) t) := fun o => HOk.out.below ((Below.refl _ _).alloc (Nat.le_refl _) o)
                have HMA : Hid (∀ o, (wr.alloc o).heap[t.mb]? = some (.map #[] 0) ∧ w.heap.size ≤ t.mb ∧ u5.ownBlock ≠ some t.mb) := fun o => ⟨(Below.heap_alloc wr o _ (heap_lt HMp.out.1)).trans HMp.out.1, HMp.out.2⟩
                have HCA : Hid (∀ o, Cur (wr.alloc o) (FB w.heap.size u5) cb mb k m) := fun o => ⟨HCr.out.codec.below ((Below.refl _ _).alloc (Nat.le_refl _) o), (Below.heap_alloc wr o _ (heap_lt HCr.out.map)).trans HCr.out.map, HCr.out.fm⟩
                have HBA : Hid (∀ o, o = .cells t.cells.toArray 45 → (wr.alloc o).heap[wr.heap.size]? = some (.cells t.cells.toArray 45 (0, 0))) := fun o ho => by rw [ho]; exact heap_alloc_new wr _
                have htl2 : ts.length ≤ 65536 := by omega
                clear HTr HOk HMp HCr
                go_wp2_with (at_builtin; refine wpList_append_trial _ rfl _ _ rfl w u5 ts rfl (HTA.out _) htl2 wr.heap.size 1 rfl t (HBA.out _ (by rw [HTc.out])) (HOA.out _) (HMA.out _) HSm.out ?_; intro v' w4 h1 h2 h5; have HT4 : Hid (TOut w w4 v' (ts ++ [t])) := h1; have HC4 : Hid (Cur w4 (FB w.heap.size v') cb mb k m) := Cur.push (HCA.out _) h2 h5; clear h1 h2 h5)
                go_roundw
                case rel =>
                  refine ⟨j + 1, ts ++ [t], cb, mb, k, m, by omega, by go_num, by simp; omega, rfl, HT4.out, HC4.out, fun t' ht' e' => ?_⟩
                  obtain ⟨m1, m2, m3, m4⟩ := HMb.out
                  rcases List.mem_append.1 ht' with ht' | ht'
                  · exact HSM.out t' ht' e'
                  · have : t' = t := by simpa using ht'
                    rw [this]; exact ⟨m2, m3, m4⟩
                case measure => simp [intOf]; omega
    · have hjj : j = ops.length := by omega
      subst hjj
      have HT : Hid (TOut w wr u5 ts) := hT
      clear hT hC hsame
      go_wp2
      go_ret
      exact ⟨u5, ts, rfl, HT.out, htl⟩
end Go.Proofs.Qxb6500697aDoor
