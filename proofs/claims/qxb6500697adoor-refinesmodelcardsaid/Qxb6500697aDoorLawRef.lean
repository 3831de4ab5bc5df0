/-
  THE WALK OF THE LAW RefinesModel.
-/
import Derived.Test.Qxb6500697aDoorMMAll
import Derived.Test.Qxb6500697aDoorMNew
namespace Go.Proofs.Qxb6500697aDoor
open Go.RowKit

theorem KOpAt.ok {w : World} {b q : Nat} {x : KOp} (h : KOpAt w b q x) (h1 : x.bs.length ≤ 65536) (h2 : x.pick.length ≤ 65536) : OpOk w x := ⟨h.data.frow, h.pk, ⟨h.cap, h.cap2⟩, h1, h2, h.hkind, h.hk, h.hm, h.hgen, h.hindex, h.hvalue, h.hmask⟩

/-- The two machines from round to round. -/
def RefR (w wr : World) (bb sb j : Nat) : Prop := ∃ cb mb k m v1 ss v2 ts, RS w.heap.size wr bb sb cb mb k m k m v1 ss v2 ts (4096 + 2 * j) NoZ ∧ SL ss ts

set_option maxRecDepth 100000 in
set_option maxHeartbeats 4000000 in
theorem refines_any (ops : List KOp) (ao : Option Addr) (cap : Nat) (w : World) (e : Nat → Addr) (E : KErrs 10 w e) (hs : KScript w ao ops) (hm : ops.length ≤ 140737488355328) (hb : ∀ x ∈ ops, x.bs.length ≤ 140737488355328 ∧ x.pick.length ≤ 140737488355328) :
    Calls Tryd.prog 3 #[.slice ao ops.length cap] w fun r w' => r = .returned (.bool true) ∧ Below w.heap.size w w' := by
  have HSm : Hid (Calls Tryd.prog 11 #[.slice ao ops.length cap] w fun e w' => e = .returned (.bool (ksmall ops)) ∧ w' = w) := ksmall_any ao ops cap w hs hm hb
  cases hsm : ksmall ops with
  | false =>
    rw [hsm] at HSm
    clear hs E
    go_enter Tryd.func3, Tryd.ntmps3
    go_wp2_with fail
    refine Calls.mono HSm.out ?_
    rintro r w' ⟨rfl, hw⟩
    have hw := hw.symm; subst hw
    go_wp2
    go_ret
    exact ⟨rfl, Below.refl _ _⟩
  | true =>
    rw [hsm] at HSm
    obtain ⟨hn, hbs⟩ := ksmall_len hsm
    have HBs : Hid (∀ x ∈ ops, x.bs.length ≤ 65536 ∧ x.pick.length ≤ 65536) := hbs
    have HSc : Hid (KScript w ao ops) := hs
    have HE : Hid (KErrs 10 w e) := E
    have HNb : Hid (Calls Tryd.prog 12 #[] w fun r w' => ∃ bb cb mb, r = .returned (.pointer (some ⟨bb, 0, none⟩)) ∧ NB w w' bb cb mb) := newBench_any w
    obtain ⟨L, hL⟩ : ∃ L, ops.length = L := ⟨_, rfl⟩
    have HL : Hid (ops.length = L) := hL
    rw [hL] at HSm hn ⊢
    clear hs hb hsm E hbs hm hL
    go_enter Tryd.func3, Tryd.ntmps3
    go_wp2_with fail
    refine Calls.mono HSm.out ?_
    rintro r w' ⟨rfl, hw⟩
    have hw := hw.symm; subst hw
    clear HSm
    go_wp2_with fail
    refine Calls.mono HNb.out ?_
    rintro r w1 ⟨bb, cb, mb, rfl, hNB⟩
    have HNB : Hid (NB w w1 bb cb mb) := hNB
    have HMn : Hid (Calls Tryd.prog 13 #[] w1 fun r w' => r = .returned (.pointer (some ⟨w1.heap.size, 0, none⟩)) ∧ w' = w1.alloc (.cells #[.int .i64 4, .int .i64 2, .slice none 0 0] 83)) := mnew_any w1
    clear hNB HNb
    go_wp2_with fail
    refine Calls.mono HMn.out ?_
    rintro r w2 ⟨rfl, hw2⟩
    have hb2 : Below w1.heap.size w1 w2 := by rw [hw2]; exact (Below.refl _ _).alloc (Nat.le_refl _) _
    have hs2 : w2.heap[w1.heap.size]? = some (.cells #[.int .i64 4, .int .i64 2, .slice none 0 0] 83 (0, 0)) := by rw [hw2]; exact heap_alloc_new w1 _
    have HR0 : Hid (RefR w w2 bb w1.heap.size 0) := ⟨cb, mb, 4, 2, _, _, _, _, HNB.out.start hb2 (Nat.le_refl _) hs2, SL.nil⟩
    have HB0 : Hid (Below w.heap.size w w2) := HNB.out.bel.trans (hb2.mono HNB.out.bel.size)
    obtain ⟨sb, hsb⟩ : ∃ sb, w1.heap.size = sb := ⟨_, rfl⟩
    simp only [hsb]
    rw [hsb] at HR0
    clear hsb hb2 hs2 hw2 HMn HNB
    go_wp2
    go_loopw [14] (fun i wr => ∃ j : Nat, j ≤ L ∧ i = .int .i64 j ∧ RefR w wr bb sb j ∧ Below w.heap.size w wr) (fun i _ => L - (intOf i).toNat)
    case atStart => exact ⟨0, Nat.zero_le _, rfl, HR0.out, HB0.out⟩
    case round =>
      obtain ⟨j, hj, rfl, hR, hbr⟩ := hrel
      obtain ⟨w4, hw4⟩ : ∃ x, x = wr := ⟨_, rfl⟩
      subst hw4
      by_cases hlt : j < L
      · have hlt' : (j : Int) < (L : Int) := by omega
        have hjo : j < ops.length := by rw [HL.out]; exact hlt
        obtain ⟨b, q, rfl, hat⟩ := (HSc.out.below hbr) (by intro h0; rw [h0] at hjo; simp at hjo)
        have hx := hat j hjo
        have hmem : ops.getD j KOp.zero ∈ ops := getD_mem hjo
        obtain ⟨o, ho⟩ : ∃ o, ops.getD j KOp.zero = o := ⟨_, rfl⟩
        rw [ho] at hx hmem
        have hlo := HBs.out o hmem
        have hop : OpOk w4 o := hx.ok hlo.1 hlo.2
        have c0 := hx.c0
        have c1 := hx.c1
        have c2 := hx.c2
        have c3 := hx.c3
        have c4 := hx.c4
        have c5 := hx.c5
        have c6 := hx.c6
        have c7 := hx.c7
        have c8 := hx.c8
        have c9 := hx.c9
        obtain ⟨W4, hW4⟩ : ∃ W4, w4.alloc (opB o) = W4 := ⟨_, rfl⟩
        have hb4 : Below w4.heap.size w4 W4 := by rw [← hW4]; exact (Below.refl _ _).alloc (Nat.le_refl _) _
        have hbox : W4.heap[w4.heap.size]? = some (.cells #[.int .u8 o.kind, .int .i64 o.k, .int .i64 o.m, .int .u8 o.gen, .slice o.da o.bs.length o.dc, .slice o.pa o.pick.length o.pc, .int .i64 o.index, .int .u8 o.field, .int .i64 o.value, .int .u8 o.mask] 34 (0, 0)) := by rw [← hW4]; exact heap_alloc_new w4 _
        have hbd : Below w4.heap.size w4 W4.drew := hb4.drew
        have hbwd : Below w.heap.size w W4.drew := hbr.trans (hbd.mono hbr.size)
        obtain ⟨cb, mb, k, m, v1, ss, v2, ts, hRS, hsl⟩ := hR
        have hRd := hRS.below hbd
        have HSL : Hid (SL ss ts) := hsl
        have hg2 := hRS.g2
        have HKb : Hid (∀ V : World, V.heap[w4.heap.size]? = W4.heap[w4.heap.size]? → V.cell? ⟨w4.heap.size, 0, none⟩ = some (.int .u8 o.kind) ∧ V.cell? ⟨w4.heap.size, 1, none⟩ = some (.int .i64 o.k) ∧ V.cell? ⟨w4.heap.size, 2, none⟩ = some (.int .i64 o.m) ∧ V.cell? ⟨w4.heap.size, 3, none⟩ = some (.int .u8 o.gen) ∧ V.cell? ⟨w4.heap.size, 4, none⟩ = some (.slice o.da o.bs.length o.dc) ∧ V.cell? ⟨w4.heap.size, 5, none⟩ = some (.slice o.pa o.pick.length o.pc) ∧ V.cell? ⟨w4.heap.size, 6, none⟩ = some (.int .i64 o.index) ∧ V.cell? ⟨w4.heap.size, 7, none⟩ = some (.int .u8 o.field) ∧ V.cell? ⟨w4.heap.size, 8, none⟩ = some (.int .i64 o.value) ∧ V.cell? ⟨w4.heap.size, 9, none⟩ = some (.int .u8 o.mask)) := fun V hV => by
          have hh := hV.trans hbox
          refine ⟨?_, ?_, ?_, ?_, ?_, ?_, ?_, ?_, ?_, ?_⟩ <;> simp [World.cell?, hh]
        have HBx : Hid (W4.heap[w4.heap.size]? = some (.cells #[.int .u8 o.kind, .int .i64 o.k, .int .i64 o.m, .int .u8 o.gen, .slice o.da o.bs.length o.dc, .slice o.pa o.pick.length o.pc, .int .i64 o.index, .int .u8 o.field, .int .i64 o.value, .int .u8 o.mask] 34 (0, 0))) := hbox
        have HO4 : Hid (W4.drew.heap[w4.heap.size]? = W4.heap[w4.heap.size]?) := rfl
        have HStR : Hid (Calls Tryd.prog 14 #[.pointer (some ⟨bb, 0, none⟩), opV o] W4.drew (StepR w.heap.size W4.drew bb sb k m k m ss v2 ts (4096 + 2 * j) o)) := stepR ⟨HE.out.below hbwd, hRd, hop.keeps (Below.keeps hbd), by omega, by omega⟩
        have HNs : Hid (∀ V, w4.heap.size = V → ¬ PM sb v2 ts V) := fun V hV hq => by
          rcases hq with hq | hq
          · have := heap_lt hRS.hs; omega
          · have := (hRS.t2.lt hq).2; omega
        have HPg : Hid (∀ b, PM sb v2 ts b → w.heap.size ≤ b) := fun b hq => by
          rcases hq with rfl | hq
          · exact hRS.ge.2.1
          · exact (hRS.t2.lt hq).1
        have HBd : Hid (Below w.heap.size w W4.drew) := hbwd
        have HOb : Hid (OpBlk W4.drew w4.heap.size) := ⟨_, _, hbox⟩
        have HOp : Hid (∀ V, Below w.heap.size w V → OpOk V o) := fun V hV => by
          have hy := (HSc.out.below hV) (by intro h0; rw [h0] at hjo; simp at hjo)
          obtain ⟨b', q', _, hat'⟩ := hy
          have h5 := hat' j hjo
          rw [ho] at h5
          exact h5.ok hlo.1 hlo.2
        have HStM : Hid (∀ V cb' mb' k' m' v1' ss', RS w.heap.size V bb sb cb' mb' k' m' k m v1' ss' v2 ts (4096 + 2 * j + 1) NoZ → Below w.heap.size w V → Calls Tryd.prog 16 #[.pointer (some ⟨sb, 0, none⟩), opV o] V (StepM w.heap.size V bb sb cb' mb' k' m' k m v1' ss' v2 ts (4096 + 2 * j + 1) o)) := fun V cb' mb' k' m' v1' ss' h1 h2 => stepM ⟨h1, HOp.out V h2, by omega, by omega⟩
        have HW4s : Hid (w.heap.size ≤ W4.drew.heap.size) := hbwd.size
        unfold opV at HStR HStM
        unfold opB at hW4
        clear hx hmem ho hlo hop hbd hbwd hRS hsl hRd hb4 hbr hat
        go_upto_region 7 with fail
        clear hW4 c0 c1 c2 c3 c4 c5 c6 c7 c8 c9 hbox HOp HSc HBs
        go_region_held3 (fun V => V.cell? ⟨w4.heap.size, 0, none⟩ = some (.int .u8 o.kind) ∧ V.cell? ⟨w4.heap.size, 1, none⟩ = some (.int .i64 o.k) ∧ V.cell? ⟨w4.heap.size, 2, none⟩ = some (.int .i64 o.m) ∧ V.cell? ⟨w4.heap.size, 3, none⟩ = some (.int .u8 o.gen) ∧ V.cell? ⟨w4.heap.size, 4, none⟩ = some (.slice o.da o.bs.length o.dc) ∧ V.cell? ⟨w4.heap.size, 5, none⟩ = some (.slice o.pa o.pick.length o.pc) ∧ V.cell? ⟨w4.heap.size, 6, none⟩ = some (.int .i64 o.index) ∧ V.cell? ⟨w4.heap.size, 7, none⟩ = some (.int .u8 o.field) ∧ V.cell? ⟨w4.heap.size, 8, none⟩ = some (.int .i64 o.value) ∧ V.cell? ⟨w4.heap.size, 9, none⟩ = some (.int .u8 o.mask))
          (first | with_reducible exact HKb.out _ HO4.out | with_reducible exact HKb.out _ HO5.out | with_reducible exact HKb.out _ HO6.out | with_reducible exact HKb.out _ HO7.out)
          (first
            | (go_at_call 14; refine HStR.out.mono ?_; rintro r w5 ⟨ans, A, cb', mb', k', m', v1', ss', rfl, hsp, hR5, hA, hBl⟩; have HSp : Hid (Spec k m ss o A k' m' ss') := hsp; have HR5 : Hid (RS w.heap.size w5 bb sb cb' mb' k' m' k m v1' ss' v2 ts (4096 + 2 * j + 1) NoZ) := hR5; have HA : Hid (∀ w2, Chg (PM sb v2 ts) w5 w2 → AnsOk w2 ans A) := hA; have HB5 : Hid (Below w.heap.size w w5) := HBd.out.trans hBl.bel; have HO5 : Hid (w5.heap[w4.heap.size]? = W4.heap[w4.heap.size]?) := (hBl.ops _ HOb.out).trans HO4.out; clear hsp hR5 hA hBl)
            | (go_at_call 16; refine (HStM.out _ _ _ _ _ _ _ HR5.out HB5.out).mono ?_; rintro r w6 ⟨an2, A2, k2', m2', v2', ts', rfl, hsp2, hR6, hA2, hC6⟩; have HSp2 : Hid (Spec k m ts o A2 k2' m2' ts') := hsp2; have HR6 : Hid (RS w.heap.size w6 bb sb cb' mb' k' m' k2' m2' v1' ss' v2' ts' (4096 + 2 * j + 1 + 1) NoZ) := hR6; have HA2 : Hid (AnsOk w6 an2 A2) := hA2; have HA1 : Hid (AnsOk w6 ans A) := HA.out w6 hC6; have HB6 : Hid (Below w.heap.size w w6) := hC6.below HB5.out HB5.out.size HPg.out; have HO6 : Hid (w6.heap[w4.heap.size]? = W4.heap[w4.heap.size]?) := (hC6.block _ (heap_lt (HO5.out.trans HBx.out)) (HNs.out _ rfl)).trans HO5.out; clear hsp2 hR6 hA2 hC6)
            | (go_at_call 15; refine (same_ans HA1.out HA2.out (HSp.out.det hg2.1 hg2.2.2 HSL.out HSp2.out).1).mono ?_; rintro r w7 ⟨rfl, hb7⟩; have HB7 : Hid (Below w6.heap.size w6 w7) := hb7; have HO7 : Hid (w7.heap[w4.heap.size]? = W4.heap[w4.heap.size]?) := (hb7.block _ (heap_lt (HO6.out.trans HBx.out))).trans HO6.out; clear hb7))
        all_goals
          have HF : Hid (RefR w w7 bb sb (j + 1) ∧ Below w.heap.size w w7) := by
            obtain ⟨_, h1, h2, h3⟩ := HSp.out.det hg2.1 hg2.2.2 HSL.out HSp2.out
            have h4 := HR6.out
            rw [← h1, ← h2] at h4
            have e2 : 4096 + 2 * j + 1 + 1 = 4096 + 2 * (j + 1) := by omega
            rw [e2] at h4
            exact ⟨⟨cb', mb', k', m', v1', ss', v2', ts', h4.below HB7.out, h3⟩, HB6.out.trans (HB7.out.mono HB6.out.size)⟩
          go_wp2
          go_roundw
          case rel => exact ⟨j + 1, by omega, by go_num, HF.out⟩
          case measure => simp [intOf]; omega
      · have hlt' : ¬ (j : Int) < (L : Int) := by omega
        have HF : Hid (Below w.heap.size w w4) := hbr
        clear hbr hR
        go_wp2
        go_ret
        exact ⟨rfl, HF.out⟩
end Go.Proofs.Qxb6500697aDoor
