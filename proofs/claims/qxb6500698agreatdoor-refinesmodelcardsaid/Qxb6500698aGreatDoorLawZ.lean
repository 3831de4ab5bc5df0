/-
  THE WALK OF THE LAW RefinesModel.
-/
import Derived.Test.Qxb6500698aGreatDoorZLk
import Derived.Test.Qxb6500698aGreatDoorZNA
import Derived.Test.Qxb6500698aGreatDoorSmall
import Derived.Deep.RegionHeld3
namespace Go.Proofs.Qxb6500698aGreatDoor
open Go.RowKit

/-- The two machines from round to round. -/
def RefZ (w wr : World) (e : Nat → Addr) (d sb j : Nat) : Prop := ∃ l m s, l.d = d ∧ m.sb = sb ∧ Lk w.heap.size wr e l m s s ∧ s.F.length ≤ j * 65536
/-- The step's box. -/
def Bx (o : OpD) (V : World) (b : Nat) : Prop := V.heap[b]? = some (.cells #[.int .u8 (o.kind : Int), .slice o.da o.bs.length o.dc, .int .u8 (o.b : Int), .int .i64 o.n, .int .u64 (o.v : Int), .int .i64 o.width] 32 (0, 0))

set_option maxRecDepth 100000 in
set_option maxHeartbeats 4000000 in
theorem refines_any (ops : List OpD) (ao : Option Addr) (cap : Nat) (w : World) (e : Nat → Addr) (E : Errs w e) (hs : Script w ao ops) (hm : ops.length ≤ 140737488355328) (hb : ∀ x ∈ ops, x.bs.length ≤ 140737488355328) :
    Calls Tryz.prog 3 #[.slice ao ops.length cap] w fun r w' => r = .returned (.bool true) ∧ Below w.heap.size w w' := by
  have HSm : Hid (Calls Tryz.prog 4 #[.slice ao ops.length cap] w fun e w' => e = .returned (.bool (small ops)) ∧ w' = w) := small_any ao ops cap w hs hm hb
  cases hsm : small ops with
  | false =>
    rw [hsm] at HSm
    clear hs E
    go_enter Tryz.func3, Tryz.ntmps3
    go_wp2_with fail
    refine Calls.mono HSm.out ?_
    rintro r w' ⟨rfl, hw⟩
    have hw := hw.symm; subst hw
    go_wp2
    go_ret
    exact ⟨rfl, Below.refl _ _⟩
  | true =>
    rw [hsm] at HSm
    obtain ⟨hn, hbs⟩ := small_lenz hsm
    have HBs : Hid (∀ x ∈ ops, x.bs.length ≤ 65536) := hbs
    have HSc : Hid (Script w ao ops) := hs
    have HE : Hid (Errs w e) := E
    have HNb : Hid (Calls Tryz.prog 5 #[] w fun r w' => ∃ l : Rl, r = .returned (.pointer (some ⟨l.d, 0, none⟩)) ∧ ZR w.heap.size w' e l zst0 ∧ l.bs = [] ∧ Below w.heap.size w w') := newMachines_any w e
    obtain ⟨L, hL⟩ : ∃ L, ops.length = L := ⟨_, rfl⟩
    have HL : Hid (ops.length = L) := hL
    rw [hL] at HSm hn ⊢
    clear hs hb hsm E hbs hm hL
    go_enter Tryz.func3, Tryz.ntmps3
    go_wp2_with fail
    refine Calls.mono HSm.out ?_
    rintro r w' ⟨rfl, hw⟩
    have hw := hw.symm; subst hw
    clear HSm
    go_wp2_with fail
    refine Calls.mono HNb.out ?_
    rintro r w1 ⟨l0, rfl, hZR, hbs0, hbl⟩
    have HNB : Hid (ZR w.heap.size w1 e l0 zst0 ∧ l0.bs = [] ∧ Below w.heap.size w w1) := ⟨hZR, hbs0, hbl⟩
    have HMn : Hid (Calls Tryz.prog 6 #[] w1 fun r w' => r = .returned (.pointer (some ⟨w1.heap.size, 0, none⟩)) ∧ w' = w1.alloc (.cells #[.slice none 0 0, .slice none 0 0, .int .i64 256, .int .u8 0, .slice none 0 0, .int .u8 0] 52)) := mnew_any w1
    clear hZR hbs0 hbl HNb
    go_wp2_with fail
    refine Calls.mono HMn.out ?_
    rintro r w2 ⟨rfl, hw2⟩
    obtain ⟨d, hd⟩ : ∃ d, l0.d = d := ⟨_, rfl⟩
    have HR0 : Hid (RefZ w w2 e d w1.heap.size 0 ∧ Below w.heap.size w w2) := by
      obtain ⟨hZR, hbs0, hbl⟩ := HNB.out
      have hb2 : Below w1.heap.size w1 w2 := by rw [hw2]; exact (Below.refl _ _).alloc (Nat.le_refl _) _
      have hZM := zm_start hbl.size hw2
      have hbw := hbl.trans (hb2.mono hbl.size)
      refine ⟨⟨l0, _, zst0, hd, rfl, ⟨hZR.below hb2, hZM, (EB.start HE.out).below hbw, fun b hb hx => ?_, fun b hb hx => ?_⟩, Nat.zero_le _⟩, hbw⟩
      · have h1 : b < w1.heap.size := by
          rcases hb with hb | hb
          · exact (hZR.rlt b hb).1
          · rw [hb]; exact hZR.tab.lt
        rcases hx with (hx | hx | hx) | hx
        · have hx : b = w1.heap.size := hx
          omega
        · cases hx
        · cases hx
        · exact absurd rfl hx.1
      · exact absurd hbs0 hb.1
    obtain ⟨sb, hsb⟩ : ∃ sb, w1.heap.size = sb := ⟨_, rfl⟩
    simp only [hsb, hd]
    rw [hsb] at HR0
    clear hsb hw2 HMn HNB hd
    go_wp2
    go_loopw [14] (fun i wr => ∃ j : Nat, j ≤ L ∧ i = .int .i64 j ∧ RefZ w wr e d sb j ∧ Below w.heap.size w wr) (fun i _ => L - (intOf i).toNat)
    case atStart => exact ⟨0, Nat.zero_le _, rfl, HR0.out⟩
    case round =>
      obtain ⟨j, hj, rfl, hR, hbr⟩ := hrel
      obtain ⟨w4, hw4⟩ : ∃ x, x = wr := ⟨_, rfl⟩
      subst hw4
      by_cases hlt : j < L
      · have hlt' : (j : Int) < (L : Int) := by omega
        have hjo : j < ops.length := by rw [HL.out]; exact hlt
        have hops : ops ≠ [] := by intro h0; rw [h0] at hjo; simp at hjo
        obtain ⟨b, q, rfl, hat⟩ := HSc.out hops
        have hx0 := hat j hjo
        have hmem : ops.getD j OpD.zero ∈ ops := getD_mem hjo
        obtain ⟨o, ho⟩ : ∃ o, ops.getD j OpD.zero = o := ⟨_, rfl⟩
        rw [ho] at hx0 hmem
        have hlo := HBs.out o hmem
        have hx : OpAt w4 b (q + j * 6) o := hx0.same (fun b' o' hlt => hbr.cell (p := ⟨b', o', none⟩) hlt)
        have c0 := hx.c0
        have c1 := hx.c1
        have c2 := hx.c2
        have c3 := hx.c3
        have c4 := hx.c4
        have c5 := hx.c5
        obtain ⟨W4, hW4⟩ : ∃ W4, w4.alloc (opB o) = W4 := ⟨_, rfl⟩
        have hb4 : Below w4.heap.size w4 W4 := by rw [← hW4]; exact (Below.refl _ _).alloc (Nat.le_refl _) _
        have hbox : Bx o W4 w4.heap.size := by unfold Bx; rw [← hW4]; exact heap_alloc_new w4 _
        have hbd : Below w4.heap.size w4 W4.drew := hb4.drew
        have hbwd : Below w.heap.size w W4.drew := hbr.trans (hbd.mono hbr.size)
        obtain ⟨l, m, s, rfl, rfl, hLk, hF⟩ := hR
        have hLd := hLk.below hbd
        have hF42 : s.F.length ≤ 4398046511104 := by omega
        have hFo := zstep_F s o hlo
        have hdl := zstep_dat hLk.zm o
        have HKb : Hid (∀ V : World, Bx o V w4.heap.size → V.cell? ⟨w4.heap.size, 0, none⟩ = some (.int .u8 (o.kind : Int)) ∧ V.cell? ⟨w4.heap.size, 1, none⟩ = some (.slice o.da o.bs.length o.dc) ∧ V.cell? ⟨w4.heap.size, 2, none⟩ = some (.int .u8 (o.b : Int)) ∧ V.cell? ⟨w4.heap.size, 3, none⟩ = some (.int .i64 o.n) ∧ V.cell? ⟨w4.heap.size, 4, none⟩ = some (.int .u64 (o.v : Int)) ∧ V.cell? ⟨w4.heap.size, 5, none⟩ = some (.int .i64 o.width)) := fun V hV => by
          unfold Bx at hV
          refine ⟨?_, ?_, ?_, ?_, ?_, ?_⟩ <;> simp [World.cell?, hV]
        have HO4 : Hid (Bx o W4.drew w4.heap.size) := hbox
        obtain ⟨S1, cr, fl, ln, v, dat, er, hz⟩ : ∃ S1 cr fl ln v dat er, zstep s o = (S1, ⟨cr, fl, ln, v, dat, er⟩) := ⟨_, _, _, _, _, _, _, rfl⟩
        rw [hz] at hFo hdl
        have hFo : S1.F.length ≤ s.F.length + 65536 := hFo
        have hdl : dat.length ≤ 65536 := hdl
        obtain ⟨D, hD⟩ : ∃ D, dat.length = D := ⟨_, rfl⟩
        have HStR : Hid (Calls Tryz.prog 7 #[.pointer (some ⟨l.d, 0, none⟩), opV o] W4.drew fun r w5 => ∃ l' a c, r = .returned (ansV cr fl ln v a D c er) ∧ Lk w.heap.size w5 e l' m S1 s ∧ l'.d = l.d ∧ BRow w5 a dat ∧ (dat ≠ [] → ∀ b o', a = some ⟨b, o', none⟩ → l'.v.ownBlock = some b ∨ RB l' b) ∧ Bx o w5 w4.heap.size ∧ Below w.heap.size w w5) := by
          refine (zstepR (B := w.heap.size) (e := e) (s := s) ⟨hLd.eb, hLd.zr, hx0.opz hlo hbwd, by omega⟩).mono ?_
          rintro r w5 ⟨l', a, c, h1, h2, h3, h4⟩
          rw [hz] at h1 h2 h3 h4
          have h1 : r = .returned (ansV cr fl ln v a dat.length c er) := h1
          rw [hD] at h1
          refine ⟨l', a, c, h1, hLd.real h2, h2.d, h3, h4, ?_, ?_⟩
          · exact (h2.chg.block _ (heap_lt HO4.out) (fun hx => by have := (hLk.zr.rlt _ hx).1; omega)).trans HO4.out
          · exact h2.chg.below hbwd hLd.hB (fun b hb => (hLd.zr.rlt b hb).2)
        have HStM : Hid (∀ V l', Lk w.heap.size V e l' m S1 s → Bx o V w4.heap.size → Below w.heap.size w V → Calls Tryz.prog 9 #[.pointer (some ⟨m.sb, 0, none⟩), opV o] V fun r w6 => ∃ m' a c, r = .returned (ansV cr fl ln v a D c er) ∧ Lk w.heap.size w6 e l' m' S1 S1 ∧ m'.sb = m.sb ∧ BRow w6 a dat ∧ (∀ a', BRow V a' dat → (dat ≠ [] → ∀ b o', a' = some ⟨b, o', none⟩ → l'.v.ownBlock = some b ∨ RB l' b) → BRow w6 a' dat) ∧ Bx o w6 w4.heap.size ∧ Below w.heap.size w w6) := fun V l' g1 g2 g3 => by
          refine (zstepM (B := w.heap.size) (s := s) ⟨g1.zm, hx0.opz hlo g3, hF42⟩).mono ?_
          rintro r w6 ⟨m', a, c, h1, h2, h3⟩
          rw [hz] at h1 h2 h3
          have h1 : r = .returned (ansV cr fl ln v a dat.length c er) := h1
          rw [hD] at h1
          refine ⟨m', a, c, h1, g1.model h2, h2.sb, h3, fun a' k1 k2 => g1.row h2 k1 k2, ?_, ?_⟩
          · exact (h2.chg.block _ (heap_lt g2) (fun hx => by have := (hLk.zm.mlt hx).2; omega)).trans g2
          · exact h2.chg.below g3 g1.hB (fun b hb => (g1.zm.mlt hb).1)
        have HSa : Hid (∀ V a c a2 c2, BRow V a dat → BRow V a2 dat → Calls Tryz.prog 8 #[ansV cr fl ln v a D c er, ansV cr fl ln v a2 D c2 er] V fun r w' => r = .returned (.bool true) ∧ Below V.heap.size V w') := fun V a c a2 c2 k1 k2 => asame_z V cr fl ln v er a a2 D c c2 dat hD (by omega) k1 k2
        have HFl : Hid (S1.F.length ≤ (j + 1) * 65536) := by show S1.F.length ≤ (j + 1) * 65536; omega
        clear hx hmem ho hlo hbd hbwd hLk hLd hb4 hbr hat hx0 hF hF42 hFo hdl hD hz hops hjo
        unfold opB at hW4
        go_upto_region 7 with fail
        clear hW4 c0 c1 c2 c3 c4 c5 hbox HSc HBs
        go_region_held3 (fun V => V.cell? ⟨w4.heap.size, 0, none⟩ = some (.int .u8 (o.kind : Int)) ∧ V.cell? ⟨w4.heap.size, 1, none⟩ = some (.slice o.da o.bs.length o.dc) ∧ V.cell? ⟨w4.heap.size, 2, none⟩ = some (.int .u8 (o.b : Int)) ∧ V.cell? ⟨w4.heap.size, 3, none⟩ = some (.int .i64 o.n) ∧ V.cell? ⟨w4.heap.size, 4, none⟩ = some (.int .u64 (o.v : Int)) ∧ V.cell? ⟨w4.heap.size, 5, none⟩ = some (.int .i64 o.width))
          (first | with_reducible exact HKb.out _ HO4.out | with_reducible exact HKb.out _ HO5.out | with_reducible exact HKb.out _ HO6.out | with_reducible exact HKb.out _ HO7.out)
          (first
            | (go_at_call 7; refine HStR.out.mono ?_; rintro r w5 ⟨l', a1, c1, rfl, hL5, hd5, hr5, hn5, hx5, hb5⟩; have HO5 : Hid (Bx o w5 w4.heap.size) := hx5; have H5 : Hid (Lk w.heap.size w5 e l' m S1 s ∧ l'.d = l.d ∧ BRow w5 a1 dat ∧ (dat ≠ [] → ∀ b o', a1 = some ⟨b, o', none⟩ → l'.v.ownBlock = some b ∨ RB l' b) ∧ Below w.heap.size w w5) := ⟨hL5, hd5, hr5, hn5, hb5⟩; clear hx5 hL5 hd5 hr5 hn5 hb5)
            | (go_at_call 9; refine (HStM.out _ _ H5.out.1 HO5.out H5.out.2.2.2.2).mono ?_; rintro r w6 ⟨m', a2, c2, rfl, hL6, hd6, hr6, hn6, hx6, hb6⟩; have HO6 : Hid (Bx o w6 w4.heap.size) := hx6; have H6 : Hid (Lk w.heap.size w6 e l' m' S1 S1 ∧ m'.sb = m.sb ∧ BRow w6 a2 dat ∧ BRow w6 a1 dat ∧ Below w.heap.size w w6) := ⟨hL6, hd6, hr6, hn6 _ H5.out.2.2.1 H5.out.2.2.2.1, hb6⟩; clear hx6 hL6 hd6 hr6 hn6 hb6)
            | (go_at_call 8; refine (HSa.out _ _ _ _ _ H6.out.2.2.2.1 H6.out.2.2.1).mono ?_; rintro r w7 ⟨rfl, hb7⟩; have HB7 : Hid (Below w6.heap.size w6 w7) := hb7; have HO7 : Hid (Bx o w7 w4.heap.size) := (hb7.block _ (heap_lt HO6.out)).trans HO6.out; clear hb7))
        all_goals
          have HF : Hid (RefZ w w7 e l.d m.sb (j + 1) ∧ Below w.heap.size w w7) := by
            obtain ⟨k1, k2, _, _, k5⟩ := H6.out
            exact ⟨⟨l', m', S1, H5.out.2.1, k2, k1.below HB7.out, HFl.out⟩, k5.trans (HB7.out.mono k5.size)⟩
          go_wp2
          go_roundw
          case rel => exact ⟨j + 1, by omega, by go_num, HF.out⟩
          case measure => simp [intOf]; omega
      · have hlt' : ¬ (j : Int) < (L : Int) := by omega
        have HF : Hid (Below w.heap.size w w4) := hbr
        clear hbr hR
        go_wp2
        go_ret
        exact ⟨rfl, HF.out⟩
end Go.Proofs.Qxb6500698aGreatDoor
