/-
  THE WALK OF THE LAW TrailersRoundTrip.
-/
import Derived.Test.Qxb6500698aDoorTrail
import Derived.Test.Qxb6500698aDoorPieces
import Derived.Test.Qxb6500698aDoorOwn
namespace Go.Proofs.Qxb6500698aDoor
open Go.RowKit

set_option maxRecDepth 100000 in
set_option maxHeartbeats 2000000 in
theorem trail_any (ops : List OpD) (ao : Option Addr) (cap : Nat) (w : World) (e : Nat → Addr) (E : Errs w e) (hs : Script w ao ops) (hm : ops.length ≤ 140737488355328) (hb : ∀ x ∈ ops, x.bs.length ≤ 140737488355328) :
    Calls Tryd.prog 4 #[.slice ao ops.length cap] w fun e w' => e = .returned (.bool true) ∧ Below w.heap.size w w' := by
  have hI : Tryd.prog.isIface 30 = true := by kernel_rfl
  have HSm : Hid _ := small_any ao ops cap w hs hm hb
  cases hsm : small ops with
  | false =>
    rw [hsm] at HSm
    clear hs E
    go_enter Tryd.func4, Tryd.ntmps4
    go_wp2_with fail
    refine Calls.mono HSm.out ?_
    rintro r w' ⟨rfl, hw⟩
    have hw := hw.symm; subst hw
    go_wp2
    go_ret
    exact ⟨rfl, Below.refl _ _⟩
  | true =>
    rw [hsm] at HSm
    obtain ⟨hn, hbs⟩ := small_len hsm
    have HPL : Hid (∀ p ∈ piecesOf ops, ∀ y ∈ p, y < 256) := pieces_lt hs.bytes
    have HPN : Hid (∀ p ∈ piecesOf ops, p.length ≤ 65536) := by
      intro p hp
      obtain ⟨x, hx, hpx⟩ := List.mem_filterMap.1 hp
      exact piece_le (hbs x hx) hpx
    have HPL2 : Hid ((piecesOf ops).length ≤ 65536) := by
      have := pieces_len ops ops.length
      rw [List.take_length] at this
      exact Nat.le_trans this hn
    have HS : Hid _ := hs
    have HE : Hid _ := E
    clear hs hb hsm E
    go_enter Tryd.func4, Tryd.ntmps4
    go_wp2_with fail
    refine Calls.mono HSm.out ?_
    rintro r w' ⟨rfl, hw⟩
    have hw := hw.symm; subst hw
    clear HSm
    go_wp2_with fail
    refine Calls.mono (newCrc_any _) ?_
    rintro r w1 ⟨rfl, hb1, hT1⟩
    go_wp2_with fail
    refine Calls.mono (pieces_any ops ao cap w1 (Script.below HS.out hb1) hn) ?_
    rintro r w2 ⟨po, c2, rfl, hP2, hb2⟩
    have HT2 : Hid (Tabs w2 w.heap.size) := hT1.below hb2
    have HB2 : Hid (Below w.heap.size w w2) := hb1.trans (hb2.mono hb1.size)
    have HP2 : Hid (Parts w2 po (piecesOf ops)) := hP2
    have hpl := HPL2.out
    clear hT1 hb1 hb2 hP2 HS HPL2
    generalize piecesOf ops = ps at *
    go_wp2
    go_loopw [20] (fun i wr => ∃ k : Nat, k ≤ ps.length ∧ i = .int .i64 k ∧ Below w2.heap.size w2 wr) (fun i _ => ps.length - (intOf i).toNat)
    case atStart => exact ⟨0, Nat.zero_le _, rfl, Below.refl _ _⟩
    case round =>
      obtain ⟨k, hk, rfl, hbr⟩ := hrel
      by_cases hlt : k < ps.length
      · obtain ⟨b, o, rfl, hcs⟩ := HP2.out (ne_nil_of_lt hlt)
        obtain ⟨v, hc, hv⟩ := hcs k hlt
        have hc' : wr.cell? ⟨b, o + k, none⟩ = some v := (hbr.cell (p := ⟨b, o + k, none⟩) (cell_lt hc)).trans hc
        obtain ⟨pb, po', pc, rfl, hpc, hpc', hrow⟩ := (hv.below hbr).val
        have hplt := HPL.out _ (getD_mem (d := []) hlt)
        have hpn := HPN.out _ (getD_mem (d := []) hlt)
        clear hc hv hcs
        generalize ps.getD k [] = p at *
        unfold maxLen at hpc'
        have HRP : Hid (BRow wr (some ⟨pb, po', none⟩) p) := hrow
        have HPLT : Hid (∀ y ∈ p, y < 256) := hplt
        have HBR : Hid (Below w2.heap.size w2 wr) := hbr
        have HTR : Hid (Tabs wr w.heap.size) := HT2.out.below hbr
        have hlt' : (k : Int) < (ps.length : Int) := by omega
        have hszw := hbr.size
        clear hrow hplt hbr
        have hsum : ([] : List Nat).length + p.length ≤ 140737488355328 := by simp; omega
        have HON : Hid (OwnB wr wr.heap.size (.slice none 0 0) []) := World.ownsRow_nil _ _ _ _
        go_wp2_with (at_builtin; refine wpList_append_bytes _ rfl _ _ rfl wr.heap.size (.slice none 0 0) [] p rfl HON.out (some ⟨pb, po', none⟩) pc rfl HRP.out hsum (Nat.le_refl _) ?_; intro v1 w3 g1 g2 _; have G1 : Hid (OwnB w3 wr.heap.size v1 p) := g1; have G2 : Hid (Below wr.heap.size wr w3) := (Below.refl _ _).grown g2 (Nat.le_refl _) (by intro k hk; cases hk); clear g1 g2)
        have hs3 := G2.out.size
        refine Calls.mono (seal_any wr.heap.size w.heap.size v1 p w3 (HTR.out.below G2.out) G1.out HPLT.out hs3 (by omega)) ?_
        rintro r w4 ⟨v2, rfl, h1, h2⟩
        have B4 : Below wr.heap.size wr w4 := G2.out.trans h2
        have hdl : (p ++ dig (Crc.crc p) 4).length = p.length + 4 := by rw [List.length_append, dig_length]
        have hplus : ∀ x ∈ p ++ dig (Crc.crc p) 4, x < 256 := by
          intro y hy
          rcases List.mem_append.1 hy with hy | hy
          · exact HPLT.out y hy
          · exact dig_lt _ _ y hy
        obtain ⟨g, cp, rfl, hcp, hcp', hr4, hg, _, _⟩ := own_form h1 hplus (by intro h; rw [h] at hdl; simp at hdl)
        rw [hdl] at hcp ⊢
        unfold maxLen at hcp'
        have HO : Hid _ := open_ok w.heap.size g 0 cp p w4 (HTR.out.below B4) hr4 hcp (by omega)
        have HR4 : Hid (BRow w4 (some ⟨g, 0, none⟩) p) := by
          have h := BRow.take hr4 p.length
          rw [List.take_left] at h
          exact h
        have HB4 : Hid (Below wr.heap.size wr w4) := B4
        clear h1 h2 B4 hdl hplus hr4 G1 G2 HON hs3
        go_wp2_with fail
        refine Calls.mono HO.out ?_
        rintro r w5 ⟨rfl, m5, rfl⟩
        obtain ⟨W5, hW5⟩ : ∃ W5, w4.drewN m5 = W5 := ⟨_, rfl⟩
        rw [hW5]
        have HB5 : Hid (Below wr.heap.size wr W5) := by
          have : Below wr.heap.size wr W5 := by rw [← hW5]; exact HB4.out.trans (drewN_below _ _ _)
          exact this
        have HR5 : Hid (BRow W5 (some ⟨g, 0, none⟩) p) := by
          have : BRow W5 (some ⟨g, 0, none⟩) p := by rw [← hW5]; exact HR4.out.drewN m5
          exact this
        have HP5 : Hid (BRow W5 (some ⟨pb, po', none⟩) p) := HRP.out.below HB5.out
        clear hW5 HO HR4 HB4
        go_wp2_with fail
        refine Calls.mono (equal_any p p (some ⟨g, 0, none⟩) (some ⟨pb, po', none⟩) cp pc W5 HR5.out HP5.out) ?_
        rintro r w' ⟨rfl, hw⟩
        have hw := hw.symm; subst hw
        rw [decide_eq_true rfl]
        clear HR5 hcp hcp' hg
        have HON : Hid (OwnB W5 W5.heap.size (.slice none 0 0) []) := World.ownsRow_nil _ _ _ _
        go_wp2_with (at_builtin; refine wpList_append_bytes _ rfl _ _ rfl W5.heap.size (.slice none 0 0) [] p rfl HON.out (some ⟨pb, po', none⟩) pc rfl HP5.out hsum (Nat.le_refl _) ?_; intro v1 w3 g1 g2 _; have G1 : Hid (OwnB w3 W5.heap.size v1 p) := g1; have G2 : Hid (Below W5.heap.size W5 w3) := (Below.refl _ _).grown g2 (Nat.le_refl _) (by intro k hk; cases hk); clear g1 g2)
        have hs3 := G2.out.size
        refine Calls.mono (sealF_any W5.heap.size v1 p w3 G1.out HPLT.out hs3 (by omega)) ?_
        rintro r w4 ⟨v2, rfl, h1, h2⟩
        have B4 : Below W5.heap.size W5 w4 := G2.out.trans h2
        have hdl : (p ++ dig (Flt.fl p) 4).length = p.length + 4 := by rw [List.length_append, dig_length]
        have hplus : ∀ x ∈ p ++ dig (Flt.fl p) 4, x < 256 := by
          intro y hy
          rcases List.mem_append.1 hy with hy | hy
          · exact HPLT.out y hy
          · exact dig_lt _ _ y hy
        obtain ⟨g, cp, rfl, hcp, hcp', hr4, hg, _, _⟩ := own_form h1 hplus (by intro h; rw [h] at hdl; simp at hdl)
        rw [hdl] at hcp ⊢
        unfold maxLen at hcp'
        have HO : Hid _ := openF_ok g 0 cp p w4 hr4 hcp (by omega)
        have HR4 : Hid (BRow w4 (some ⟨g, 0, none⟩) p) := by
          have h := BRow.take hr4 p.length
          rw [List.take_left] at h
          exact h
        have HB4 : Hid (Below wr.heap.size wr w4) := HB5.out.trans (B4.mono HB5.out.size)
        clear h1 h2 B4 hdl hplus hr4 G1 G2 HON hs3
        go_wp2_with fail
        refine Calls.mono HO.out ?_
        rintro r w5 ⟨rfl, m6, rfl⟩
        obtain ⟨W6, hW6⟩ : ∃ W6, w4.drewN m6 = W6 := ⟨_, rfl⟩
        rw [hW6]
        have HB6 : Hid (Below wr.heap.size wr W6) := by
          have : Below wr.heap.size wr W6 := by rw [← hW6]; exact HB4.out.trans (drewN_below _ _ _)
          exact this
        have HR6 : Hid (BRow W6 (some ⟨g, 0, none⟩) p) := by
          have : BRow W6 (some ⟨g, 0, none⟩) p := by rw [← hW6]; exact HR4.out.drewN m6
          exact this
        have HP6 : Hid (BRow W6 (some ⟨pb, po', none⟩) p) := HRP.out.below HB6.out
        clear hW6 HO HR4 HB4 HB5 HP5
        go_wp2_with fail
        refine Calls.mono (equal_any p p (some ⟨g, 0, none⟩) (some ⟨pb, po', none⟩) cp pc W6 HR6.out HP6.out) ?_
        rintro r w' ⟨rfl, hw⟩
        have hw := hw.symm; subst hw
        rw [decide_eq_true rfl]
        have HBW : Hid (∀ m, Below w.heap.size w (W6.drewN m)) := fun m => HB2.out.trans ((HBR.out.mono HB2.out.size).trans ((HB6.out.mono (Nat.le_trans HB2.out.size hszw)).trans (drewN_below _ _ _)))
        clear HR6 HP6 hcp hcp' hg
        by_cases h3 : p.length ≤ 3
        · have h3' : (p.length : Int) ≤ 3 := by omega
          have hpc2 : (p.length : Int) ≤ (pc : Int) := by omega
          go_wp2_with fail
          refine Calls.mono (open_short w.heap.size p.length pc (some ⟨pb, po', none⟩) e W6 (HE.out.below (HBW.out 0)) (by omega)) ?_
          rintro r w7 ⟨rfl, m7, rfl⟩
          go_wp2_with fail
          refine Calls.mono (code_any _ e (HE.out.below (HBW.out m7)) (some 0) (by intro i h; cases h; omega)) ?_
          rintro r w' ⟨rfl, hw⟩
          have hw := hw.symm; subst hw
          rw [show ((errCode (some 0) : Nat) : Int) = 1 from rfl]
          go_wp2_with fail
          refine Calls.mono (openF_short p.length pc (some ⟨pb, po', none⟩) e _ (HE.out.below (HBW.out m7)) (by omega)) ?_
          rintro r w8 ⟨rfl, m8, rfl⟩
          go_wp2_with fail
          refine Calls.mono (code_any _ e (HE.out.below (HBW.out _)) (some 0) (by intro i h; cases h; omega)) ?_
          rintro r w' ⟨rfl, hw⟩
          have hw := hw.symm; subst hw
          rw [show ((errCode (some 0) : Nat) : Int) = 1 from rfl]
          go_wp2
          go_roundw
          case rel => exact ⟨k + 1, by omega, by go_num, (HBR.out.trans (HB6.out.mono hszw)).trans (drewN_below _ _ _)⟩
          case measure => simp [intOf]; omega
        · have h3' : ¬ (p.length : Int) ≤ 3 := by omega
          have hpc2 : (3 : Int) ≤ (pc : Int) := by omega
          go_wp2_with fail
          refine Calls.mono (open_short w.heap.size 3 pc (some ⟨pb, po', none⟩) e W6 (HE.out.below (HBW.out 0)) (by omega)) ?_
          rintro r w7 ⟨rfl, m7, rfl⟩
          go_wp2_with fail
          refine Calls.mono (code_any _ e (HE.out.below (HBW.out m7)) (some 0) (by intro i h; cases h; omega)) ?_
          rintro r w' ⟨rfl, hw⟩
          have hw := hw.symm; subst hw
          rw [show ((errCode (some 0) : Nat) : Int) = 1 from rfl]
          go_wp2_with fail
          refine Calls.mono (openF_short 3 pc (some ⟨pb, po', none⟩) e _ (HE.out.below (HBW.out m7)) (by omega)) ?_
          rintro r w8 ⟨rfl, m8, rfl⟩
          go_wp2_with fail
          refine Calls.mono (code_any _ e (HE.out.below (HBW.out _)) (some 0) (by intro i h; cases h; omega)) ?_
          rintro r w' ⟨rfl, hw⟩
          have hw := hw.symm; subst hw
          rw [show ((errCode (some 0) : Nat) : Int) = 1 from rfl]
          go_wp2
          go_roundw
          case rel => exact ⟨k + 1, by omega, by go_num, (HBR.out.trans (HB6.out.mono hszw)).trans (drewN_below _ _ _)⟩
          case measure => simp [intOf]; omega
      · have hlt' : ¬ (k : Int) < (ps.length : Int) := by omega
        go_wp2
        go_ret
        exact ⟨rfl, HB2.out.trans (hbr.mono HB2.out.size)⟩
end Go.Proofs.Qxb6500698aDoor
