/-
  THE WALK OF THE LAW CRC32TableIsLongDivision.
-/
import Derived.Test.Qxb6500698aOwn
import Derived.Test.Qxb6500698aCrcC
import Derived.Test.Qxb6500698aComb
import Derived.Test.Qxb6500698aDig
namespace Go.Proofs.Qxb6500698a
open Go.RowKit

/-- The running checksum behind its stores: all blocks below it are as they were. -/
theorem dig_below {w : World} {d : Nat} {B : Nat} (hB : B ≤ d) (u v : Value) (m : Nat) : Below B w (((w.setCell ⟨d, 1, none⟩ u).setCell ⟨d, 2, none⟩ v).drewN m) :=
  (((Below.refl B w).setCell (p := ⟨d, 1, none⟩) hB u).setCell (p := ⟨d, 2, none⟩) hB v).trans (drewN_below _ _ _)

set_option maxRecDepth 100000 in
set_option maxHeartbeats 4000000 in
theorem table_any (ops : List OpD) (ao : Option Addr) (cap : Nat) (w : World) (hs : Script w ao ops) (hm : ops.length ≤ 140737488355328) (hb : ∀ x ∈ ops, x.bs.length ≤ 140737488355328) :
    Calls Try.prog 3 #[.slice ao ops.length cap] w fun e w' => e = .returned (.bool true) ∧ Below w.heap.size w w' := by
  have HSm : Hid _ := small_any ao ops cap w hs hm hb
  cases hsm : small ops with
  | false =>
    rw [hsm] at HSm
    clear hs
    go_enter Try.func3, Try.ntmps3
    go_wp2_with fail
    refine Calls.mono HSm.out ?_
    rintro e w' ⟨rfl, hw⟩
    have hw := hw.symm; subst hw
    go_wp2
    go_ret
    exact ⟨rfl, Below.refl _ _⟩
  | true =>
    rw [hsm] at HSm
    obtain ⟨hn, hbs⟩ := small_len hsm
    have hwl := whole_le hbs
    have hwlt := whole_lt hs.bytes
    have HS : Hid _ := hs
    clear hs hb hsm
    go_enter Try.func3, Try.ntmps3
    go_wp2_with fail
    refine Calls.mono HSm.out ?_
    rintro e w' ⟨rfl, hw⟩
    have hw := hw.symm; subst hw
    go_wp2_with fail
    refine Calls.mono (newCrc_any _) ?_
    rintro e w1 ⟨rfl, hb1, hT1⟩
    go_wp2_with fail
    refine Calls.mono (pieces_any ops ao cap w1 (Script.below HS.out hb1) hn) ?_
    rintro e w2 ⟨po, c2, rfl, hP2, hb2⟩
    go_wp2_with fail
    have hpl : (piecesOf ops).length ≤ 65536 := by have := pieces_len ops ops.length; rw [List.take_length] at this; omega
    refine Calls.mono (join_any (piecesOf ops) po c2 w2 hP2 (by have : (piecesOf ops).flatten.length ≤ 65536 * ops.length := hwl; omega) (by omega) hwlt) ?_
    rintro e w3 ⟨wo, c3, rfl, hc3, hc3', hW3, hb3, hform⟩
    have HT3 : Hid (Tabs w3 w.heap.size) := (hT1.below hb2).below hb3
    have HS3 : Hid (Script w3 ao ops) := Script.below (Script.below (Script.below HS.out hb1) hb2) hb3
    have HB3 : Hid (Below w.heap.size w w3) := hb1.trans ((hb2.mono hb1.size).trans (hb3.mono (Nat.le_trans hb1.size hb2.size)))
    have HP3 : Hid (Parts w3 po (piecesOf ops)) := Parts.below hP2 hb3
    have HW3 : Hid (BRow w3 wo (piecesOf ops).flatten) := hW3
    have hwl' : (piecesOf ops).flatten.length ≤ 65536 * ops.length := hwl
    have HWL : Hid (∀ y ∈ (piecesOf ops).flatten, y < 256) := hwlt
    have hform' : wo = none ∨ ∃ g, wo = some ⟨g, 0, none⟩ := by
      rcases hform with ⟨h, _⟩ | ⟨g, h, _⟩
      · exact .inl h
      · exact .inr ⟨g, h⟩
    have HFm : Hid _ := hform'
    clear hT1 hb2 hb3 hP2 hW3 hwl hwlt HS HSm hb1 hform hform'
    unfold maxLen at hc3'
    generalize hfl : (piecesOf ops).flatten = whole at *
    have HFl : Hid ((piecesOf ops).flatten = whole) := hfl
    clear hfl
    generalize piecesOf ops = ps at *
    have hcw : Crc.crc whole < 4294967296 := Crc.upd_lt _ (by decide) HWL.out
    go_wp2_with fail
    refine Calls.mono (modelCrc_any whole c3 wo w3 (by omega) HW3.out) ?_
    rintro e w4 ⟨rfl, hw⟩
    have hw := hw.symm; subst hw
    go_wp2_with fail
    refine Calls.mono (checksum_any whole w.heap.size c3 wo w3 (by omega) hc3 HT3.out HW3.out) ?_
    rintro e w4 ⟨rfl, n4, rfl⟩
    go_wp2_with fail
    refine Calls.mono (newDigest_any w.heap.size _) ?_
    rintro e w5 ⟨rfl, hb5, hD5⟩
    have HB5 : Hid (Below w3.heap.size w3 w5) := (drewN_below w3 n4 _).trans hb5
    have HD5 : Hid (DigAt w5 w3.heap.size w.heap.size 0 0) := hD5
    clear hb5 hD5
    go_wp2
    go_loopw [7, 33] (fun r i wr => ∃ k : Nat, k ≤ ps.length ∧ i = .int .i64 k ∧ r = .int .u32 ((Crc.upd 0 (ps.take k).flatten : Nat) : Int) ∧ DigAt wr w3.heap.size w.heap.size (Crc.upd 0 (ps.take k).flatten) (ps.take k).flatten.length ∧ Below w3.heap.size w3 wr) (fun _ i _ => ps.length - (intOf i).toNat)
    case atStart => exact ⟨0, Nat.zero_le _, rfl, by simp [Crc.upd_nil], by simpa [Crc.upd_nil] using HD5.out, HB5.out⟩
    case round =>
      obtain ⟨k, hk, rfl, rfl, hD, hbr⟩ := hrel
      by_cases hlt : k < ps.length
      · obtain ⟨b, o, rfl, hcs⟩ := HP3.out (ne_nil_of_lt hlt)
        obtain ⟨v, hc, hv⟩ := hcs k hlt
        have hc' : wr.cell? ⟨b, o + k, none⟩ = some v := (hbr.cell (p := ⟨b, o + k, none⟩) (cell_lt hc)).trans hc
        obtain ⟨pb, po', pc, rfl, hpc, hpc2, hrow⟩ := hv.val
        unfold maxLen at hpc2
        have hle := flatten_take_le ps (k + 1)
        have hsucc := flatten_take_succ ps k hlt
        rw [HFl.out] at hle
        rw [hsucc, List.length_append] at hle
        have hul : Crc.upd 0 (ps.take k).flatten < 4294967296 := Crc.upd_lt _ (by decide) (fun x hx => HWL.out x (by
          rw [← HFl.out]
          obtain ⟨l, hl, hx⟩ := List.mem_flatten.1 hx
          exact List.mem_flatten.2 ⟨l, List.mem_of_mem_take hl, hx⟩))
        have HSu : Hid ((ps.take (k + 1)).flatten = (ps.take k).flatten ++ ps.getD k []) := hsucc
        have HUp : Hid (Crc.upd 0 ((ps.take k).flatten ++ ps.getD k []) = Crc.upd (Crc.upd 0 (ps.take k).flatten) (ps.getD k [])) := Crc.upd_append _ _ _
        have HRow : Hid (BRow w3 (some ⟨pb, po', none⟩) (ps.getD k [])) := hrow
        have HD : Hid _ := hD
        have HBR : Hid _ := hbr
        clear hsucc hcs hv hc hrow hD hbr
        generalize ps.getD k [] = p at *
        generalize hq : (ps.take k).flatten = q at *
        clear hq
        have H1 : Hid _ := update_any p (Crc.upd 0 q) hul w.heap.size pc (some ⟨pb, po', none⟩) wr (by omega) hpc (HT3.out.below HBR.out) (HRow.out.below HBR.out)
        have H2 : Hid (∀ n, Calls Try.prog 17 #[.pointer (some ⟨w3.heap.size, 0, none⟩), .slice (some ⟨pb, po', none⟩) p.length pc] (wr.drewN n) fun e w' => e = .returned (.tuple #[.int .i64 p.length, .nilIface]) ∧
            ∃ m, w' = (((wr.drewN n).setCell ⟨w3.heap.size, 1, none⟩ (.int .u32 ((Crc.upd (Crc.upd 0 q) p : Nat) : Int))).setCell ⟨w3.heap.size, 2, none⟩ (.int .u64 ((q.length + p.length : Nat) : Int))).drewN m) :=
          fun n => write_any p w3.heap.size w.heap.size (Crc.upd 0 q) q.length pc (some ⟨pb, po', none⟩) _ (DigAt.of_block HD.out rfl) ((HT3.out.below HBR.out).below (drewN_below _ _ _)) ((HRow.out.below HBR.out).drewN n) hul hpc (by omega) (by omega)
        have hlt' : (k : Int) < (ps.length : Int) := by omega
        go_wp2_with fail
        refine Calls.mono H1.out ?_
        rintro e w6 ⟨rfl, n6, rfl⟩
        go_wp2_with fail
        refine Calls.mono (H2.out n6) ?_
        rintro e w7 ⟨rfl, m7, rfl⟩
        have HF : Hid (DigAt ((((wr.drewN n6).setCell ⟨w3.heap.size, 1, none⟩ (.int .u32 ((Crc.upd (Crc.upd 0 q) p : Nat) : Int))).setCell ⟨w3.heap.size, 2, none⟩ (.int .u64 ((q.length + p.length : Nat) : Int))).drewN m7) w3.heap.size w.heap.size (Crc.upd 0 (q ++ p)) (q ++ p).length ∧
            Below w3.heap.size w3 ((((wr.drewN n6).setCell ⟨w3.heap.size, 1, none⟩ (.int .u32 ((Crc.upd (Crc.upd 0 q) p : Nat) : Int))).setCell ⟨w3.heap.size, 2, none⟩ (.int .u64 ((q.length + p.length : Nat) : Int))).drewN m7)) := by
          refine ⟨?_, (HBR.out.trans (drewN_below _ _ _)).trans (dig_below (Nat.le_refl _) _ _ _)⟩
          rw [HUp.out, List.length_append]
          exact DigAt.set (w := wr.drewN n6) (c := Crc.upd 0 q) (n := q.length) (DigAt.of_block HD.out rfl) (Crc.upd (Crc.upd 0 q) p) (q.length + p.length) m7
        generalize (((wr.drewN n6).setCell ⟨w3.heap.size, 1, none⟩ (.int .u32 ((Crc.upd (Crc.upd 0 q) p : Nat) : Int))).setCell ⟨w3.heap.size, 2, none⟩ (.int .u64 ((q.length + p.length : Nat) : Int))).drewN m7 = w8 at *
        clear H1 H2 HD HBR HRow
        go_wp2
        go_roundw
        case rel => exact ⟨k + 1, by omega, by go_num, by rw [HSu.out, HUp.out], by rw [HSu.out]; exact HF.out.1, HF.out.2⟩
        case measure => simp [intOf]; omega
      · have hlt' : ¬ (k : Int) < (ps.length : Int) := by omega
        have hkk : k = ps.length := by omega
        subst hkk
        rw [List.take_length, HFl.out] at hD
        rw [List.take_length, HFl.out]
        have HC : Hid (Crc.upd 0 whole = Crc.crc whole) := rfl
        rw [HC.out] at hD ⊢
        have HSu : Hid _ := sum32_any _ _ _ _ _ hD
        have HLe : Hid _ := len_any _ _ _ _ _ hD
        have HBR : Hid _ := hbr
        clear hD hbr
        go_wp2_with fail
        refine Calls.mono HSu.out ?_
        rintro e w6 ⟨rfl, hw⟩
        have hw := hw.symm; subst hw
        go_wp2_with fail
        refine Calls.mono HLe.out ?_
        rintro e w6 ⟨rfl, hw⟩
        have hw := hw.symm; subst hw
        go_wp2
        go_loopw [64] (fun i wr => ∃ k : Nat, k ≤ ops.length ∧ i = .int .i64 k ∧ Below w3.heap.size w3 wr) (fun i _ => ops.length - (intOf i).toNat)
        case atStart => exact ⟨0, Nat.zero_le _, rfl, HBR.out⟩
        case round =>
          clear HBR HSu HLe
          obtain ⟨k, hk, rfl, hbr⟩ := hrel
          by_cases hlt : k < ops.length
          · obtain ⟨b, o, rfl, hop⟩ := HS3.out (ne_nil_of_lt hlt)
            have hx := (hop k hlt).same (w' := wr) (fun b o' hb => hbr.cell (p := ⟨b, o', none⟩) hb)
            clear hop
            generalize ops.getD k OpD.zero = x at *
            have k0 := hx.c0
            have k1 := hx.c1
            have k2 := hx.c2
            have k3 := hx.c3
            have k4 := hx.c4
            have k5 := hx.c5
            have hn1 := hx.hn1
            have hn2 := hx.hn2
            clear hx
            have hlt' : (k : Int) < (ops.length : Int) := by omega
            have HA : Hid (∀ ob n, Below w3.heap.size w3 ((wr.alloc ob).drewN n)) := fun ob n => (hbr.alloc hbr.size ob).trans (drewN_below _ _ _)
            clear hbr
            go_wp2_with (go_at_call 20; fail)
            refine Calls.mono (within_any _ _ _ (by omega) (by omega) hn1 hn2) ?_
            rintro e w' ⟨rfl, hw⟩
            subst hw
            obtain ⟨s, hs, hsl⟩ : ∃ s : Nat, x.n % ((whole.length : Int) + 1) = s ∧ s ≤ whole.length := ⟨(x.n % ((whole.length : Int) + 1)).toNat, by have := Int.emod_nonneg x.n (show (whole.length : Int) + 1 ≠ 0 by omega); omega, by have := Int.emod_lt_of_pos x.n (show 0 < (whole.length : Int) + 1 by omega); omega⟩
            rw [hs]
            clear hs
            have hsl' : (s : Int) ≤ (whole.length : Int) := by omega
            have hsc : (s : Int) ≤ (c3 : Int) := by omega
            have hrowd := BRow.drop_any HW3.out HFm.out s c3 hc3
            obtain ⟨ad, had⟩ : ∃ ad, (if c3 = s then wo else Option.map (fun x => x.add s) wo) = ad := ⟨_, rfl⟩
            rw [had] at hrowd
            have HTk : Hid _ := BRow.take HW3.out s
            have hlt1 : (whole.take s).length = s := by simp; omega
            have hlt2 : (whole.drop s).length = whole.length - s := by simp
            have hu1 : Crc.crc (whole.take s) < 4294967296 := Crc.upd_lt _ (by decide) (fun x hx => HWL.out x (List.mem_of_mem_take hx))
            have H1 : Hid (∀ W, Below w3.heap.size w3 W → Calls Try.prog 14 #[.pointer (some ⟨w.heap.size, 0, none⟩), .slice wo s c3] W fun e w' => e = .returned (.int .u32 ((Crc.crc (whole.take s) : Nat) : Int)) ∧ ∃ n, w' = W.drewN n) := by
              intro W hW
              have h1 := checksum_any (whole.take s) w.heap.size c3 wo W (by omega) (by omega) (HT3.out.below hW) (BRow.below HTk.out hW)
              rwa [hlt1] at h1
            have H2 : Hid (∀ W, Below w3.heap.size w3 W → Calls Try.prog 16 #[.pointer (some ⟨w.heap.size, 0, none⟩), .int .u32 ((Crc.crc (whole.take s) : Nat) : Int), .slice ad (whole.length - s) (c3 - s)] W fun e w' => e = .returned (.int .u32 ((Crc.crc whole : Nat) : Int)) ∧ ∃ n, w' = W.drewN n) := by
              intro W hW
              have h1 := update_any (whole.drop s) (Crc.crc (whole.take s)) hu1 w.heap.size (c3 - s) ad W (by omega) (by omega) (HT3.out.below hW) (BRow.below hrowd hW)
              rw [hlt2] at h1
              have e : Crc.upd (Crc.crc (whole.take s)) (whole.drop s) = Crc.crc whole := by
                have := Crc.upd_append 0 (whole.take s) (whole.drop s)
                rw [List.take_append_drop] at this
                exact this.symm
              rwa [e] at h1
            clear hrowd hlt1 hlt2 HTk
            generalize Crc.crc (whole.take s) = q1 at *
            go_wp2
            go_quiet (first | (go_at_call 14; exact Calls.quiet_of (H1.out _ (HA.out _ _))) | (go_at_call 16; exact Calls.quiet_of (H2.out _ (HA.out _ _))))
            go_wp2
            go_roundw
            case rel => exact ⟨k + 1, by omega, by go_num, HA.out _ _⟩
            case measure => simp [intOf]; omega
          · have hlt' : ¬ (k : Int) < (ops.length : Int) := by omega
            go_wp2
            go_ret
            refine ⟨rfl, HB3.out.trans (hbr.mono ?_)⟩
            exact HB3.out.size

end Go.Proofs.Qxb6500698a
