/-
  THE WALK OF THE LAW CRC32CombineIsConcatenation.
-/
import Derived.Test.Qxb6500698aOwn
import Derived.Test.Qxb6500698aCrcC
import Derived.Test.Qxb6500698aComb
namespace Go.Proofs.Qxb6500698a
open Go.RowKit

set_option maxRecDepth 100000 in
set_option maxHeartbeats 2000000 in
theorem comb_any (ops : List OpD) (ao : Option Addr) (cap : Nat) (w : World) (hs : Script w ao ops) (hm : ops.length ≤ 140737488355328) (hb : ∀ x ∈ ops, x.bs.length ≤ 140737488355328) :
    Calls Try.prog 4 #[.slice ao ops.length cap] w fun e w' => e = .returned (.bool true) ∧ Below w.heap.size w w' := by
  have HSm : Hid _ := small_any ao ops cap w hs hm hb
  cases hsm : small ops with
  | false =>
    rw [hsm] at HSm
    clear hs
    go_enter Try.func4, Try.ntmps4
    go_wp2_with fail
    refine Calls.mono HSm.out ?_
    rintro e w' ⟨rfl, hw⟩
    have hw := hw.symm; subst hw
    go_wp2
    go_ret
    exact ⟨rfl, Below.refl _ _⟩
  | true =>
    rw [hsm] at HSm
    obtain ⟨hn, hbs⟩ := small_len hsm
    have hwl := whole_le hbs
    have hwlt := whole_lt hs.bytes
    have HS : Hid _ := hs
    clear hs hb hsm
    go_enter Try.func4, Try.ntmps4
    go_wp2_with fail
    refine Calls.mono HSm.out ?_
    rintro e w' ⟨rfl, hw⟩
    have hw := hw.symm; subst hw
    go_wp2_with fail
    refine Calls.mono (newCrc_any _) ?_
    rintro e w1 ⟨rfl, hb1, hT1⟩
    go_wp2_with fail
    refine Calls.mono (pieces_any ops ao cap w1 (Script.below HS.out hb1) hn) ?_
    rintro e w2 ⟨po, c2, rfl, hP2, hb2⟩
    go_wp2_with fail
    refine Calls.mono (join_any (piecesOf ops) po c2 w2 hP2 (by have : (piecesOf ops).flatten.length ≤ 65536 * ops.length := hwl; omega) (by have := pieces_len ops ops.length; rw [List.take_length] at this; omega) hwlt) ?_
    rintro e w3 ⟨wo, c3, rfl, hc3, hc3', hW3, hb3, hform⟩
    have HT3 : Hid (Tabs w3 w.heap.size) := (hT1.below hb2).below hb3
    have HS3 : Hid (Script w3 ao ops) := Script.below (Script.below (Script.below HS.out hb1) hb2) hb3
    have HB3 : Hid (Below w.heap.size w w3) := hb1.trans ((hb2.mono hb1.size).trans (hb3.mono (Nat.le_trans hb1.size hb2.size)))
    have HW3 : Hid (BRow w3 wo (piecesOf ops).flatten) := hW3
    have hwl' : (piecesOf ops).flatten.length ≤ 65536 * ops.length := hwl
    have HWL : Hid (∀ y ∈ (piecesOf ops).flatten, y < 256) := hwlt
    have hform' : wo = none ∨ ∃ g, wo = some ⟨g, 0, none⟩ := by
      rcases hform with ⟨h, _⟩ | ⟨g, h, _⟩
      · exact .inl h
      · exact .inr ⟨g, h⟩
    have HFm : Hid _ := hform'
    clear hT1 hb2 hb3 hP2 hW3 hwl hwlt HS HSm hb1 hform hform'
    generalize (piecesOf ops).flatten = whole at *
    unfold maxLen at hc3'
    go_wp2_with fail
    refine Calls.mono (modelCrc_any whole c3 wo w3 (by omega) HW3.out) ?_
    rintro e w4 ⟨rfl, hw⟩
    have hw := hw.symm; subst hw
    go_wp2
    go_loopw [22] (fun i wr => ∃ k : Nat, k ≤ ops.length ∧ i = .int .i64 k ∧ Below w3.heap.size w3 wr) (fun i _ => ops.length - (intOf i).toNat)
    case atStart => exact ⟨0, Nat.zero_le _, rfl, Below.refl _ _⟩
    case round =>
      obtain ⟨k, hk, rfl, hbr⟩ := hrel
      by_cases hlt : k < ops.length
      · obtain ⟨b, o, rfl, hop⟩ := HS3.out (ne_nil_of_lt hlt)
        have hx := (hop k hlt).same (w' := wr) (fun b o' hb => hbr.cell (p := ⟨b, o', none⟩) hb)
        clear hop
        generalize ops.getD k OpD.zero = x at *
        have k0 := hx.c0
        have k1 := hx.c1
        have k2 := hx.c2
        have k3 := hx.c3
        have k4 := hx.c4
        have k5 := hx.c5
        have hn1 := hx.hn1
        have hn2 := hx.hn2
        clear hx
        have hlt' : (k : Int) < (ops.length : Int) := by omega
        have HBR : Hid _ := hbr
        clear hbr
        go_wp2_with (go_at_call 20; fail)
        refine Calls.mono (within_any _ _ _ (by omega) (by omega) hn1 hn2) ?_
        rintro e w' ⟨rfl, hw⟩
        subst hw
        obtain ⟨s, hs, hsl⟩ : ∃ s : Nat, x.n % ((whole.length : Int) + 1) = s ∧ s ≤ whole.length := ⟨(x.n % ((whole.length : Int) + 1)).toNat, by have := Int.emod_nonneg x.n (show (whole.length : Int) + 1 ≠ 0 by omega); omega, by have := Int.emod_lt_of_pos x.n (show 0 < (whole.length : Int) + 1 by omega); omega⟩
        rw [hs]
        clear hs
        have hsl' : (s : Int) ≤ (whole.length : Int) := by omega
        have hsc : (s : Int) ≤ (c3 : Int) := by omega
        have hbox : Below w3.heap.size w3 wr := HBR.out
        have hrowd := BRow.drop_any HW3.out HFm.out s c3 hc3
        obtain ⟨ad, had⟩ : ∃ ad, (if c3 = s then wo else Option.map (fun x => x.add s) wo) = ad := ⟨_, rfl⟩
        rw [had] at hrowd
        have HD : Hid _ := hrowd
        have HTk : Hid _ := BRow.take HW3.out s
        have hlt1 : (whole.take s).length = s := by simp; omega
        have hlt2 : (whole.drop s).length = whole.length - s := by simp
        have HA : Hid (∀ ob n, Below w3.heap.size w3 ((wr.alloc ob).drewN n)) := fun ob n => (hbox.alloc hbox.size ob).trans (drewN_below _ _ _)
        have H1 : Hid (∀ W, Below w3.heap.size w3 W → Calls Try.prog 14 #[.pointer (some ⟨w.heap.size, 0, none⟩), .slice wo s c3] W fun e w' => e = .returned (.int .u32 ((Crc.crc (whole.take s) : Nat) : Int)) ∧ ∃ n, w' = W.drewN n) := by
          intro W hW
          have h1 := checksum_any (whole.take s) w.heap.size c3 wo W (by omega) (by omega) (HT3.out.below hW) (BRow.below HTk.out hW)
          rwa [hlt1] at h1
        have H2 : Hid (∀ W, Below w3.heap.size w3 W → Calls Try.prog 14 #[.pointer (some ⟨w.heap.size, 0, none⟩), .slice ad (whole.length - s) (c3 - s)] W fun e w' => e = .returned (.int .u32 ((Crc.crc (whole.drop s) : Nat) : Int)) ∧ ∃ n, w' = W.drewN n) := by
          intro W hW
          have h1 := checksum_any (whole.drop s) w.heap.size (c3 - s) ad W (by omega) (by omega) (HT3.out.below hW) (BRow.below HD.out hW)
          rwa [hlt2] at h1
        have hu1 : Crc.crc (whole.take s) < 4294967296 := Crc.upd_lt _ (by decide) (fun x hx => HWL.out x (List.mem_of_mem_take hx))
        have hu2 : Crc.crc (whole.drop s) < 4294967296 := Crc.upd_lt _ (by decide) (fun x hx => HWL.out x (List.mem_of_mem_drop hx))
        have HCat : Hid (Crc.steps (8 * (whole.length - s)) (Crc.crc (whole.take s)) ^^^ Crc.crc (whole.drop s) = Crc.crc whole) := by
          have := Crc.combine (whole.take s) (whole.drop s) (fun x hx => HWL.out x (List.mem_of_mem_drop hx))
          rwa [hlt2, List.take_append_drop] at this
        have hms : whole.length - s ≤ 4294967296 := by omega
        clear hbox hrowd hlt1 hlt2 HD HTk
        generalize Crc.crc (whole.take s) = q1 at *
        generalize Crc.crc (whole.drop s) = q2 at *
        go_wp2
        go_quiet (fail)
        go_wp2_with fail
        refine Calls.mono (H1.out _ (HA.out _ _)) ?_
        rintro e w5 ⟨rfl, n5, rfl⟩
        go_wp2_with fail
        refine Calls.mono (H2.out _ (HA.out _ _)) ?_
        rintro e w6 ⟨rfl, n6, rfl⟩
        go_wp2_with fail
        refine Calls.mono (combine_any _ q1 q2 (whole.length - s) _ hu1 hu2 (by omega)) ?_
        rintro e w7 ⟨rfl, hw⟩
        subst hw
        rw [HCat.out]
        go_wp2
        go_roundw
        case rel => exact ⟨k + 1, by omega, by go_num, HA.out _ _⟩
        case measure => simp [intOf]; omega
      · have hlt' : ¬ (k : Int) < (ops.length : Int) := by omega
        go_wp2
        go_ret
        refine ⟨rfl, HB3.out.trans (hbr.mono ?_)⟩
        exact HB3.out.size
end Go.Proofs.Qxb6500698a
