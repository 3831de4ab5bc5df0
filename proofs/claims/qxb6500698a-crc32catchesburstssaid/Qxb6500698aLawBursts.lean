/-
  THE WALK OF THE LAW CRC32CatchesBursts.
-/
import Derived.Test.Qxb6500698aOwn
import Derived.Test.Qxb6500698aCrcC
namespace Go.Proofs.Qxb6500698a
open Go.RowKit

theorem xor8_pow (y j : Nat) (hy : y < 256) (hp : 2 ^ j < 256) : bits BinOp.xor IntKind.u8 (y : Int) (2 ^ j % 256) = ((y ^^^ 2 ^ j : Nat) : Int) := by
  have e3 : (2 : Int) ^ j = ((2 ^ j : Nat) : Int) := by simp
  rw [e3]
  generalize 2 ^ j = p at *
  rw [Int.emod_eq_of_lt (by omega) (by omega)]
  exact xor8 _ _ hy hp

theorem crc_ne (a b : List Nat) (hl : a.length = b.length) (ha : ∀ x ∈ a, x < 256) (hb : ∀ x ∈ b, x < 256) (s v : Nat) (hs : s < 8 * a.length) (hv : v < 4294967296)
    (hd : Crc.le b = Crc.le a ^^^ 2 ^ s * v) (hne : b ≠ a) : ¬ Crc.crc b = Crc.crc a := by
  intro h
  unfold Crc.crc Crc.upd at h
  have h2 := congrArg (fun t => t ^^^ Crc.ones) h
  simp only [Nat.xor_assoc, Nat.xor_self, Nat.xor_zero] at h2
  exact Crc.crc_catches _ a b hl ha hb s v hs hv hd hne h2

theorem and1_64 (v m : Nat) (h : v < 18446744073709551616) : bits BinOp.and IntKind.u64 ((v : Int) / 2 ^ m) 1 = ((v / 2 ^ m % 2 : Nat) : Int) := by
  have e : ((v : Int) / 2 ^ m) = ((v / 2 ^ m : Nat) : Int) := by
    rw [Int.natCast_ediv]; simp
  have hl : v / 2 ^ m < 18446744073709551616 := Nat.lt_of_le_of_lt (Nat.div_le_self _ _) h
  have := u64_and_nat (v / 2 ^ m) 1 hl (by decide)
  rw [show ((1 : Nat) : Int) = 1 from rfl] at this
  rw [e, this, Nat.and_one_is_mod]

set_option maxRecDepth 100000 in
set_option maxHeartbeats 2000000 in
theorem bursts_any (ops : List OpD) (ao : Option Addr) (cap : Nat) (w : World) (hs : Script w ao ops) (hm : ops.length ≤ 140737488355328) (hb : ∀ x ∈ ops, x.bs.length ≤ 140737488355328) :
    Calls Try.prog 5 #[.slice ao ops.length cap] w fun e w' => e = .returned (.bool true) ∧ Below w.heap.size w w' := by
  have HSm : Hid _ := small_any ao ops cap w hs hm hb
  cases hsm : small ops with
  | false =>
    rw [hsm] at HSm
    clear hs
    go_enter Try.func5, Try.ntmps5
    go_wp2_with fail
    refine Calls.mono HSm.out ?_
    rintro e w' ⟨rfl, hw⟩
    have hw := hw.symm; subst hw
    go_wp2
    go_ret
    exact ⟨rfl, Below.refl _ _⟩
  | true =>
    rw [hsm] at HSm
    obtain ⟨hn, hbs⟩ := small_len hsm
    have hwl := whole_le hbs
    have hwlt := whole_lt hs.bytes
    have hplt := pieces_lt hs.bytes
    have HS : Hid _ := hs
    clear hs hb hsm
    go_enter Try.func5, Try.ntmps5
    go_wp2_with fail
    refine Calls.mono HSm.out ?_
    rintro e w' ⟨rfl, hw⟩
    have hw := hw.symm; subst hw
    go_wp2_with fail
    refine Calls.mono (newCrc_any _) ?_
    rintro e w1 ⟨rfl, hb1, hT1⟩
    go_wp2_with fail
    refine Calls.mono (pieces_any ops ao cap w1 (Script.below HS.out hb1) hn) ?_
    rintro e w2 ⟨po, c2, rfl, hP2, hb2⟩
    go_wp2_with fail
    refine Calls.mono (join_any (piecesOf ops) po c2 w2 hP2 (by have : (piecesOf ops).flatten.length ≤ 65536 * ops.length := hwl; omega) (by have := pieces_len ops ops.length; rw [List.take_length] at this; omega) hwlt) ?_
    rintro e w3 ⟨wo, c3, rfl, hc3, hc3', hW3, hb3, hfresh⟩
    have HT3 : Hid (Tabs w3 w.heap.size) := (hT1.below hb2).below hb3
    have HS3 : Hid (Script w3 ao ops) := Script.below (Script.below (Script.below HS.out hb1) hb2) hb3
    have HB3 : Hid (Below w.heap.size w w3) := hb1.trans ((hb2.mono hb1.size).trans (hb3.mono (Nat.le_trans hb1.size hb2.size)))
    have HW3 : Hid (BRow w3 wo (piecesOf ops).flatten) := hW3
    have hwl' : (piecesOf ops).flatten.length ≤ 65536 * ops.length := hwl
    have HWL : Hid (∀ y ∈ (piecesOf ops).flatten, y < 256) := hwlt
    clear hT1 hb2 hb3 hP2 hW3 hwl hwlt hplt HS HSm hb1
    generalize (piecesOf ops).flatten = whole at *
    by_cases hw0 : whole = []
    · have hz : ((whole.length : Int) == 0) = true := by rw [hw0]; rfl
      go_wp2
      go_ret
      exact ⟨rfl, HB3.out⟩
    · have hz : ((whole.length : Int) == 0) = false := by have := List.length_pos_iff.2 hw0; simp; omega
      go_wp2_with fail
      refine Calls.mono (checksum_any whole w.heap.size c3 wo w3 (by unfold maxLen at hc3'; omega) hc3 HT3.out HW3.out) ?_
      rintro e w4 ⟨rfl, n4, rfl⟩
      go_wp2
      go_loopw [26] (fun i wr => ∃ k : Nat, k ≤ ops.length ∧ i = .int .i64 k ∧ Below w3.heap.size w3 wr) (fun i _ => ops.length - (intOf i).toNat)
      case atStart => exact ⟨0, Nat.zero_le _, rfl, drewN_below _ _ _⟩
      case round =>
        obtain ⟨k, hk, rfl, hbr⟩ := hrel
        by_cases hlt : k < ops.length
        · obtain ⟨b, o, rfl, hop⟩ := HS3.out (ne_nil_of_lt hlt)
          have hx := (hop k hlt).same (w' := wr) (fun b o' hb => hbr.cell (p := ⟨b, o', none⟩) hb)
          clear hop
          generalize ops.getD k OpD.zero = x at *
          have c0 := hx.c0
          have c1 := hx.c1
          have c2 := hx.c2
          have c3 := hx.c3
          have c4 := hx.c4
          have c5 := hx.c5
          have hn1 := hx.hn1
          have hn2 := hx.hn2
          have hv := hx.hv
          clear hx
          have hlt' : (k : Int) < (ops.length : Int) := by omega
          have hpos := List.length_pos_iff.2 hw0
          have h8 : (0 : Int) ≤ 8 * (whole.length : Int) - 1 := by omega
          have h8' : 8 * (whole.length : Int) - 1 ≤ 1099511627776 := by omega
          have HBR : Hid _ := hbr
          clear hbr
          go_wp2_with (go_at_call 20; refine Calls.mono (within_any _ _ _ h8 h8' hn1 hn2) ?_; rintro e w' ⟨rfl, rfl⟩; fail)
          refine Calls.mono (within_any _ _ _ h8 h8' hn1 hn2) ?_
          rintro e w' ⟨rfl, hw⟩
          subst hw
          obtain ⟨s, hs, hslt⟩ : ∃ s : Nat, x.n % (8 * (whole.length : Int) - 1 + 1) = s ∧ s < 8 * whole.length := ⟨(x.n % (8 * (whole.length : Int) - 1 + 1)).toNat, by have := Int.emod_nonneg x.n (show 8 * (whole.length : Int) - 1 + 1 ≠ 0 by omega); omega, by have := Int.emod_lt_of_pos x.n (show 0 < 8 * (whole.length : Int) - 1 + 1 by omega); omega⟩
          rw [hs]
          clear hs
          have HWA : Hid (∀ ob, BRow (wr.alloc ob) wo whole) := fun ob => (BRow.below HW3.out HBR.out).below ((Below.refl _ _).alloc (Nat.le_refl _) ob)
          go_wp2_with (at_builtin; refine wpList_append_bytes _ rfl _ _ rfl (wr.heap.size + 1) (.slice none 0 0) [] whole rfl (World.ownsRow_nil _ _ _ _) wo _ rfl (by exact HWA.out _) (by simp; omega) (by simp) ?_; intro v' w5 hown hgrow _; have HO : Hid _ := hown; have HG : Hid _ := hgrow; clear hown hgrow HWA)
          obtain ⟨g, cg, hv', hcg, hcg', hO, hgb⟩ := Own.of_owns (bs := whole) HO.out HWL.out hw0
          rw [hv']
          have hgr := HG.out
          clear hv' HO HG
          have hb5 : Below (wr.heap.size + 1) _ w5 := ⟨hgr.os, hgr.tape, hgr.output, hgr.size, fun k hk => hgr.block k (by simpa using hk) (by simp [Value.ownBlock])⟩
          have HB5 : Hid (Below w3.heap.size w3 w5) := by
            have h1 := HBR.out.size
            exact (HBR.out.alloc h1 _).trans (hb5.mono (by omega))
          have HBX : w5.cell? ⟨wr.heap.size, 4, none⟩ = some (.int .u64 x.v) := by
            rw [hb5.cell (p := ⟨wr.heap.size, 4, none⟩) (by simp)]; simp
          have hgr5 : wr.heap.size + 1 ≤ g := hgb
          clear hgr hb5 c0 c1 c2 c3 c4 c5
          have hlen5 : 8 * (whole.length : Int) ≤ 1099511627776 := by omega
          go_loopw [10] (fun i wi => ∃ m : Nat, m ≤ 32 ∧ s + m ≤ 8 * whole.length ∧ i = .int .i64 m ∧ Own wi g (flip whole s x.v m) ∧ Below g w5 wi) (fun i _ => 32 - (intOf i).toNat)
          case atStart => exact ⟨0, by omega, by omega, rfl, hO, Below.refl _ _⟩
          case round =>
            rename World => wi
            obtain ⟨m, hm32, hsm, rfl, hOi, hbi⟩ := hrel
            have HBX' : wi.cell? ⟨wr.heap.size, 4, none⟩ = some (.int .u64 x.v) := (hbi.cell (p := ⟨wr.heap.size, 4, none⟩) (by show wr.heap.size < g; omega)).trans HBX
            by_cases hgo : m < 32 ∧ s + m < 8 * whole.length
            · obtain ⟨hg1, hg2⟩ := hgo
              have hg1' : (m : Int) < 32 := by omega
              have hg2' : (s : Int) + (m : Int) < 8 * (whole.length : Int) := by omega
              have hbit := and1_64 x.v m hv
              have hfl := flip_length whole s x.v m
              have hidx : (s + m) / 8 < (flip whole s x.v m).length := by omega
              have hcell := hOi.cell hidx
              have hfz := hOi.frozen ((s + m) / 8)
              have hy := hOi.1 _ (getD_mem (d := 0) hidx)
              by_cases hb1 : x.v / 2 ^ m % 2 = 1
              · rw [hb1] at hbit
                have HN : Hid (flip whole s x.v (m + 1) = (flip whole s x.v m).set ((s + m) / 8) ((flip whole s x.v m).getD ((s + m) / 8) 0 ^^^ 2 ^ ((s + m) % 8))) := by
                  show flip whole s x.v (m + 1) = _
                  rw [flip, if_pos hb1]
                have hp8 : 2 ^ ((s + m) % 8) < 256 := by
                  have : 2 ^ ((s + m) % 8) < 2 ^ 8 := Nat.pow_lt_pow_right (by decide) (Nat.mod_lt _ (by decide))
                  simpa using this
                have HO1 : Hid _ := hOi.set ((s + m) / 8) ((flip whole s x.v m).getD ((s + m) / 8) 0 ^^^ 2 ^ ((s + m) % 8)) (Crc.xor_lt8 hy hp8)
                have HB1 : Hid _ := hbi.setCell (p := ⟨g, (s + m) / 8, none⟩) (Nat.le_refl _) (.int .u8 (((flip whole s x.v m).getD ((s + m) / 8) 0 ^^^ 2 ^ ((s + m) % 8) : Nat) : Int))
                have HE : Hid (bits BinOp.xor IntKind.u8 (((flip whole s x.v m).getD ((s + m) / 8) 0 : Nat) : Int) (2 ^ ((s + m) % 8) % 256) = (((flip whole s x.v m).getD ((s + m) / 8) 0 ^^^ 2 ^ ((s + m) % 8) : Nat) : Int)) := by
                  exact xor8_pow _ _ hy hp8
                clear hOi hbi hb1 hfl
                generalize (flip whole s x.v m).getD ((s + m) / 8) 0 = y at *
                have hidx' : ((s : Int) + (m : Int)) / 8 < (whole.length : Int) := by omega
                go_wp2
                go_region
                go_wp2
                go_roundw
                case rel =>
                  refine ⟨m + 1, by omega, by omega, by go_num, ?_, ?_⟩
                  · rw [HE.out, HN.out]; exact Own.drew HO1.out
                  · rw [HE.out]; exact Below.drew HB1.out
                case measure => simp [intOf]; omega
              · have hb0 : x.v / 2 ^ m % 2 = 0 := by omega
                rw [hb0] at hbit
                have HN : Hid (flip whole s x.v (m + 1) = flip whole s x.v m) := by
                  show flip whole s x.v (m + 1) = _
                  rw [flip, if_neg hb1]
                have HO1 : Hid _ := hOi
                have HB1 : Hid _ := hbi
                clear hOi hbi hb1 hb0 hfl hcell hfz hy hidx
                go_wp2
                go_roundw
                case rel => exact ⟨m + 1, by omega, by omega, by go_num, by rw [HN.out]; exact HO1.out, HB1.out⟩
                case measure => simp [intOf]; omega
            · have hbw : Below w3.heap.size w3 wi := by
                have h1 := HBR.out.size
                exact HB5.out.trans (hbi.mono (by omega))
              have HBW : Hid _ := hbw
              have hWi : BRow wi wo whole := HW3.out.below hbw
              have hTi : Tabs wi w.heap.size := HT3.out.below hbw
              have hfl := flip_length whole s x.v m
              have hle := flip_le whole s x.v m HWL.out (by omega)
              have hcat : ¬ flip whole s x.v m = whole → ¬ Crc.crc (flip whole s x.v m) = Crc.crc whole := fun hne =>
                crc_ne _ _ hfl.symm HWL.out hOi.1 s (x.v % 2 ^ m) hslt (by
                  have : x.v % 2 ^ m < 2 ^ m := Nat.mod_lt _ (Nat.two_pow_pos m)
                  have h2 : 2 ^ m ≤ 2 ^ 32 := Nat.pow_le_pow_right (by decide) hm32
                  omega) hle hne
              have hcr1 : Crc.crc whole < 4294967296 := Crc.upd_lt whole (by decide) HWL.out
              have HOi : Hid _ := hOi
              have HEq : Hid _ := equal_any (flip whole s x.v m) whole (some ⟨g, 0, none⟩) wo cg c3 wi hOi.brow hWi
              have HCk : Hid _ := checksum_any (flip whole s x.v m) w.heap.size cg (some ⟨g, 0, none⟩) wi (by unfold maxLen at hcg'; omega) (by omega) hTi hOi.brow
              rw [hfl] at HEq HCk
              have hstop : ¬ (m : Int) < 32 ∨ ((m : Int) < 32 ∧ ¬ (s : Int) + (m : Int) < 8 * (whole.length : Int)) := by omega
              clear hOi hbi hWi hTi hle HBX HBX' hbw hfl
              generalize flip whole s x.v m = hurt at *
              clear hgo
              rcases hstop with hA | ⟨hA, hB⟩
              all_goals
                by_cases he : hurt = whole
                · rw [decide_eq_true he] at HEq
                  go_wp2_with fail
                  refine Calls.mono HEq.out ?_
                  rintro e w' ⟨rfl, hw⟩
                  have hw := hw.symm; subst hw
                  go_wp2
                  go_roundw
                  case rel => exact ⟨k + 1, by omega, by go_num, HBW.out⟩
                  case measure => simp [intOf]; omega
                · rw [decide_eq_false he] at HEq
                  have hne := hcat he
                  go_wp2_with fail
                  refine Calls.mono HEq.out ?_
                  rintro e w' ⟨rfl, hw⟩
                  have hw := hw.symm; subst hw
                  go_wp2_with fail
                  refine Calls.mono HCk.out ?_
                  rintro e w' ⟨rfl, n7, rfl⟩
                  have hneb : (((Crc.crc hurt : Nat) : Int) == ((Crc.crc whole : Nat) : Int)) = false := by
                    rw [beq_eq_false_iff_ne]; intro h; exact hne (by omega)
                  go_wp2
                  go_roundw
                  case rel => exact ⟨k + 1, by omega, by go_num, HBW.out.trans (drewN_below _ _ _)⟩
                  case measure => simp [intOf]; omega
        · have hlt' : ¬ (k : Int) < (ops.length : Int) := by omega
          go_wp2
          go_ret
          refine ⟨rfl, HB3.out.trans (hbr.mono ?_)⟩
          exact HB3.out.size
end Go.Proofs.Qxb6500698a
