/-
  THE WALK OF THE LAW Fletcher32CatchesSmallChanges.
-/
import Derived.Test.Qxb6500698aBlind
namespace Go.Proofs.Qxb6500698a
open Go.RowKit

set_option maxRecDepth 100000 in
set_option maxHeartbeats 4000000 in
theorem smallChanges_any (ops : List OpD) (ao : Option Addr) (cap : Nat) (w : World) (hs : Script w ao ops) (hm : ops.length ≤ 140737488355328) (hb : ∀ x ∈ ops, x.bs.length ≤ 140737488355328) :
    Calls Try.prog 7 #[.slice ao ops.length cap] w fun e w' => e = .returned (.bool true) ∧ Below w.heap.size w w' := by
  have HSm : Hid _ := small_any ao ops cap w hs hm hb
  cases hsm : small ops with
  | false =>
    rw [hsm] at HSm
    clear hs
    go_enter Try.func7, Try.ntmps7
    go_wp2_with fail
    refine Calls.mono HSm.out ?_
    rintro e w' ⟨rfl, hw⟩
    have hw := hw.symm; subst hw
    go_wp2
    go_ret
    exact ⟨rfl, Below.refl _ _⟩
  | true =>
    rw [hsm] at HSm
    obtain ⟨hn, hbs⟩ := small_len hsm
    have hwl := whole_le hbs
    have hwlt := whole_lt hs.bytes
    have HS : Hid _ := hs
    clear hs hb hsm
    go_enter Try.func7, Try.ntmps7
    go_wp2_with fail
    refine Calls.mono HSm.out ?_
    rintro e w' ⟨rfl, hw⟩
    have hw := hw.symm; subst hw
    go_wp2_with fail
    refine Calls.mono (pieces_any ops ao cap w HS.out hn) ?_
    rintro e w2 ⟨po, c2, rfl, hP2, hb2⟩
    go_wp2_with fail
    refine Calls.mono (join_any (piecesOf ops) po c2 w2 hP2 (by have : (piecesOf ops).flatten.length ≤ 65536 * ops.length := hwl; omega) (by have := pieces_len ops ops.length; rw [List.take_length] at this; omega) hwlt) ?_
    rintro e w3 ⟨wo, c3, rfl, hc3, hc3', hW3, hb3, hfresh⟩
    have HS3 : Hid (Script w3 ao ops) := Script.below (Script.below HS.out hb2) hb3
    have HB3 : Hid (Below w.heap.size w w3) := hb2.trans (hb3.mono hb2.size)
    have hwl' : (piecesOf ops).flatten.length ≤ 65536 * ops.length := hwl
    have HW3' : Hid (BRow w3 wo (piecesOf ops).flatten) := hW3
    have HWL' : Hid (∀ y ∈ (piecesOf ops).flatten, y < 256) := hwlt
    clear hb2 hb3 hP2 hW3 hwl hwlt HS HSm hfresh
    generalize (piecesOf ops).flatten = whole at *
    by_cases hbig : 514 < whole.length
    · have hbig' : (514 : Int) < (whole.length : Int) := by omega
      have hcap' : (514 : Int) ≤ (c3 : Int) := by omega
      obtain ⟨W, hW⟩ : ∃ W, whole.take 514 = W := ⟨_, rfl⟩
      have hWl : W.length = 514 := by rw [← hW]; simp; omega
      have HW3 : Hid (BRow w3 wo W) := by show BRow w3 wo W; rw [← hW]; exact HW3'.out.take 514
      have HWL : Hid (∀ y ∈ W, y < 256) := HW3.out.lt
      clear hW HW3' HWL'
      have hc3'' : c3 ≤ 9223372036854775807 := by unfold maxLen at hc3'; omega
      have HFl := fletcher_any W c3 wo w3 hc3'' (by omega) HW3.out
      rw [hWl] at HFl
      have HFL : Hid _ := HFl
      clear HFl
      go_wp2_with fail
      refine Calls.mono HFL.out ?_
      rintro e w4 ⟨rfl, n4, rfl⟩
      clear HFL
      go_wp2
      go_loopw [28] (fun i wr => ∃ k : Nat, k ≤ ops.length ∧ i = .int .i64 k ∧ Below w3.heap.size w3 wr) (fun i _ => ops.length - (intOf i).toNat)
      case atStart => exact ⟨0, Nat.zero_le _, rfl, drewN_below _ _ _⟩
      case round =>
        obtain ⟨k, hk, rfl, hbr⟩ := hrel
        by_cases hlt : k < ops.length
        · obtain ⟨b, o, rfl, hop⟩ := HS3.out (ne_nil_of_lt hlt)
          have hx := (hop k hlt).same (w' := wr) (fun b o' hb => hbr.cell (p := ⟨b, o', none⟩) hb)
          clear hop
          generalize ops.getD k OpD.zero = x at *
          have k0 := hx.c0
          have k1 := hx.c1
          have k2 := hx.c2
          have k3 := hx.c3
          have k4 := hx.c4
          have k5 := hx.c5
          have hn1 := hx.hn1
          have hn2 := hx.hn2
          have hv := hx.hv
          have hw1 := hx.hw1
          have hw2 := hx.hw2
          clear hx
          have hlt' : (k : Int) < (ops.length : Int) := by omega
          have HBR : Hid _ := hbr
          clear hbr
          go_wp2_with (go_at_call 20; fail)
          refine Calls.mono (within_any _ _ _ (by omega) (by omega) hn1 hn2) ?_
          rintro e w' ⟨rfl, hw⟩
          subst hw
          obtain ⟨i, hi, hil⟩ : ∃ i : Nat, x.n % ((513 : Int) + 1) = i ∧ i < 514 := ⟨(x.n % ((513 : Int) + 1)).toNat, by have := Int.emod_nonneg x.n (show (513 : Int) + 1 ≠ 0 by omega); omega, by have := Int.emod_lt_of_pos x.n (show 0 < (513 : Int) + 1 by omega); omega⟩
          rw [hi]
          clear hi
          go_wp2_with (go_at_call 20; fail)
          refine Calls.mono (within_any _ _ _ (by omega) (by omega) hw1 hw2) ?_
          rintro e w' ⟨rfl, hw⟩
          subst hw
          obtain ⟨j, hj, hjl⟩ : ∃ j : Nat, x.width % ((513 : Int) + 1) = j ∧ j < 514 := ⟨(x.width % ((513 : Int) + 1)).toNat, by have := Int.emod_nonneg x.width (show (513 : Int) + 1 ≠ 0 by omega); omega, by have := Int.emod_lt_of_pos x.width (show 0 < (513 : Int) + 1 by omega); omega⟩
          rw [hj]
          clear hj
          have HWA : Hid (∀ ob, BRow (wr.alloc ob) wo W) := fun ob => (BRow.below HW3.out HBR.out).below ((Below.refl _ _).alloc (Nat.le_refl _) ob)
          go_wp2_with (at_builtin; refine wpList_append_bytes _ rfl _ _ rfl (wr.heap.size + 1) (.slice none 0 0) [] W rfl (World.ownsRow_nil _ _ _ _) wo c3 (by rw [hWl]; rfl) (by exact HWA.out _) (by simp; omega) (by simp) ?_; intro v' w5 hown hgrow _; have HO : Hid _ := hown; have HG : Hid _ := hgrow; clear hown hgrow HWA)
          obtain ⟨g, cg, hv', hcg, hcg', hO, hgb⟩ := Own.of_owns (bs := W) HO.out HWL.out (ne_nil_of_lt (i := i) (by omega))
          rw [hv', hWl]
          have hgr := HG.out
          clear hv' HO HG
          have hb5 : Below (wr.heap.size + 1) _ w5 := ⟨hgr.os, hgr.tape, hgr.output, hgr.size, fun k hk => hgr.block k (by simpa using hk) (by simp [Value.ownBlock])⟩
          have HB5 : Hid (Below w3.heap.size w3 w5) := by
            have h1 := HBR.out.size
            exact (HBR.out.alloc h1 _).trans (hb5.mono (by omega))
          have hw3r := HBR.out.size
          have HBX : w5.cell? ⟨wr.heap.size, 4, none⟩ = some (.int .u64 x.v) := by
            rw [hb5.cell (p := ⟨wr.heap.size, 4, none⟩) (by simp)]; simp
          have hgne : g ≠ wr.heap.size := by omega
          clear hgr hb5 k0 k1 k2 k3 k4 k5 HBR
          have hci := hO.cell (i := i) (by omega)
          have hfi := hO.frozen i
          have hbi := hO.1 _ (getD_mem (d := 0) (i := i) (by omega))
          have hli : (i : Int) < 514 := by omega
          have hlj : (j : Int) < 514 := by omega
          have hpv : x.v % 256 < 256 := by omega
          have hqv : x.v / 256 % 256 < 256 := by omega
          have HO1 : Hid _ := hO.set i (W.getD i 0 ^^^ x.v % 256) (Crc.xor_lt8 hbi hpv)
          have HX1 : Hid (bits BinOp.xor IntKind.u8 ((W.getD i 0 : Nat) : Int) ((x.v : Int) % 256) = ((W.getD i 0 ^^^ x.v % 256 : Nat) : Int)) := by
            have h3 := xor8 _ _ hbi hpv
            rw [show (((x.v % 256 : Nat)) : Int) = (x.v : Int) % 256 by omega] at h3
            exact h3
          have HCT := catches W i j (x.v % 256) (x.v / 256 % 256) HWL.out (by omega) (by omega) (by omega) hpv hqv
          clear hO
          have hbi0 := hbi
          generalize W.getD i 0 = y at *
          go_region
          go_wp2
          rw [HX1.out]
          have hO1 : Own (w5.setCell ⟨g, i, none⟩ (.int .u8 ((y ^^^ x.v % 256 : Nat) : Int))).drew g (W.set i (y ^^^ x.v % 256)) := HO1.out
          have hB6 : Below g w5 (w5.setCell ⟨g, i, none⟩ (.int .u8 ((y ^^^ x.v % 256 : Nat) : Int))).drew := ((Below.refl _ _).setCell (p := ⟨g, i, none⟩) (Nat.le_refl _) _).drew
          clear HO1 HX1 hci hfi
          generalize (w5.setCell ⟨g, i, none⟩ (.int .u8 ((y ^^^ x.v % 256 : Nat) : Int))).drew = w6 at *
          generalize hW1 : W.set i (y ^^^ x.v % 256) = W1 at *
          have hW1l : W1.length = 514 := by rw [← hW1]; simpa using hWl
          have HW1 : Hid _ := hW1
          clear hW1
          have HBX6 : w6.cell? ⟨wr.heap.size, 4, none⟩ = some (.int .u64 x.v) := (hB6.cell (p := ⟨wr.heap.size, 4, none⟩) (by show wr.heap.size < g; omega)).trans HBX
          have hcj := hO1.cell (i := j) (by omega)
          have hfj := hO1.frozen j
          have hbj := hO1.1 _ (getD_mem (d := 0) (i := j) (by omega))
          have HO2 : Hid _ := hO1.set j (W1.getD j 0 ^^^ x.v / 256 % 256) (Crc.xor_lt8 hbj hqv)
          have HX2 : Hid (bits BinOp.xor IntKind.u8 ((W1.getD j 0 : Nat) : Int) ((x.v : Int) / 256 % 256) = ((W1.getD j 0 ^^^ x.v / 256 % 256 : Nat) : Int)) := by
            have h3 := xor8 _ _ hbj hqv
            rw [show (((x.v / 256 % 256 : Nat)) : Int) = (x.v : Int) / 256 % 256 by omega] at h3
            exact h3
          have HB6 : Hid _ := hB6
          clear hO1 HBX hB6
          generalize W1.getD j 0 = z at *
          go_region
          go_wp2_with fail
          rw [HX2.out]
          have hO2 : Own (w6.setCell ⟨g, j, none⟩ (.int .u8 ((z ^^^ x.v / 256 % 256 : Nat) : Int))).drew g (W1.set j (z ^^^ x.v / 256 % 256)) := HO2.out
          have hB7 : Below g w6 (w6.setCell ⟨g, j, none⟩ (.int .u8 ((z ^^^ x.v / 256 % 256 : Nat) : Int))).drew := ((Below.refl _ _).setCell (p := ⟨g, j, none⟩) (Nat.le_refl _) _).drew
          clear HO2 HX2 hcj hfj
          generalize (w6.setCell ⟨g, j, none⟩ (.int .u8 ((z ^^^ x.v / 256 % 256 : Nat) : Int))).drew = w7 at *
          generalize hW2 : W1.set j (z ^^^ x.v / 256 % 256) = W2 at *
          have hW2l : W2.length = 514 := by rw [← hW2]; simpa using hW1l
          have hbw : Below w3.heap.size w3 w7 := HB5.out.trans ((HB6.out.trans hB7).mono (by omega))
          have hWi : BRow w7 wo W := HW3.out.below hbw
          have heq := equal_any W2 W (some ⟨g, 0, none⟩) wo cg c3 w7 hO2.brow hWi
          have hbl := blind_any W W2 wo (some ⟨g, 0, none⟩) c3 cg i j w7 hWi hO2.brow (by omega) (by omega) (by omega) (by omega)
          have hfl2 := fletcher_any W2 cg (some ⟨g, 0, none⟩) w7 (by unfold maxLen at hcg'; omega) (by omega) hO2.brow
          have hls := Flt.fl_lt W
          rw [hWl, hW2l] at heq hbl
          rw [hW2l] at hfl2
          have HEq : Hid _ := heq
          have HBl : Hid _ := hbl
          have HFl2 : Hid _ := hfl2
          have HBW : Hid _ := hbw
          clear hW2 hO2 hB7 heq hbl hfl2 hbw hWi HBX6
          by_cases he : W2 = W
          · rw [decide_eq_true he] at HEq
            refine Calls.mono HEq.out ?_
            rintro e w' ⟨rfl, hw⟩
            have hw := hw.symm; subst hw
            clear HCT he
            go_wp2
            go_roundw
            case rel => exact ⟨k + 1, by omega, by go_num, HBW.out⟩
            case measure => simp [intOf]; omega
          · rw [decide_eq_false he] at HEq
            have HCT2 := HCT he
            clear HCT
            refine Calls.mono HEq.out ?_
            rintro e w' ⟨rfl, hw⟩
            have hw := hw.symm; subst hw
            go_wp2_with fail
            cases hbd : blind W W2 i j with
            | true =>
              rw [hbd] at HBl
              refine Calls.mono HBl.out ?_
              rintro e w' ⟨rfl, hw⟩
              have hw := hw.symm; subst hw
              clear HCT2 he
              go_wp2
              go_roundw
              case rel => exact ⟨k + 1, by omega, by go_num, HBW.out⟩
              case measure => simp [intOf]; omega
            | false =>
              rw [hbd] at HBl
              have hne := HCT2 hbd
              refine Calls.mono HBl.out ?_
              rintro e w' ⟨rfl, hw⟩
              have hw := hw.symm; subst hw
              clear HCT2 he
              go_wp2_with fail
              refine Calls.mono HFl2.out ?_
              rintro e w8 ⟨rfl, n8, rfl⟩
              have hneb : (((Flt.fl W2 : Nat) : Int) == ((Flt.fl W : Nat) : Int)) = false := by
                rw [beq_eq_false_iff_ne]; intro h; exact hne (by omega)
              go_wp2
              go_roundw
              case rel => exact ⟨k + 1, by omega, by go_num, HBW.out.trans (drewN_below _ _ _)⟩
              case measure => simp [intOf]; omega
        · have hlt' : ¬ (k : Int) < (ops.length : Int) := by omega
          go_wp2
          go_ret
          refine ⟨rfl, HB3.out.trans (hbr.mono ?_)⟩
          exact HB3.out.size
    · have hbig' : ¬ (514 : Int) < (whole.length : Int) := by omega
      by_cases hw0 : whole = []
      · have hz : ((whole.length : Int) == 0) = true := by rw [hw0]; rfl
        go_wp2
        go_ret
        exact ⟨rfl, HB3.out⟩
      · have hpos := List.length_pos_iff.2 hw0
        have hz : ((whole.length : Int) == 0) = false := by simp; omega
        obtain ⟨W, hW⟩ : ∃ W, whole = W := ⟨_, rfl⟩
        have hWl : W.length = whole.length := by rw [hW]
        have HW3 : Hid (BRow w3 wo W) := by show BRow w3 wo W; rw [← hW]; exact HW3'.out
        have HWL : Hid (∀ y ∈ W, y < 256) := HW3.out.lt
        clear hW HW3' HWL' hw0
        have hc3'' : c3 ≤ 9223372036854775807 := by unfold maxLen at hc3'; omega
        have HFl := fletcher_any W c3 wo w3 hc3'' (by omega) HW3.out
        rw [hWl] at HFl
        have HFL : Hid _ := HFl
        clear HFl
        go_wp2_with fail
        refine Calls.mono HFL.out ?_
        rintro e w4 ⟨rfl, n4, rfl⟩
        clear HFL
        go_wp2
        go_loopw [28] (fun i wr => ∃ k : Nat, k ≤ ops.length ∧ i = .int .i64 k ∧ Below w3.heap.size w3 wr) (fun i _ => ops.length - (intOf i).toNat)
        case atStart => exact ⟨0, Nat.zero_le _, rfl, drewN_below _ _ _⟩
        case round =>
          obtain ⟨k, hk, rfl, hbr⟩ := hrel
          by_cases hlt : k < ops.length
          · obtain ⟨b, o, rfl, hop⟩ := HS3.out (ne_nil_of_lt hlt)
            have hx := (hop k hlt).same (w' := wr) (fun b o' hb => hbr.cell (p := ⟨b, o', none⟩) hb)
            clear hop
            generalize ops.getD k OpD.zero = x at *
            have k0 := hx.c0
            have k1 := hx.c1
            have k2 := hx.c2
            have k3 := hx.c3
            have k4 := hx.c4
            have k5 := hx.c5
            have hn1 := hx.hn1
            have hn2 := hx.hn2
            have hv := hx.hv
            have hw1 := hx.hw1
            have hw2 := hx.hw2
            clear hx
            have hlt' : (k : Int) < (ops.length : Int) := by omega
            have HBR : Hid _ := hbr
            clear hbr
            go_wp2_with (go_at_call 20; fail)
            refine Calls.mono (within_any _ _ _ (by omega) (by omega) hn1 hn2) ?_
            rintro e w' ⟨rfl, hw⟩
            subst hw
            obtain ⟨i, hi, hil⟩ : ∃ i : Nat, x.n % ((whole.length : Int) - 1 + 1) = i ∧ i < whole.length := ⟨(x.n % ((whole.length : Int) - 1 + 1)).toNat, by have := Int.emod_nonneg x.n (show (whole.length : Int) - 1 + 1 ≠ 0 by omega); omega, by have := Int.emod_lt_of_pos x.n (show 0 < (whole.length : Int) - 1 + 1 by omega); omega⟩
            rw [hi]
            clear hi
            go_wp2_with (go_at_call 20; fail)
            refine Calls.mono (within_any _ _ _ (by omega) (by omega) hw1 hw2) ?_
            rintro e w' ⟨rfl, hw⟩
            subst hw
            obtain ⟨j, hj, hjl⟩ : ∃ j : Nat, x.width % ((whole.length : Int) - 1 + 1) = j ∧ j < whole.length := ⟨(x.width % ((whole.length : Int) - 1 + 1)).toNat, by have := Int.emod_nonneg x.width (show (whole.length : Int) - 1 + 1 ≠ 0 by omega); omega, by have := Int.emod_lt_of_pos x.width (show 0 < (whole.length : Int) - 1 + 1 by omega); omega⟩
            rw [hj]
            clear hj
            have HWA : Hid (∀ ob, BRow (wr.alloc ob) wo W) := fun ob => (BRow.below HW3.out HBR.out).below ((Below.refl _ _).alloc (Nat.le_refl _) ob)
            go_wp2_with (at_builtin; refine wpList_append_bytes _ rfl _ _ rfl (wr.heap.size + 1) (.slice none 0 0) [] W rfl (World.ownsRow_nil _ _ _ _) wo c3 (by rw [hWl]; rfl) (by exact HWA.out _) (by simp; omega) (by simp) ?_; intro v' w5 hown hgrow _; have HO : Hid _ := hown; have HG : Hid _ := hgrow; clear hown hgrow HWA)
            obtain ⟨g, cg, hv', hcg, hcg', hO, hgb⟩ := Own.of_owns (bs := W) HO.out HWL.out (ne_nil_of_lt (i := i) (by omega))
            rw [hv', hWl]
            have hgr := HG.out
            clear hv' HO HG
            have hb5 : Below (wr.heap.size + 1) _ w5 := ⟨hgr.os, hgr.tape, hgr.output, hgr.size, fun k hk => hgr.block k (by simpa using hk) (by simp [Value.ownBlock])⟩
            have HB5 : Hid (Below w3.heap.size w3 w5) := by
              have h1 := HBR.out.size
              exact (HBR.out.alloc h1 _).trans (hb5.mono (by omega))
            have hw3r := HBR.out.size
            have HBX : w5.cell? ⟨wr.heap.size, 4, none⟩ = some (.int .u64 x.v) := by
              rw [hb5.cell (p := ⟨wr.heap.size, 4, none⟩) (by simp)]; simp
            have hgne : g ≠ wr.heap.size := by omega
            clear hgr hb5 k0 k1 k2 k3 k4 k5 HBR
            have hci := hO.cell (i := i) (by omega)
            have hfi := hO.frozen i
            have hbi := hO.1 _ (getD_mem (d := 0) (i := i) (by omega))
            have hli : (i : Int) < (whole.length : Int) := by omega
            have hlj : (j : Int) < (whole.length : Int) := by omega
            have hpv : x.v % 256 < 256 := by omega
            have hqv : x.v / 256 % 256 < 256 := by omega
            have HO1 : Hid _ := hO.set i (W.getD i 0 ^^^ x.v % 256) (Crc.xor_lt8 hbi hpv)
            have HX1 : Hid (bits BinOp.xor IntKind.u8 ((W.getD i 0 : Nat) : Int) ((x.v : Int) % 256) = ((W.getD i 0 ^^^ x.v % 256 : Nat) : Int)) := by
              have h3 := xor8 _ _ hbi hpv
              rw [show (((x.v % 256 : Nat)) : Int) = (x.v : Int) % 256 by omega] at h3
              exact h3
            have HCT := catches W i j (x.v % 256) (x.v / 256 % 256) HWL.out (by omega) (by omega) (by omega) hpv hqv
            clear hO
            have hbi0 := hbi
            generalize W.getD i 0 = y at *
            go_region
            go_wp2
            rw [HX1.out]
            have hO1 : Own (w5.setCell ⟨g, i, none⟩ (.int .u8 ((y ^^^ x.v % 256 : Nat) : Int))).drew g (W.set i (y ^^^ x.v % 256)) := HO1.out
            have hB6 : Below g w5 (w5.setCell ⟨g, i, none⟩ (.int .u8 ((y ^^^ x.v % 256 : Nat) : Int))).drew := ((Below.refl _ _).setCell (p := ⟨g, i, none⟩) (Nat.le_refl _) _).drew
            clear HO1 HX1 hci hfi
            generalize (w5.setCell ⟨g, i, none⟩ (.int .u8 ((y ^^^ x.v % 256 : Nat) : Int))).drew = w6 at *
            generalize hW1 : W.set i (y ^^^ x.v % 256) = W1 at *
            have hW1l : W1.length = whole.length := by rw [← hW1]; simpa using hWl
            have HW1 : Hid _ := hW1
            clear hW1
            have HBX6 : w6.cell? ⟨wr.heap.size, 4, none⟩ = some (.int .u64 x.v) := (hB6.cell (p := ⟨wr.heap.size, 4, none⟩) (by show wr.heap.size < g; omega)).trans HBX
            have hcj := hO1.cell (i := j) (by omega)
            have hfj := hO1.frozen j
            have hbj := hO1.1 _ (getD_mem (d := 0) (i := j) (by omega))
            have HO2 : Hid _ := hO1.set j (W1.getD j 0 ^^^ x.v / 256 % 256) (Crc.xor_lt8 hbj hqv)
            have HX2 : Hid (bits BinOp.xor IntKind.u8 ((W1.getD j 0 : Nat) : Int) ((x.v : Int) / 256 % 256) = ((W1.getD j 0 ^^^ x.v / 256 % 256 : Nat) : Int)) := by
              have h3 := xor8 _ _ hbj hqv
              rw [show (((x.v / 256 % 256 : Nat)) : Int) = (x.v : Int) / 256 % 256 by omega] at h3
              exact h3
            have HB6 : Hid _ := hB6
            clear hO1 HBX hB6
            generalize W1.getD j 0 = z at *
            go_region
            go_wp2_with fail
            rw [HX2.out]
            have hO2 : Own (w6.setCell ⟨g, j, none⟩ (.int .u8 ((z ^^^ x.v / 256 % 256 : Nat) : Int))).drew g (W1.set j (z ^^^ x.v / 256 % 256)) := HO2.out
            have hB7 : Below g w6 (w6.setCell ⟨g, j, none⟩ (.int .u8 ((z ^^^ x.v / 256 % 256 : Nat) : Int))).drew := ((Below.refl _ _).setCell (p := ⟨g, j, none⟩) (Nat.le_refl _) _).drew
            clear HO2 HX2 hcj hfj
            generalize (w6.setCell ⟨g, j, none⟩ (.int .u8 ((z ^^^ x.v / 256 % 256 : Nat) : Int))).drew = w7 at *
            generalize hW2 : W1.set j (z ^^^ x.v / 256 % 256) = W2 at *
            have hW2l : W2.length = whole.length := by rw [← hW2]; simpa using hW1l
            have hbw : Below w3.heap.size w3 w7 := HB5.out.trans ((HB6.out.trans hB7).mono (by omega))
            have hWi : BRow w7 wo W := HW3.out.below hbw
            have heq := equal_any W2 W (some ⟨g, 0, none⟩) wo cg c3 w7 hO2.brow hWi
            have hbl := blind_any W W2 wo (some ⟨g, 0, none⟩) c3 cg i j w7 hWi hO2.brow (by omega) (by omega) (by omega) (by omega)
            have hfl2 := fletcher_any W2 cg (some ⟨g, 0, none⟩) w7 (by unfold maxLen at hcg'; omega) (by omega) hO2.brow
            have hls := Flt.fl_lt W
            rw [hWl, hW2l] at heq hbl
            rw [hW2l] at hfl2
            have HEq : Hid _ := heq
            have HBl : Hid _ := hbl
            have HFl2 : Hid _ := hfl2
            have HBW : Hid _ := hbw
            clear hW2 hO2 hB7 heq hbl hfl2 hbw hWi HBX6
            by_cases he : W2 = W
            · rw [decide_eq_true he] at HEq
              refine Calls.mono HEq.out ?_
              rintro e w' ⟨rfl, hw⟩
              have hw := hw.symm; subst hw
              clear HCT he
              go_wp2
              go_roundw
              case rel => exact ⟨k + 1, by omega, by go_num, HBW.out⟩
              case measure => simp [intOf]; omega
            · rw [decide_eq_false he] at HEq
              have HCT2 := HCT he
              clear HCT
              refine Calls.mono HEq.out ?_
              rintro e w' ⟨rfl, hw⟩
              have hw := hw.symm; subst hw
              go_wp2_with fail
              cases hbd : blind W W2 i j with
              | true =>
                rw [hbd] at HBl
                refine Calls.mono HBl.out ?_
                rintro e w' ⟨rfl, hw⟩
                have hw := hw.symm; subst hw
                clear HCT2 he
                go_wp2
                go_roundw
                case rel => exact ⟨k + 1, by omega, by go_num, HBW.out⟩
                case measure => simp [intOf]; omega
              | false =>
                rw [hbd] at HBl
                have hne := HCT2 hbd
                refine Calls.mono HBl.out ?_
                rintro e w' ⟨rfl, hw⟩
                have hw := hw.symm; subst hw
                clear HCT2 he
                go_wp2_with fail
                refine Calls.mono HFl2.out ?_
                rintro e w8 ⟨rfl, n8, rfl⟩
                have hneb : (((Flt.fl W2 : Nat) : Int) == ((Flt.fl W : Nat) : Int)) = false := by
                  rw [beq_eq_false_iff_ne]; intro h; exact hne (by omega)
                go_wp2
                go_roundw
                case rel => exact ⟨k + 1, by omega, by go_num, HBW.out.trans (drewN_below _ _ _)⟩
                case measure => simp [intOf]; omega
          · have hlt' : ¬ (k : Int) < (ops.length : Int) := by omega
            go_wp2
            go_ret
            refine ⟨rfl, HB3.out.trans (hbr.mono ?_)⟩
            exact HB3.out.size

end Go.Proofs.Qxb6500698a
