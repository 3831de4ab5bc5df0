/-
  THE WALK OF THE LAW Fletcher32DeferredIsDefinition.
-/
import Derived.Test.Qxb6500698aOwn
import Derived.Test.Qxb6500698aJoin
import Derived.Test.Qxb6500698aPieces
import Derived.Test.Qxb6500698aFltD
import Derived.Test.Qxb6500698aFltM
import Derived.Test.Qxb6500698aRep
namespace Go.Proofs.Qxb6500698a
open Go.RowKit

theorem head_row (w : World) : BRow (w.alloc (.cells #[.int .u8 254, .int .u8 255] 5)) (some ⟨w.heap.size, 0, none⟩) [254, 255] := by
  refine ⟨by simp, fun _ => ⟨_, _, rfl, ?_⟩⟩
  intro i hi
  have hb := heap_alloc_new w (.cells #[.int .u8 254, .int .u8 255] 5)
  match i, hi with
  | 0, _ => simp only [World.cell?]; rw [show (0 : Nat) + 0 = 0 from rfl, hb]; rfl
  | 1, _ => simp only [World.cell?]; rw [hb]; rfl

theorem ones_row {w : World} {b n : Nat} (h : w.rowIs b 5 n (fun _ => .int .u8 ((255 : Nat) : Int))) : BRow w (some ⟨b, 0, none⟩) (List.replicate n 255) := by
  refine BRow.of_rowIs (t := 5) (n := n) (h.congr ?_) ?_ (by simp)
  · intro i hi; simp [List.getD_eq_getElem?_getD, hi]
  · intro x hx; rw [List.mem_replicate] at hx; omega

set_option maxRecDepth 100000 in
set_option maxHeartbeats 4000000 in
theorem def_any (ops : List OpD) (ao : Option Addr) (cap : Nat) (w : World) (hs : Script w ao ops) (hm : ops.length ≤ 140737488355328) (hb : ∀ x ∈ ops, x.bs.length ≤ 140737488355328) :
    Calls Try.prog 6 #[.slice ao ops.length cap] w fun e w' => e = .returned (.bool true) ∧ Below w.heap.size w w' := by
  have HSm : Hid _ := small_any ao ops cap w hs hm hb
  cases hsm : small ops with
  | false =>
    rw [hsm] at HSm
    clear hs
    go_enter Try.func6, Try.ntmps6
    go_wp2_with fail
    refine Calls.mono HSm.out ?_
    rintro e w' ⟨rfl, hw⟩
    have hw := hw.symm; subst hw
    go_wp2
    go_ret
    exact ⟨rfl, Below.refl _ _⟩
  | true =>
    rw [hsm] at HSm
    obtain ⟨hn, hbs⟩ := small_len hsm
    have hwl := whole_le hbs
    have hwlt := whole_lt hs.bytes
    have HS : Hid _ := hs
    clear hs hb hsm
    go_enter Try.func6, Try.ntmps6
    go_wp2_with fail
    refine Calls.mono HSm.out ?_
    rintro e w' ⟨rfl, hw⟩
    have hw := hw.symm; subst hw
    go_wp2_with fail
    refine Calls.mono (pieces_any ops ao cap w HS.out hn) ?_
    rintro e w2 ⟨po, c2, rfl, hP2, hb2⟩
    go_wp2_with fail
    have hpl : (piecesOf ops).length ≤ 65536 := by have := pieces_len ops ops.length; rw [List.take_length] at this; omega
    refine Calls.mono (join_any (piecesOf ops) po c2 w2 hP2 (by have : (piecesOf ops).flatten.length ≤ 65536 * ops.length := hwl; omega) (by omega) hwlt) ?_
    rintro e w3 ⟨wo, c3, rfl, hc3, hc3', hW3, hb3, hform⟩
    have HS3 : Hid (Script w3 ao ops) := Script.below (Script.below HS.out hb2) hb3
    have HB3 : Hid (Below w.heap.size w w3) := hb2.trans (hb3.mono hb2.size)
    have HP3 : Hid (Parts w3 po (piecesOf ops)) := Parts.below hP2 hb3
    have HW3 : Hid (BRow w3 wo (piecesOf ops).flatten) := hW3
    have hwl' : (piecesOf ops).flatten.length ≤ 65536 * ops.length := hwl
    have HWL : Hid (∀ y ∈ (piecesOf ops).flatten, y < 256) := hwlt
    have hform' : wo = none ∨ ∃ g, wo = some ⟨g, 0, none⟩ := by
      rcases hform with ⟨h, _⟩ | ⟨g, h, _⟩
      · exact .inl h
      · exact .inr ⟨g, h⟩
    have HFm : Hid _ := hform'
    clear hb2 hb3 hP2 hW3 hwl hwlt HS HSm hform hform'
    unfold maxLen at hc3'
    generalize hfl : (piecesOf ops).flatten = whole at *
    have HFl : Hid ((piecesOf ops).flatten = whole) := hfl
    clear hfl
    generalize piecesOf ops = ps at *
    have hcw : Flt.fl whole < 4294967296 := Flt.fl_lt _
    go_wp2_with fail
    refine Calls.mono (modelFlt_any whole c3 wo w3 (by omega) HW3.out) ?_
    rintro e w4 ⟨rfl, hw⟩
    have hw := hw.symm; subst hw
    go_wp2_with fail
    refine Calls.mono (fletcher_any whole c3 wo w3 (by omega) hc3 HW3.out) ?_
    rintro e w4 ⟨rfl, n4, rfl⟩
    have HB5 : Hid (Below w3.heap.size w3 ((w3.drewN n4).alloc (.cells #[.int .u32 0, .int .u32 0, .int .u8 0, .bool false, .int .u64 0] 49))) := Below.alloc (drewN_below w3 n4 _) (show w3.heap.size ≤ (w3.drewN n4).heap.size from Nat.le_refl _) _
    have HD5 : Hid (FlAcc ((w3.drewN n4).alloc (.cells #[.int .u32 0, .int .u32 0, .int .u8 0, .bool false, .int .u64 0] 49)) w3.heap.size []) := FlAcc.start (heap_alloc_new _ _)
    go_wp2
    go_loopw [30] (fun i wr => ∃ k : Nat, k ≤ ps.length ∧ i = .int .i64 k ∧ FlAcc wr w3.heap.size (ps.take k).flatten ∧ Below w3.heap.size w3 wr) (fun i _ => ps.length - (intOf i).toNat)
    case atStart => exact ⟨0, Nat.zero_le _, rfl, HD5.out, HB5.out⟩
    case round =>
      clear HD5 HB5
      obtain ⟨k, hk, rfl, hD, hbr⟩ := hrel
      have HD : Hid (FlAcc wr w3.heap.size (ps.take k).flatten) := hD
      have HBR : Hid (Below w3.heap.size w3 wr) := hbr
      clear hD hbr
      by_cases hlt : k < ps.length
      · obtain ⟨b, o, rfl, hcs⟩ := HP3.out (ne_nil_of_lt hlt)
        obtain ⟨v, hc, hv⟩ := hcs k hlt
        have hc' : wr.cell? ⟨b, o + k, none⟩ = some v := (HBR.out.cell (p := ⟨b, o + k, none⟩) (cell_lt hc)).trans hc
        obtain ⟨pb, po', pc, rfl, hpc, hpc2, hrow⟩ := hv.val
        unfold maxLen at hpc2
        have hle := flatten_take_le ps (k + 1)
        have hsucc := flatten_take_succ ps k hlt
        rw [HFl.out] at hle
        rw [hsucc, List.length_append] at hle
        have HSu : Hid ((ps.take (k + 1)).flatten = (ps.take k).flatten ++ ps.getD k []) := hsucc
        have HRow : Hid (BRow w3 (some ⟨pb, po', none⟩) (ps.getD k [])) := hrow
        clear hsucc hcs hv hc hrow
        generalize ps.getD k [] = p at *
        generalize hq : (ps.take k).flatten = q at *
        clear hq
        have H2 : Hid _ := fwrite_any q p w3.heap.size pc (some ⟨pb, po', none⟩) wr HD.out (HRow.out.below HBR.out) (HRow.out.apart (Nat.le_refl _)) hpc (by omega) (by omega)
        have hlt' : (k : Int) < (ps.length : Int) := by omega
        go_wp2_with fail
        refine Calls.mono H2.out ?_
        rintro e w7 ⟨rfl, hO7, hA7⟩
        have HF : Hid (FlAcc w7 w3.heap.size (q ++ p) ∧ Below w3.heap.size w3 w7) := ⟨hA7, HBR.out.trans (hO7.below (Nat.le_refl _))⟩
        clear H2 HD HBR HRow hO7 hA7
        go_wp2
        go_roundw
        case rel => exact ⟨k + 1, by omega, by go_num, by rw [HSu.out]; exact HF.out.1, HF.out.2⟩
        case measure => simp [intOf]; omega
      · have hlt' : ¬ (k : Int) < (ps.length : Int) := by omega
        have hkk : k = ps.length := by omega
        subst hkk
        have HD' : Hid (FlAcc wr w3.heap.size whole) := by
          show FlAcc wr w3.heap.size whole
          have := HD.out
          rwa [List.take_length, HFl.out] at this
        have HSu : Hid _ := fsum_any _ _ _ HD'.out
        have HLe : Hid (∀ n, Calls Try.prog 27 #[.pointer (some ⟨w3.heap.size, 0, none⟩)] (wr.drewN n) fun e w' => e = .returned (.int .u64 whole.length) ∧ w' = wr.drewN n) := fun n => facc_len _ _ _ (FlAcc.of_block HD'.out rfl)
        clear HD
        go_wp2_with fail
        refine Calls.mono HSu.out ?_
        rintro e w6 ⟨rfl, n6, rfl⟩
        go_wp2_with fail
        refine Calls.mono (HLe.out n6) ?_
        rintro e w6 ⟨rfl, hw⟩
        subst hw
        have HD6 : Hid (FlAcc (wr.drewN n6) w3.heap.size whole) := FlAcc.of_block HD'.out rfl
        have HB6 : Hid (Below w3.heap.size w3 (wr.drewN n6)) := HBR.out.trans (drewN_below _ _ _)
        clear HD' HBR HSu HLe
        generalize wr.drewN n6 = w6 at *
        go_wp2
        go_loopw [49] (fun i wr => ∃ (k : Nat) (bs : List Nat), k ≤ ops.length ∧ i = .int .i64 k ∧ FlAcc wr w3.heap.size bs ∧ Below w3.heap.size w3 wr) (fun i _ => ops.length - (intOf i).toNat)
        case atStart => exact ⟨0, _, Nat.zero_le _, rfl, HD6.out, HB6.out⟩
        case round =>
          clear HD6 HB6
          obtain ⟨k, bs, hk, rfl, hD, hbr⟩ := hrel
          have HD : Hid (FlAcc wr w3.heap.size bs) := hD
          have HBR : Hid (Below w3.heap.size w3 wr) := hbr
          by_cases hlt : k < ops.length
          · obtain ⟨b, o, rfl, hop⟩ := HS3.out (ne_nil_of_lt hlt)
            have hx := (hop k hlt).same (w' := wr) (fun b o' hb => hbr.cell (p := ⟨b, o', none⟩) hb)
            clear hop
            generalize ops.getD k OpD.zero = x at *
            have k0 := hx.c0
            have k1 := hx.c1
            have k2 := hx.c2
            have k3 := hx.c3
            have k4 := hx.c4
            have k5 := hx.c5
            have hn1 := hx.hn1
            have hn2 := hx.hn2
            clear hx
            have hlt' : (k : Int) < (ops.length : Int) := by omega
            have HA : Hid (∀ ob, Below w3.heap.size w3 (wr.alloc ob) ∧ FlAcc (wr.alloc ob) w3.heap.size bs) := fun ob => ⟨hbr.alloc hbr.size ob, FlAcc.of_block hD (Below.heap_alloc _ _ _ hD.lt)⟩
            clear hbr hD HD HBR
            go_wp2_with (go_at_call 20; fail)
            refine Calls.mono (within_any _ _ _ (by omega) (by omega) hn1 hn2) ?_
            rintro e w' ⟨rfl, hw⟩
            have hw := hw.symm; subst hw
            obtain ⟨s, hs, hsl⟩ : ∃ s : Nat, x.n % ((whole.length : Int) + 1) = s ∧ s ≤ whole.length := ⟨(x.n % ((whole.length : Int) + 1)).toNat, by have := Int.emod_nonneg x.n (show (whole.length : Int) + 1 ≠ 0 by omega); omega, by have := Int.emod_lt_of_pos x.n (show 0 < (whole.length : Int) + 1 by omega); omega⟩
            rw [hs]
            clear hs
            have hsl' : (s : Int) ≤ (whole.length : Int) := by omega
            have hsc : (s : Int) ≤ (c3 : Int) := by omega
            have hrowd := BRow.drop_any HW3.out HFm.out s c3 hc3
            obtain ⟨ad, had⟩ : ∃ ad, (if c3 = s then wo else Option.map (fun x => x.add s) wo) = ad := ⟨_, rfl⟩
            rw [had] at hrowd
            have HTk : Hid (BRow w3 wo (whole.take s)) := BRow.take HW3.out s
            have HDr : Hid (BRow w3 ad (whole.drop s)) := hrowd
            have hlt1 : (whole.take s).length = s := by simp; omega
            have hlt2 : (whole.drop s).length = whole.length - s := by simp
            have H1 : Hid (∀ W, Below w3.heap.size w3 W → FlAcc W w3.heap.size [] → Calls Try.prog 25 #[.pointer (some ⟨w3.heap.size, 0, none⟩), .slice wo s c3] W fun e w' => e = .returned (.tuple #[.int .i64 s, .nilIface]) ∧ Only w3.heap.size W w' ∧ FlAcc w' w3.heap.size (whole.take s)) := by
              intro W hW hA
              have h1 := fwrite_any [] (whole.take s) w3.heap.size c3 wo W hA (HTk.out.below hW) (HTk.out.apart (Nat.le_refl _)) (by omega) (by omega) (by simp; omega)
              rwa [hlt1, List.nil_append] at h1
            have H2 : Hid (∀ W, Below w3.heap.size w3 W → FlAcc W w3.heap.size (whole.take s) → Calls Try.prog 25 #[.pointer (some ⟨w3.heap.size, 0, none⟩), .slice ad (whole.length - s) (c3 - s)] W fun e w' => e = .returned (.tuple #[.int .i64 (whole.length - s : Nat), .nilIface]) ∧ Only w3.heap.size W w' ∧ FlAcc w' w3.heap.size whole) := by
              intro W hW hA
              have h1 := fwrite_any (whole.take s) (whole.drop s) w3.heap.size (c3 - s) ad W hA (HDr.out.below hW) (HDr.out.apart (Nat.le_refl _)) (by omega) (by omega) (by omega)
              rwa [hlt2, List.take_append_drop] at h1
            clear hrowd hlt1 hlt2 HTk HDr
            go_wp2_with fail
            refine Calls.mono (facc_reset _ _ _ (HA.out _).2) ?_
            rintro e w5 ⟨rfl, hO5, hA5⟩
            have HB5 : Hid (Below w3.heap.size w3 w5) := (HA.out _).1.trans (hO5.below (Nat.le_refl _))
            have HA5 : Hid (FlAcc w5 w3.heap.size []) := hA5
            clear HA hO5 hA5
            go_wp2_with fail
            refine Calls.mono (H1.out _ HB5.out HA5.out) ?_
            rintro e w7 ⟨rfl, hO7, hA7⟩
            have HB7 : Hid (Below w3.heap.size w3 w7) := HB5.out.trans (hO7.below (Nat.le_refl _))
            have HA7 : Hid (FlAcc w7 w3.heap.size (whole.take s)) := hA7
            clear HB5 HA5 hO7 hA7 H1
            go_wp2_with fail
            refine Calls.mono (H2.out _ HB7.out HA7.out) ?_
            rintro e w8 ⟨rfl, hO8, hA8⟩
            have HB8 : Hid (Below w3.heap.size w3 w8) := HB7.out.trans (hO8.below (Nat.le_refl _))
            have HA8 : Hid (FlAcc w8 w3.heap.size whole) := hA8
            clear HB7 HA7 hO8 hA8 H2
            go_wp2_with fail
            refine Calls.mono (fsum_any _ _ _ HA8.out) ?_
            rintro e w9 ⟨rfl, n9, rfl⟩
            have HF : Hid (FlAcc (w8.drewN n9) w3.heap.size whole ∧ Below w3.heap.size w3 (w8.drewN n9)) := ⟨FlAcc.of_block HA8.out rfl, HB8.out.trans (drewN_below _ _ _)⟩
            clear HA8 HB8
            generalize w8.drewN n9 = w9 at *
            go_wp2
            go_roundw
            case rel => exact ⟨k + 1, _, by omega, by go_num, HF.out.1, HF.out.2⟩
            case measure => simp [intOf]; omega
          · have hlt' : ¬ (k : Int) < (ops.length : Int) := by omega
            clear hbr hD
            have hwi : (whole.length : Int) ≤ 4294967296 := by omega
            have hwn : whole.length ≤ 4294967296 := by omega
            have HAl : Hid (∀ ob, Below w3.heap.size w3 (wr.alloc ob) ∧ FlAcc (wr.alloc ob) w3.heap.size bs) := fun ob => ⟨HBR.out.alloc HBR.out.size ob, FlAcc.of_block HD.out (Below.heap_alloc _ _ _ HD.out.lt)⟩
            have hdl : w3.heap.size < wr.heap.size := HD.out.lt
            go_wp2_with (go_at_call 29; fail)
            refine Calls.mono (repeat_big 255 whole.length _ (by omega)) ?_
            rintro e w6 ⟨rfl, hrow6, hbel6, hsz6⟩
            have hs5 : (wr.alloc (.cells #[.int .u8 254, .int .u8 255] 5)).heap.size = wr.heap.size + 1 := by simp
            have HH6 : Hid (BRow w6 (some ⟨wr.heap.size, 0, none⟩) [254, 255]) := (head_row wr).below hbel6
            have HO6 : Hid (BRow w6 (some ⟨wr.heap.size + 1, 0, none⟩) (List.replicate whole.length 255)) := by
              have := ones_row hrow6
              rwa [hs5] at this
            have HB6 : Hid (Below w3.heap.size w3 w6) := (HAl.out _).1.trans (hbel6.mono (by omega))
            have HA6 : Hid (FlAcc w6 w3.heap.size bs) := FlAcc.of_block (HAl.out _).2 (hbel6.block _ (by omega))
            have hd6 : w3.heap.size + 2 < w6.heap.size := by omega
            clear hrow6 hbel6 HAl HD HBR
            rw [hs5] at hsz6
            have hrl : (List.replicate whole.length 255).length = whole.length := by simp
            generalize hones : List.replicate whole.length 255 = ones at *
            have HOn : Hid (ones = List.replicate whole.length 255) := hones.symm
            clear hones
            generalize wr.heap.size = hb at *
            have HN : Hid (w6.ownsRow w6.heap.size 5 1 (.slice none 0 0) ([] : List Nat).length (([] : List Nat).map fun y => Value.int .u8 ((y : Nat) : Int))) := World.ownsRow_nil w6 w6.heap.size 5 1
            have hsum : ([254, 255] : List Nat).length + ones.length ≤ 140737488355328 := by rw [hrl]; simp; omega
            go_wp2_with (first
              | (at_builtin; refine wpList_append_bytes _ rfl _ _ rfl w6.heap.size _ [254, 255] ones rfl H1.out (some ⟨hb + 1, 0, none⟩) whole.length (by rw [hrl]; rfl) (HO6.out.below HB7.out) hsum HB7.out.size ?_; intro v2 w8 g1 g2 _; have G1 : Hid (w8.ownsRow w6.heap.size 5 1 v2 ([254, 255] ++ ones).length (([254, 255] ++ ones).map fun y => Value.int .u8 ((y : Nat) : Int))) := g1; have HB8 : Hid (Below w6.heap.size w6 w8) := HB7.out.grown g2 HB7.out.size (fun g hg => (H1.out.lt g hg).1); clear g1 g2)
              | (at_builtin; refine wpList_append_bytes _ rfl _ _ rfl w6.heap.size _ [] [254, 255] rfl HN.out (some ⟨hb, 0, none⟩) 2 rfl HH6.out (by simp) (Nat.le_refl _) ?_; intro v1 w7 h1 h2 _; have H1 : Hid (w7.ownsRow w6.heap.size 5 1 v1 ([254, 255] : List Nat).length (([254, 255] : List Nat).map fun y => Value.int .u8 ((y : Nat) : Int))) := h1; have HB7 : Hid (Below w6.heap.size w6 w7) := (Below.refl _ _).grown h2 (Nat.le_refl _) (fun g hg => (HN.out.lt g hg).1); clear h1 h2)
              | fail)
            have hhlt : ∀ y ∈ [254, 255] ++ ones, y < 256 := by
              intro y hy
              rw [HOn.out] at hy
              rcases List.mem_append.1 hy with h | h
              · simp only [List.mem_cons, List.not_mem_nil, or_false] at h
                rcases h with h | h <;> omega
              · have := (List.mem_replicate.1 h).2
                omega
            obtain ⟨hi, hcap, hv, hl1, hl2, hRow, hform⟩ := BRow.of_owns' G1.out hhlt
            have HRow : Hid (BRow w8 hi ([254, 255] ++ ones)) := hRow
            have HNe : Hid (([254, 255] ++ ones) ≠ [] → ∀ b o, hi = some ⟨b, o, none⟩ → b ≠ w3.heap.size) := by
              intro _ b o e
              rcases hform with ⟨h, _⟩ | ⟨g, h, hg⟩
              · rw [h] at e; cases e
              · rw [h] at e; cases e; omega
            have HA8 : Hid (FlAcc w8 w3.heap.size bs) := FlAcc.of_block HA6.out (HB8.out.block _ (by omega))
            have HB : Hid (Below w3.heap.size w3 w8) := HB6.out.trans (HB8.out.mono (by omega))
            have HH8 : Hid (BRow w8 (some ⟨hb, 0, none⟩) [254, 255]) := HH6.out.below HB8.out
            have HO8 : Hid (BRow w8 (some ⟨hb + 1, 0, none⟩) ones) := HO6.out.below HB8.out
            have hal : ([254, 255] ++ ones).length = whole.length + 2 := by simp [hrl]
            unfold maxLen at hl2
            rw [hv]
            clear hv hform hhlt hRow H1 HB7 G1 HN HB8 HA6 HB6 HH6 HO6 hsum
            rw [hal] at hl1
            rw [hal]
            generalize hhi : [254, 255] ++ ones = high at *
            have HHi : Hid ([254, 255] ++ ones = high) := hhi
            clear hhi
            refine Calls.mono (facc_reset _ _ _ HA8.out) ?_
            rintro e w9 ⟨rfl, hO9, hA9⟩
            have HH9 : Hid (BRow w9 (some ⟨hb, 0, none⟩) [254, 255]) := HH8.out.only hO9 (fun _ b o e => by cases e; omega)
            have HO9 : Hid (BRow w9 (some ⟨hb + 1, 0, none⟩) ones) := HO8.out.only hO9 (fun _ b o e => by cases e; omega)
            have HR9 : Hid (BRow w9 hi high) := HRow.out.only hO9 HNe.out
            have HB9 : Hid (Below w3.heap.size w3 w9) := HB.out.trans (hO9.below (Nat.le_refl _))
            have HA9 : Hid (FlAcc w9 w3.heap.size []) := hA9
            clear HH8 HO8 HRow HB HA8 hO9 hA9
            go_wp2_with fail
            refine Calls.mono (fwrite_any [] [254, 255] w3.heap.size 2 (some ⟨hb, 0, none⟩) w9 HA9.out HH9.out (fun _ b o e => by cases e; omega) (by simp) (by omega) (by simp)) ?_
            rintro e w10 ⟨rfl, hO10, hA10⟩
            have HO10 : Hid (BRow w10 (some ⟨hb + 1, 0, none⟩) ones) := HO9.out.only hO10 (fun _ b o e => by cases e; omega)
            have HR10 : Hid (BRow w10 hi high) := HR9.out.only hO10 HNe.out
            have HB10 : Hid (Below w3.heap.size w3 w10) := HB9.out.trans (hO10.below (Nat.le_refl _))
            have HA10 : Hid (FlAcc w10 w3.heap.size [254, 255]) := hA10
            clear HH9 HO9 HR9 HB9 HA9 hO10 hA10
            have H11 : Hid (Calls Try.prog 25 #[.pointer (some ⟨w3.heap.size, 0, none⟩), .slice (some ⟨hb + 1, 0, none⟩) whole.length whole.length] w10 fun e w' => e = .returned (.tuple #[.int .i64 whole.length, .nilIface]) ∧ Only w3.heap.size w10 w' ∧ FlAcc w' w3.heap.size high) := by
              have := fwrite_any [254, 255] ones w3.heap.size whole.length (some ⟨hb + 1, 0, none⟩) w10 HA10.out HO10.out (fun _ b o e => by cases e; omega) (by omega) (by omega) (by simp; omega)
              rwa [hrl, HHi.out] at this
            go_wp2_with fail
            refine Calls.mono H11.out ?_
            rintro e w11 ⟨rfl, hO11, hA11⟩
            have HR11 : Hid (BRow w11 hi high) := HR10.out.only hO11 HNe.out
            have HB11 : Hid (Below w3.heap.size w3 w11) := HB10.out.trans (hO11.below (Nat.le_refl _))
            have HA11 : Hid (FlAcc w11 w3.heap.size high) := hA11
            clear HO10 HR10 HB10 HA10 H11 hO11 hA11
            have HM : Hid (Calls Try.prog 23 #[.slice hi (whole.length + 2) hcap] w11 fun e w' => e = .returned (.int .u32 ((Flt.fl high : Nat) : Int)) ∧ w' = w11) := by
              have := modelFlt_any high hcap hi w11 (by omega) HR11.out
              rwa [hal] at this
            have HFl2 : Hid (∀ n, Calls Try.prog 24 #[.slice hi (whole.length + 2) hcap] (w11.drewN n) fun e w' => e = .returned (.int .u32 ((Flt.fl high : Nat) : Int)) ∧ ∃ m, w' = (w11.drewN n).drewN m) := by
              intro n
              have := fletcher_any high hcap hi (w11.drewN n) (by omega) (by omega) (HR11.out.drewN n)
              rwa [hal] at this
            go_wp2_with fail
            refine Calls.mono HM.out ?_
            rintro e w12 ⟨rfl, hw⟩
            have hw := hw.symm; subst hw
            go_wp2_with fail
            refine Calls.mono (fsum_any _ _ _ HA11.out) ?_
            rintro e w12 ⟨rfl, n12, rfl⟩
            go_wp2_with fail
            refine Calls.mono (HFl2.out n12) ?_
            rintro e w13 ⟨rfl, n13, rfl⟩
            go_wp2
            go_ret
            exact ⟨rfl, HB3.out.trans ((HB11.out.trans (drewN_below _ _ _)).mono HB3.out.size)⟩

end Go.Proofs.Qxb6500698a
