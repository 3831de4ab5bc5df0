/-
  THE WALK OF THE LAW LittleEndianRoundTrip.
-/
import Derived.Test.Qxb6500698aDoorAppOff
import Derived.Test.Qxb6500698aDoorIntsB
import Derived.Test.Qxb6500698aDoorIntsC
import Derived.Test.Qxb6500698aDoorCrcC
import Derived.Deep.RegionHeld3
namespace Go.Proofs.Qxb6500698aDoor
open Go.RowKit

theorem BRow.drew {w : World} {ao : Option Addr} {bs : List Nat} (h : BRow w ao bs) : BRow w.drew ao bs := h.drewN 1

theorem shr_dig (v j : Nat) : (v : Int) / 2 ^ (8 * j) % 256 = ((v / 256 ^ j % 256 : Nat) : Int) := by
  have e : (256 : Nat) ^ j = 2 ^ (8 * j) := by rw [Nat.pow_mul]
  rw [e]
  simp

set_option maxRecDepth 100000 in
set_option maxHeartbeats 1000000 in
theorem endian_any (ops : List OpD) (ao : Option Addr) (cap : Nat) (w : World) (e : Nat → Addr) (E : Errs w e) (hs : Script w ao ops) (hm : ops.length ≤ 140737488355328) (hb : ∀ x ∈ ops, x.bs.length ≤ 140737488355328) :
    Calls Tryd.prog 3 #[.slice ao ops.length cap] w fun e w' => e = .returned (.bool true) ∧ Below w.heap.size w w' := by
  have hI : Tryd.prog.isIface 30 = true := by kernel_rfl
  have HSm : Hid _ := small_any ao ops cap w hs hm hb
  cases hsm : small ops with
  | false =>
    rw [hsm] at HSm
    clear hs E
    go_enter Tryd.func3, Tryd.ntmps3
    go_wp2_with fail
    refine Calls.mono HSm.out ?_
    rintro r w' ⟨rfl, hw⟩
    have hw := hw.symm; subst hw
    go_wp2
    go_ret
    exact ⟨rfl, Below.refl _ _⟩
  | true =>
    rw [hsm] at HSm
    obtain ⟨hn, hbs⟩ := small_len hsm
    have HS : Hid _ := hs
    have HE : Hid _ := E
    clear hs hb hsm E
    go_enter Tryd.func3, Tryd.ntmps3
    go_wp2_with fail
    refine Calls.mono HSm.out ?_
    rintro r w' ⟨rfl, hw⟩
    have hw := hw.symm; subst hw
    clear HSm
    go_wp2
    go_loopw [21] (fun i wr => ∃ k : Nat, k ≤ ops.length ∧ i = .int .i64 k ∧ Below w.heap.size w wr) (fun i _ => ops.length - (intOf i).toNat)
    case atStart => exact ⟨0, Nat.zero_le _, rfl, Below.refl _ _⟩
    case round =>
      obtain ⟨k, hk, rfl, hbr⟩ := hrel
      by_cases hlt : k < ops.length
      · obtain ⟨b, o, rfl, hop⟩ := HS.out (ne_nil_of_lt hlt)
        have hx := (hop k hlt).same (w' := wr) (fun b o' hb => hbr.cell (p := ⟨b, o', none⟩) hb)
        have hbl := hbs (ops.getD k OpD.zero) (getD_mem hlt)
        clear hop
        generalize ops.getD k OpD.zero = x at *
        have k0 := hx.c0
        have k1 := hx.c1
        have k2 := hx.c2
        have k3 := hx.c3
        have k4 := hx.c4
        have k5 := hx.c5
        have hw1 := hx.hw1
        have hw2 := hx.hw2
        have hxv := hx.hv
        have hxb := hx.hb
        have hcap := hx.cap
        have hcap2 := hx.cap2
        unfold maxLen at hcap2
        have hlt' : (k : Int) < (ops.length : Int) := by omega
        obtain ⟨ob, hob⟩ : ∃ ob, Obj.cells #[.int .u8 x.kind, .slice x.da x.bs.length x.dc, .int .u8 x.b, .int .i64 x.n, .int .u64 x.v, .int .i64 x.width] 28 = ob := ⟨_, rfl⟩
        obtain ⟨W, hW⟩ : ∃ W, wr.alloc ob = W := ⟨_, rfl⟩
        have b1 : W.cell? ⟨wr.heap.size, 1, none⟩ = some (.slice x.da x.bs.length x.dc) := by rw [← hW, ← hob]; simp
        have b2 : W.cell? ⟨wr.heap.size, 2, none⟩ = some (.int .u8 x.b) := by rw [← hW, ← hob]; simp
        have b4 : W.cell? ⟨wr.heap.size, 4, none⟩ = some (.int .u64 x.v) := by rw [← hW, ← hob]; simp
        have b5 : W.cell? ⟨wr.heap.size, 5, none⟩ = some (.int .i64 x.width) := by rw [← hW, ← hob]; simp
        have hWsz : W.heap.size = wr.heap.size + 1 := by rw [← hW]; simp
        have hbW : Below w.heap.size w W := by rw [← hW]; exact hbr.alloc hbr.size ob
        have HXW : Hid (BRow W x.da x.bs) := by
          show BRow W x.da x.bs
          rw [← hW]; exact hx.data.same fun b o' hb => World.cell?_of_block (a := ⟨b, o', none⟩) (Below.heap_alloc wr ob b hb)
        have HEW : Hid (Errs W e) := HE.out.below hbW
        have HBW : Hid (Below w.heap.size w W) := hbW
        have hsw : w.heap.size ≤ wr.heap.size := hbr.size
        clear hbr hbW hx
        go_wp2
        clear hob hW k0 k1 k2 k3 k4 k5
        have HAU : Hid (∀ (vd : Value) (W1 : World), OwnB W1 (wr.heap.size + 1) vd x.bs → Below (wr.heap.size + 1) W W1 → Calls Tryd.prog 6 #[vd, .int .u64 x.v, .int .i64 x.width] W1 fun r w' => ∃ v', r = .returned (.tuple #[v', errV e (cf x.v x.width)]) ∧ OwnB w' (wr.heap.size + 1) v' (encB x.bs x.v x.width) ∧ Below (wr.heap.size + 1) W w') := by
          intro vd W1 h1 h2
          have hsz := h2.size
          refine (appendUint_any (wr.heap.size + 1) vd x.bs x.v x.width e W1 (HEW.out.below (h2.mono (by omega))) h1 (by omega) (by omega) hw1 hw2 hxv).mono ?_
          rintro r w' ⟨v', rfl, h3, h4⟩
          exact ⟨v', rfl, h3, h2.trans h4⟩
        go_region_held3 (fun w' => w'.cell? ⟨wr.heap.size, 4, none⟩ = some (.int .u64 x.v) ∧ w'.cell? ⟨wr.heap.size, 5, none⟩ = some (.int .i64 x.width)) (first | go_keep | exact ⟨(G2.out.cell (p := ⟨wr.heap.size, 4, none⟩) (Nat.lt_succ_self _)).trans b4, (G2.out.cell (p := ⟨wr.heap.size, 5, none⟩) (Nat.lt_succ_self _)).trans b5⟩)
          (first
            | (go_at_call 6; refine (HAU.out _ _ G1.out G2.out).mono ?_; clear G1 G2; rintro r w2 ⟨v2, rfl, g1, g2⟩; have G1 : Hid _ := g1; have G2 : Hid _ := g2; clear g1 g2)
            | (refine step_append_bytes _ (by rfl) _ _ (by rfl) (wr.heap.size + 1) (.slice none 0 0) [] x.bs (by rfl) (by exact World.ownsRow_nil _ _ _ _) x.da x.dc (by rfl) (by exact HXW.out.drew) (by simp; omega) (by simp; omega) ?_; intro v1 w1 g1 g2; have G1 : Hid (OwnB w1 (wr.heap.size + 1) v1 x.bs) := g1; have G2 : Hid (Below (wr.heap.size + 1) W w1) := (Below.refl _ W).drew.grown g2 (by simp; omega) (by intro k hk; cases hk); clear g1 g2))
        clear HAU
        have hsz2 := G2.out.size
        have hsz3 : wr.heap.size + 1 ≤ w2.heap.size := by omega
        have d2 : w2.cell? ⟨wr.heap.size, 2, none⟩ = some (.int .u8 x.b) := (G2.out.cell (p := ⟨wr.heap.size, 2, none⟩) (Nat.lt_succ_self _)).trans b2
        rename_i hHeld
        obtain ⟨d4, d5⟩ := hHeld
        have HX2 : Hid (BRow w2 x.da x.bs) := HXW.out.below (by rw [hWsz]; exact G2.out)
        have HB2 : Hid (Below w.heap.size w w2) := HBW.out.trans (G2.out.mono (by omega))
        have HE2 : Hid (Errs w2 e) := HE.out.below HB2.out
        have hww : w.heap.size ≤ w2.heap.size := by omega
        clear G2 HBW HXW HEW b1 b2 b4 b5 hWsz hsz2
        have HG : Hid _ := goodWidth_any x.width w2 hw1 hw2
        cases ho : okW x.width with
        | false =>
          have hcf : cf x.v x.width = some 1 := by unfold cf; rw [ho]; rfl
          have hen : encB x.bs x.v x.width = x.bs := by unfold encB; rw [hcf]; rfl
          rw [hcf]
          rw [hen] at G1
          rw [ho] at HG
          obtain ⟨ao2, c2, rfl, hc2, hc2', hr2, hu2, hu2'⟩ := BRow.of_owns G1.out HX2.out.lt
          clear hc2 hc2' hu2 hu2'
          have HR2 : Hid _ := hr2
          clear G1 hr2 hen hcf ho d2
          go_wp2_with fail
          refine Calls.mono HG.out ?_
          rintro r w3 ⟨rfl, hb3⟩
          have HB3 : Hid (Below w2.heap.size w2 w3) := hb3
          clear hb3 HG
          go_wp2_with fail
          refine Calls.mono (code_any w3 e (HE2.out.below HB3.out) (some 1) (by intro i h; cases h; omega)) ?_
          rintro r w' ⟨rfl, hw⟩
          have hw := hw.symm; subst hw
          rw [show ((errCode (some 1) : Nat) : Int) = 2 from rfl]
          go_wp2_with fail
          refine Calls.mono (equal_any x.bs x.bs ao2 x.da c2 x.dc w3 (HR2.out.below HB3.out) (HX2.out.below HB3.out)) ?_
          rintro r w' ⟨rfl, hw⟩
          have hw := hw.symm; subst hw
          rw [decide_eq_true rfl]
          go_wp2
          go_roundw
          case rel => exact ⟨k + 1, by omega, by go_num, HB2.out.trans (HB3.out.mono hww)⟩
          case measure => simp [intOf]; omega
        | true =>
          rw [ho] at HG
          obtain ⟨n, hwn, hn4⟩ := okW_nat ho
          rw [hwn] at d5 G1 HG ho ⊢
          clear hw1 hw2
          have hn8 : n ≤ 8 := by omega
          have hn0 : 0 < n := by omega
          have HN4 : Hid _ := hn4
          have hfc : cf x.v n = if x.v < 256 ^ n then none else some 2 := by unfold cf; rw [ho, if_pos rfl, Int.toNat_natCast]
          by_cases hf : x.v < 256 ^ n
          · have hcf : cf x.v n = none := by rw [hfc, if_pos hf]
            have hen : encB x.bs x.v n = x.bs ++ dig x.v n := by unfold encB; rw [hcf, if_pos rfl, Int.toNat_natCast]
            have HDf : Hid (decide (x.v < 256 ^ n) = true) := decide_eq_true hf
            have HUD : Hid (undig (dig x.v n) = x.v) := undig_dig n x.v hf
            have hEN : errV e none = .nilIface := rfl
            rw [hcf, hEN]
            rw [hen] at G1
            have hdl : (dig x.v n).length = n := dig_length n x.v
            have hdlt := dig_lt n x.v
            have hdg : ∀ i, i < n → (dig x.v n).getD i 0 = x.v / 256 ^ i % 256 := fun i hi => dig_getD n x.v i hi
            have HDG : Hid _ := hdg
            obtain ⟨D, hD⟩ : ∃ D, dig x.v n = D := ⟨_, rfl⟩
            rw [hD] at G1 HUD hdl hdlt HDG
            have HD : Hid _ := hD
            have hne : x.bs ++ D ≠ [] := by intro h; have := congrArg List.length h; rw [List.length_append, hdl] at this; simp at this; omega
            obtain ⟨g, cp, rfl, hcp, hcp', hrow, hg, hg', hsp⟩ := own_form G1.out (by
              intro y hy
              rcases List.mem_append.1 hy with hy | hy
              · exact HX2.out.lt y hy
              · exact hdlt y hy) hne
            have hlen : (x.bs ++ D).length = x.bs.length + n := by rw [List.length_append, hdl]
            rw [hlen] at hcp ⊢
            unfold maxLen at hcp'
            have HR2 : Hid _ := hrow
            have HSP : Hid _ := hsp
            have HLT : Hid _ := hdlt
            clear G1 hen hcf ho hfc hf hn4 hwn hEN hne hsp hdlt hlen hrow hD hdg
            go_wp2_with fail
            refine Calls.mono HG.out ?_
            rintro r w3 ⟨rfl, hb3⟩
            have HB3 : Hid (Below w2.heap.size w2 w3) := hb3
            have f4 : w3.cell? ⟨wr.heap.size, 4, none⟩ = some (.int .u64 x.v) := (hb3.cell (p := ⟨wr.heap.size, 4, none⟩) hsz3).trans d4
            have f5 : w3.cell? ⟨wr.heap.size, 5, none⟩ = some (.int .i64 n) := (hb3.cell (p := ⟨wr.heap.size, 5, none⟩) hsz3).trans d5
            clear hb3 HG
            go_wp2_with fail
            refine Calls.mono (digits_any x.v n w3 hn8 hxv) ?_
            rintro r w4 ⟨v4, rfl, ho4, hb4⟩
            have HB4 : Hid (Below w2.heap.size w2 w4) := HB3.out.trans (hb4.mono HB3.out.size)
            rw [HD.out] at ho4
            obtain ⟨ao4, c4, rfl, hc4, hc4', hr4, hu4, hu4'⟩ := BRow.of_owns ho4 HLT.out
            rw [hdl] at hc4 ⊢
            unfold maxLen at hc4'
            have HR4 : Hid (BRow w4 ao4 D) := hr4
            clear hb4 ho4 hr4 hu4 hu4' f4 f5 HB3
            rw [HDf.out]
            have e2 : w4.cell? ⟨wr.heap.size, 2, none⟩ = some (.int .u8 x.b) := (HB4.out.cell (p := ⟨wr.heap.size, 2, none⟩) hsz3).trans d2
            have e4 : w4.cell? ⟨wr.heap.size, 4, none⟩ = some (.int .u64 x.v) := (HB4.out.cell (p := ⟨wr.heap.size, 4, none⟩) hsz3).trans d4
            have e5 : w4.cell? ⟨wr.heap.size, 5, none⟩ = some (.int .i64 n) := (HB4.out.cell (p := ⟨wr.heap.size, 5, none⟩) hsz3).trans d5
            have HRW : Hid (BRow w4 (some ⟨g, 0, none⟩) (x.bs ++ D)) := HR2.out.below HB4.out
            have HTk : Hid (BRow w4 (some ⟨g, 0, none⟩) x.bs) := by
              have h := BRow.take HRW.out x.bs.length
              rw [List.take_left] at h
              exact h
            have HDr : Hid (BRow w4 (some ⟨g, x.bs.length, none⟩) D) := by
              have h := BRow.drop HRW.out x.bs.length
              rw [List.drop_left, Nat.zero_add] at h
              exact h
            have hle1 : x.bs.length ≤ cp := by omega
            have hle2 : (x.bs.length : Int) ≤ (cp : Int) := by omega
            have hne1 : ¬ cp = x.bs.length := by omega
            clear HR2 d2 d4 d5
            go_wp2_with fail
            refine Calls.mono (equal_any x.bs x.bs (some ⟨g, 0, none⟩) x.da cp x.dc w4 HTk.out (HX2.out.below HB4.out)) ?_
            rintro r w' ⟨rfl, hw⟩
            have hw := hw.symm; subst hw
            rw [decide_eq_true rfl]
            go_wp2
            obtain ⟨gd, od, hda, hcd⟩ := HDr.out.row (by intro h; rw [h] at hdl; simp at hdl; omega)
            obtain ⟨rfl, rfl⟩ : g = gd ∧ x.bs.length = od := by simpa using hda
            obtain ⟨gb, obb, rfl, hcb⟩ := HR4.out.row (by intro h; rw [h] at hdl; simp at hdl; omega)
            clear hda
            go_loop [96] (fun i => ∃ j : Nat, j ≤ n ∧ i = .int .i64 j) (fun i => n - (intOf i).toNat)
            case atStart => exact ⟨0, Nat.zero_le _, rfl⟩
            case round =>
              obtain ⟨j, hj, rfl⟩ := hrel
              by_cases hjn : j < n
              · have m1 := hcd j (by omega)
                have m2 := hcb j (by omega)
                have hdj := HDG.out j hjn
                have hd256 : D.getD j 0 < 256 := HLT.out _ (getD_mem (by omega))
                generalize D.getD j 0 = d at *
                have hsh : (x.v : Int) / 2 ^ (8 * j) % 256 = d := by rw [hdj]; exact shr_dig x.v j
                have hjn' : (j : Int) < (n : Int) := by omega
                have hj8 : (j : Int) < 8 := by omega
                clear hcd hcb
                go_wp2
                go_round
                case rel => exact ⟨j + 1, by omega, by go_num⟩
                case measure => simp [intOf]; omega
              · have hjj : j = n := by omega
                subst hjj
                clear hcd hcb
                go_wp2
                have HF : Hid (∀ W' : World, Below w4.heap.size w4 W' → BRow W' (some ⟨g, x.bs.length, none⟩) D ∧ ∀ i, i < cp - x.bs.length → (W'.cell? ⟨g, x.bs.length + i, none⟩).isSome = true ∧ W'.frozen? ⟨g, x.bs.length + i, none⟩ = false) := by
                  intro W' h
                  refine ⟨HDr.out.below h, fun i hi => ?_⟩
                  have h4 := HB4.out.size
                  have hgb : g < w4.heap.size := by omega
                  obtain ⟨s1, s2⟩ := HSP.out (x.bs.length + i) (by omega)
                  rw [h.cell (p := ⟨g, x.bs.length + i, none⟩) hgb, h.frozen (p := ⟨g, x.bs.length + i, none⟩) hgb, HB4.out.cell (p := ⟨g, x.bs.length + i, none⟩) hg', HB4.out.frozen (p := ⟨g, x.bs.length + i, none⟩) hg']
                  exact ⟨s1, s2⟩
                have HUi : Hid (∀ (ao : Option Addr) (c : Nat) (W' : World), BRow W' ao (D ++ [x.b]) → Calls Tryd.prog 11 #[.slice ao (j + 1) c, .int .i64 j] W' fun r w' => r = .returned (.tuple #[.int .u64 x.v, .nilIface]) ∧ w' = W') := by
                  intro ao c W' h
                  have h2 := uint_ok (D ++ [x.b]) j c ao W' h HN4.out (by simp; omega) (by simp; omega)
                  rw [List.take_left' hdl, HUD.out, List.length_append, hdl] at h2
                  exact h2
                have h4s := HB4.out.size
                have hszb : wr.heap.size + 1 ≤ w4.heap.size := by omega
                clear HRW HTk HDG HD HDr HR4
                go_region_held3 (fun w' => w'.cell? ⟨wr.heap.size, 2, none⟩ = some (.int .u8 x.b) ∧ w'.cell? ⟨wr.heap.size, 5, none⟩ = some (.int .i64 j)) (first | go_keep | exact ⟨(G5.out.cell (p := ⟨wr.heap.size, 2, none⟩) (Nat.lt_succ_self _)).trans e2, (G5.out.cell (p := ⟨wr.heap.size, 5, none⟩) (Nat.lt_succ_self _)).trans e5⟩)
                  (first
                    | (go_at_call 11; refine (HUi.out _ _ _ G6.out).mono ?_; rintro r w6 ⟨rfl, hw6⟩; have hw6 := hw6.symm; subst hw6)
                    | (refine step_append_off _ (by rfl) _ _ (by rfl) (wr.heap.size + 1) g x.bs.length (cp - x.bs.length) j D hdl x.b hxb (by rfl) hg (by exact (HF.out _ ((Below.refl _ _).drew.alloc (Nat.le_refl _) _)).1) (by exact (HF.out _ ((Below.refl _ _).drew.alloc (Nat.le_refl _) _)).2) w4.heap.size 1 (by rfl) (by simp) (by omega) (by simp; omega) ?_; intro ao5 c5 w5 g6 g5; have G6 : Hid (BRow w5 ao5 (D ++ [x.b])) := g6; have G5 : Hid (Below (wr.heap.size + 1) w4 w5) := ((Below.refl _ _).drew.alloc (by simp; omega) _).trans g5; clear g5 g6))
                rename_i hHeld
                obtain ⟨q2, q5⟩ := hHeld
                have q4 : w5.cell? ⟨wr.heap.size, 4, none⟩ = some (.int .u64 x.v) := (G5.out.cell (p := ⟨wr.heap.size, 4, none⟩) (Nat.lt_succ_self _)).trans e4
                have HB5 : Hid (Below w.heap.size w w5) := HB2.out.trans ((HB4.out.mono hww).trans (G5.out.mono (by omega)))
                have hj1 : ∃ m, j = m + 1 := ⟨j - 1, by omega⟩
                obtain ⟨m, rfl⟩ := hj1
                have HUs : Hid (∀ W' : World, Below w5.heap.size w5 W' → Calls Tryd.prog 11 #[.slice (some ⟨g, x.bs.length, none⟩) m (cp - x.bs.length), .int .i64 ((m : Int) + 1)] W' fun r w' => r = .returned (.tuple #[.int .u64 0, errV e (some 0)]) ∧ ∃ q, w' = W'.drewN q) := by
                  intro W' h
                  have hh := uint_short m (m + 1) (cp - x.bs.length) (some ⟨g, x.bs.length, none⟩) e W' (HE.out.below (HB5.out.trans (h.mono HB5.out.size))) HN4.out (by omega)
                  rwa [show (((m + 1 : Nat)) : Int) = (m : Int) + 1 by omega] at hh
                have q5' : w5.cell? ⟨wr.heap.size, 5, none⟩ = some (.int .i64 ((m : Int) + 1)) := by rw [q5]; congr 2
                clear q5 e2 e4 e5 HF HUi G5 G6 HSP HLT q2
                obtain ⟨cq, hcq⟩ : ∃ cq, cp - x.bs.length = cq := ⟨_, rfl⟩
                rw [hcq] at HUs ⊢
                have hm1 : (m : Int) ≤ (cq : Int) := by omega
                have hm2 : m ≤ cq := by omega
                have hm3 : cq ≤ 9223372036854775807 := by omega
                clear hcq
                go_wp2
                go_quiet (first | (go_at_call 11; exact Calls.quiet_of (HUs.out _ (drewN_below _ _ _))))
                go_wp2_with fail
                refine Calls.mono (code_any _ e (HE.out.below (HB5.out.trans (drewN_below _ _ _))) (some 0) (by intro i h; cases h; omega)) ?_
                rintro r w' ⟨rfl, hw⟩
                have hw := hw.symm; subst hw
                rw [show ((errCode (some 0) : Nat) : Int) = 1 from rfl]
                go_wp2
                go_roundw
                case rel => exact ⟨k + 1, by omega, by go_num, HB5.out.trans (drewN_below _ _ _)⟩
                case measure => simp [intOf]; omega
          · have hcf : cf x.v n = some 2 := by rw [hfc, if_neg hf]
            have hen : encB x.bs x.v n = x.bs := by unfold encB; rw [hcf]; rfl
            have HDf : Hid (decide (x.v < 256 ^ n) = false) := decide_eq_false hf
            rw [hcf]
            rw [hen] at G1
            obtain ⟨ao2, c2, rfl, hc2, hc2', hr2, hu2, hu2'⟩ := BRow.of_owns G1.out HX2.out.lt
            clear hc2 hc2' hu2 hu2'
            have HR2 : Hid _ := hr2
            clear G1 hr2 hen hcf ho d2 hfc hf hn4 hwn
            go_wp2_with fail
            refine Calls.mono HG.out ?_
            rintro r w3 ⟨rfl, hb3⟩
            have HB3 : Hid (Below w2.heap.size w2 w3) := hb3
            have f4 : w3.cell? ⟨wr.heap.size, 4, none⟩ = some (.int .u64 x.v) := (hb3.cell (p := ⟨wr.heap.size, 4, none⟩) hsz3).trans d4
            have f5 : w3.cell? ⟨wr.heap.size, 5, none⟩ = some (.int .i64 n) := (hb3.cell (p := ⟨wr.heap.size, 5, none⟩) hsz3).trans d5
            clear hb3 HG d4 d5
            go_wp2_with fail
            refine Calls.mono (digits_any x.v n w3 hn8 hxv) ?_
            rintro r w4 ⟨v4, rfl, _, hb4⟩
            have HB4 : Hid (Below w2.heap.size w2 w4) := HB3.out.trans (hb4.mono HB3.out.size)
            clear hb4
            rw [HDf.out]
            go_wp2_with fail
            refine Calls.mono (code_any w4 e (HE2.out.below HB4.out) (some 2) (by intro i h; cases h; omega)) ?_
            rintro r w' ⟨rfl, hw⟩
            have hw := hw.symm; subst hw
            rw [show ((errCode (some 2) : Nat) : Int) = 3 from rfl]
            go_wp2_with fail
            refine Calls.mono (equal_any x.bs x.bs ao2 x.da c2 x.dc w4 (HR2.out.below HB4.out) (HX2.out.below HB4.out)) ?_
            rintro r w' ⟨rfl, hw⟩
            have hw := hw.symm; subst hw
            rw [decide_eq_true rfl]
            go_wp2
            go_roundw
            case rel => exact ⟨k + 1, by omega, by go_num, HB2.out.trans (HB4.out.mono hww)⟩
            case measure => simp [intOf]; omega
      · have hlt' : ¬ (k : Int) < (ops.length : Int) := by omega
        go_wp2
        go_ret
        exact ⟨rfl, hbr⟩
end Go.Proofs.Qxb6500698aDoor
