/-
  THE WALK OF gather.
-/
import Derived.Test.Qxb6500697aDoorKGath
import Derived.Deep.Cut
import Derived.Deep.CutRange
namespace Go.Proofs.Qxb6500697aDoor
open Go.RowKit

theorem Mid.start (w : World) : Mid w (w.alloc (.cells #[.int .u8 0, .int .i64 0, .int .i64 0, .int .u8 0, .int .i64 0, .int .u16 0, .slice none 0 0, .slice none 0 0, .slice none 0 0, .slice none 0 0, .slice none 0 0, .slice none 0 0, .slice none 0 0, .slice none 0 0, .slice none 0 0, .slice none 0 0, .slice none 0 0, .slice none 0 0, .slice none 0 0, .slice none 0 0, .slice none 0 0, .slice none 0 0] 120)) Gs.zero.h Gs.zero.rv := by
  refine ⟨⟨_, heap_alloc_new w _, rfl, fun i hi => ?_⟩, (Below.refl _ _).alloc (Nat.le_refl _) _⟩
  have : i = 0 ∨ i = 1 ∨ i = 2 ∨ i = 3 ∨ i = 4 ∨ i = 5 ∨ i = 6 ∨ i = 7 ∨ i = 8 ∨ i = 9 ∨ i = 10 ∨ i = 11 ∨ i = 12 ∨ i = 13 ∨ i = 14 ∨ i = 15 ∨ i = 16 ∨ i = 17 ∨ i = 18 ∨ i = 19 ∨ i = 20 ∨ i = 21 := by omega
  rcases this with rfl | rfl | rfl | rfl | rfl | rfl | rfl | rfl | rfl | rfl | rfl | rfl | rfl | rfl | rfl | rfl | rfl | rfl | rfl | rfl | rfl | rfl <;> rfl

set_option maxRecDepth 100000 in
set_option maxHeartbeats 4000000 in
theorem gather_any (w : World) (F : Nat → Prop) (cb mb k m : Nat) (ao : Option Addr) (cap : Nat) (ss : List Sd) (e : Nat → Addr) (E : KErrs 10 w e) (hC : CodecAt w F cb mb k m) (hS : SdRow w ao ss) (hlen : ss.length ≤ 65536) :
    Calls Tryd.prog 68 #[.pointer (some ⟨cb, 0, none⟩), .slice ao ss.length cap] w (GPost e w k (k + m) ss) := by
  have hI : Tryd.prog.isIface 48 = true := by kernel_rfl
  have hk := hC.hk
  have hkn := hC.hn
  have HC : Hid (CodecAt w F cb mb k m) := hC
  have HE : Hid (KErrs 10 w e) := E
  have HS : Hid (SdRow w ao ss) := hS
  have hcb := hC.lt
  obtain ⟨N, hN⟩ : ∃ N, k + m = N := ⟨_, rfl⟩
  rw [hN]
  have hN16 : N ≤ 16 := by omega
  obtain ⟨L, hL⟩ : ∃ L, ss.length = L := ⟨_, rfl⟩
  rw [hL] at hlen ⊢
  have HL : Hid (ss.length = L) := hL
  have HN : Hid (k + m = N) := hN
  clear hC E hS hL hN hkn
  have HM0 : Hid _ := Mid.start w
  go_enter Tryd.func68, Tryd.ntmps68
  go_wp2
  go_loopw [7, 8, 9, 10, 19] (fun a b c d i wq => ∃ (j : Nat) (s : Gs), j ≤ L ∧ i = .int .i64 j ∧ s = gfold N (g0of ss) (ss.take j) ∧ a = .bool s.bg ∧ b = .bool s.bi ∧ c = .bool s.mx ∧ d = .bool s.tw ∧ Mid w wq s.h s.rv) (fun _ _ _ _ i _ => L - (intOf i).toNat)
  case atStart => exact ⟨0, Gs.zero, Nat.zero_le _, rfl, by rw [List.take_zero]; rfl, rfl, rfl, rfl, rfl, HM0.out⟩
  case round =>
    obtain ⟨j, s, hj, rfl, hs, rfl, rfl, rfl, rfl, hM⟩ := hrel
    clear HM0
    have HSt : Hid (s = gfold N (g0of ss) (ss.take j)) := hs
    have hh : s.h < 65536 := by rw [hs]; exact gfold_h N _ _ hN16
    clear hs
    by_cases hlt : j < L
    · have hjl : j < ss.length := by rw [HL.out]; exact hlt
      have hlt' : (j : Int) < (L : Int) := by omega
      obtain ⟨b, rfl, hb0, hb2⟩ := g0of_cell HS.out (by omega)
      have hrow := HS.out.row (by omega)
      obtain ⟨b', hbe, hr⟩ := hrow
      obtain rfl : b = b' := congrArg (fun x : Option Addr => (x.getD ⟨0, 0, none⟩).block) hbe
      obtain ⟨r0, r1, r2, r3⟩ := hr j hjl
      have hxo := HS.out.ok ss[j] (List.getElem_mem hjl)
      have hst := gfold_take N (g0of ss) ss j hjl
      rw [← HSt.out] at hst
      obtain ⟨x, hx⟩ : ∃ x, ss[j] = x := ⟨_, rfl⟩
      rw [hx] at r0 r1 r2 r3 hxo hst
      have kp := Below.keeps hM.bel
      have c0 := kp _ _ _ r0
      have c1 := kp _ _ _ r1
      have c2 := kp _ _ _ r2
      have c3 := kp _ _ _ r3
      have d0 := kp _ _ _ hb0
      have hbl : b < wr.heap.size := cell_lt c0
      have hsz := hM.sz
      have hx1 := hxo.hix.1
      have hx2 := hxo.hix.2
      have hg256 := hxo.hg
      have HM : Hid (Mid w wr s.h s.rv) := hM
      have HSn : Hid (gfold N (g0of ss) (ss.take (j + 1)) = gstep N (g0of ss) s x) := hst
      clear kp r0 r1 r2 r3 hr hbe hb0 hb2 hM hst hxo hx
      by_cases hbg : x.g = 1 ∨ x.g = 2 ∨ x.g = 3
      · obtain ⟨W, hW⟩ : ∃ W, wr.alloc (.cells #[.int .u8 x.g, .int .i64 x.ix, .int .i64 x.ol, .slice x.pa x.pl x.pc] 60) = W := ⟨_, rfl⟩
        have HMW : Hid (Mid w W s.h s.rv) := by rw [← hW]; exact Mid.alloc HM.out _
        have e0 : W.cell? ⟨wr.heap.size, 0, none⟩ = some (.int .u8 x.g) := by rw [← hW]; simp
        have e1 : W.cell? ⟨wr.heap.size, 1, none⟩ = some (.int .i64 x.ix) := by rw [← hW]; simp
        have e3 : W.cell? ⟨wr.heap.size, 3, none⟩ = some (.slice x.pa x.pl x.pc) := by rw [← hW]; simp
        have dw : W.cell? ⟨b, 0, none⟩ = some (.int .u8 (g0of ss)) := by rw [← hW]; exact (World.cell?_of_block (a := ⟨b, 0, none⟩) (Below.heap_alloc _ _ _ hbl)).trans d0
        have HWW : Hid (wr.alloc (.cells #[.int .u8 x.g, .int .i64 x.ix, .int .i64 x.ol, .slice x.pa x.pl x.pc] 60) = W) := hW
        clear hW
        go_upto_region 8 with fail
        rw [HWW.out]
        clear HWW c0 c1 c2 c3 d0
        go_cut [41] from 20 to 82 (fun u wc => u = .bool false ∧ wc = W)
        case first =>
          rcases hbg with hg | hg | hg
          · have b1 : ((x.g : Int) != 1) = false := by rw [hg]; rfl
            clear hg
            go_wp2
            go_meet
            exact ⟨rfl, rfl⟩
          · have b1 : ((x.g : Int) != 1) = true := by rw [hg]; rfl
            have b2 : ((x.g : Int) != 2) = false := by rw [hg]; rfl
            clear hg
            go_wp2
            go_meet
            exact ⟨rfl, rfl⟩
          · have b1 : ((x.g : Int) != 1) = true := by rw [hg]; rfl
            have b2 : ((x.g : Int) != 2) = true := by rw [hg]; rfl
            have b3 : ((x.g : Int) != 3) = false := by rw [hg]; rfl
            clear hg
            go_wp2
            go_meet
            exact ⟨rfl, rfl⟩
        case rest =>
          obtain ⟨rfl, hwc⟩ := hcut
          have hwc := hwc.symm
          subst hwc
          have HNn : Hid (∀ q, Calls Tryd.prog 19 #[.pointer (some ⟨cb, 0, none⟩)] (W.drewN q) fun r w' => r = .returned (.int .i64 (N : Int)) ∧ ∃ q', w' = (W.drewN q).drewN q') := by
            intro q
            have h := codecN_any (W.drewN q) F cb mb k m (HC.out.below (HMW.out.bel.trans (drewN_below _ _ _)))
            rw [HN.out] at h
            exact h
          have HGd : Hid (x.g = 1 ∨ x.g = 2 ∨ x.g = 3) := hbg
          clear hbg
          by_cases hneg : x.ix < 0
          · have hgs : gstep N (g0of ss) s x = { s with bi := true } := by unfold gstep; rw [if_neg (fun h => h HGd.out), if_pos (.inl hneg)]
            rw [hgs] at HSn
            clear hgs
            go_wp2
            go_quiet (fail)
            go_wp2
            go_roundw
            case rel => exact ⟨j + 1, { s with bi := true }, by omega, by go_num, HSn.out.symm, rfl, rfl, rfl, rfl, HMW.out.drewN _⟩
            case measure => simp [intOf]; omega
          · by_cases hbig : (N : Int) ≤ x.ix
            · have hgs : gstep N (g0of ss) s x = { s with bi := true } := by unfold gstep; rw [if_neg (fun h => h HGd.out), if_pos (.inr hbig)]
              rw [hgs] at HSn
              clear hgs
              go_wp2
              go_quiet (first | (go_at_call 19; with_reducible exact Calls.quiet_of (HNn.out _)))
              go_wp2
              go_roundw
              case rel => exact ⟨j + 1, { s with bi := true }, by omega, by go_num, HSn.out.symm, rfl, rfl, rfl, rfl, HMW.out.drewN _⟩
              case measure => simp [intOf]; omega
            · obtain ⟨n, hn⟩ : ∃ n : Nat, x.ix = (n : Int) := ⟨x.ix.toNat, by omega⟩
              have hnN : n < N := by omega
              have hnb : ¬ (N : Int) ≤ (n : Int) := by omega
              have HXn : Hid (x.ix = (n : Int)) := hn
              rw [hn] at e1
              clear hneg hbig hx1 hx2 hn
              go_wp2
              go_cut [55] from 20 to 82 (fun u wc => u = .bool false ∧ ∃ q, wc = W.drewN q)
              case first =>
                go_quiet (first | (go_at_call 19; with_reducible exact Calls.quiet_of (HNn.out _)))
                go_wp2
                go_meet
                exact ⟨by simp; omega, _, rfl⟩
              case rest =>
                obtain ⟨rfl, q, hwc⟩ := hcut
                subst hwc
                have HMq : Hid (Mid w (W.drewN q) s.h s.rv) := Mid.drewN HMW.out q
                have hWs : W.heap.size = (W.drewN q).heap.size := by rw [(World.drewN_alike W q).1]
                obtain ⟨V, hV⟩ : ∃ V, W.drewN q = V := ⟨_, rfl⟩
                have f0 : V.cell? ⟨wr.heap.size, 0, none⟩ = some (.int .u8 x.g) := by rw [← hV, drewN_cell]; exact e0
                have f1 : V.cell? ⟨wr.heap.size, 1, none⟩ = some (.int .i64 n) := by rw [← hV, drewN_cell]; exact e1
                have f3 : V.cell? ⟨wr.heap.size, 3, none⟩ = some (.slice x.pa x.pl x.pc) := by rw [← hV, drewN_cell]; exact e3
                have f4 : V.cell? ⟨b, 0, none⟩ = some (.int .u8 (g0of ss)) := by rw [← hV, drewN_cell]; exact dw
                rw [hV] at HMq ⊢
                clear e0 e1 e3 dw hV HMW hWs HNn
                have hL0 : (0 : Int) < (L : Int) := by omega
                by_cases hmx : x.g = g0of ss
                · have bm : ((x.g : Int) != (g0of ss : Int)) = false := by simp; omega
                  have HHas : Hid (∀ W q, Calls Tryd.prog 58 #[.int .u16 (s.h : Int), .int .i64 (n : Int)] (World.drewN W q) fun r w' => r = .returned (.bool (s.h.testBit n)) ∧ w' = World.drewN W q) := fun W q => has_any s.h n _ hh (by omega)
                  have HGe : Hid (x.g = g0of ss) := hmx
                  clear hmx
                  go_wp2
                  go_cut [66] from 20 to 82 (fun u wc => u = .bool false ∧ ∃ q, wc = V.drewN q)
                  case first =>
                    go_quiet (fail)
                    go_wp2
                    go_meet
                    exact ⟨rfl, _, rfl⟩
                  case rest =>
                    obtain ⟨rfl, q2, hwc⟩ := hcut
                    subst hwc
                    have HMq2 : Hid (Mid w (V.drewN q2) s.h s.rv) := Mid.drewN HMq.out q2
                    obtain ⟨U, hU⟩ : ∃ U, V.drewN q2 = U := ⟨_, rfl⟩
                    have u1 : U.cell? ⟨wr.heap.size, 1, none⟩ = some (.int .i64 n) := by rw [← hU, drewN_cell]; exact f1
                    have u3 : U.cell? ⟨wr.heap.size, 3, none⟩ = some (.slice x.pa x.pl x.pc) := by rw [← hU, drewN_cell]; exact f3
                    rw [hU] at HMq2 ⊢
                    clear f0 f1 f3 f4 hU HMq
                    have u5 := HMq2.out.c5
                    by_cases hbit : s.h.testBit n = true
                    · rw [hbit] at HHas
                      have hgs : gstep N (g0of ss) s x = { s with tw := true } := by
                        unfold gstep
                        rw [if_neg (fun h => h HGd.out), if_neg (by rw [HXn.out]; omega), if_neg (fun h => h HGe.out), if_pos (by rw [HXn.out]; exact hbit)]
                      rw [hgs] at HSn
                      clear hgs hbit
                      go_wp2
                      go_quiet (first | (go_at_call 58; with_reducible exact Calls.quiet_of_same (HHas.out _ _)))
                      go_wp2
                      go_roundw
                      case rel => exact ⟨j + 1, { s with tw := true }, by omega, by go_num, HSn.out.symm, rfl, rfl, rfl, rfl, HMq2.out.drewN _⟩
                      case measure => simp [intOf]; omega
                    · have hbit : s.h.testBit n = false := by simpa using hbit
                      rw [hbit] at HHas
                      have hgs : gstep N (g0of ss) s x = { s with h := s.h ||| 2 ^ n, rv := fun i => if i = n then x.pv else s.rv i } := by
                        unfold gstep
                        rw [if_neg (fun h => h HGd.out), if_neg (by rw [HXn.out]; omega), if_neg (fun h => h HGe.out), if_neg (by rw [HXn.out, Int.toNat_natCast, hbit]; simp), HXn.out, Int.toNat_natCast]
                      rw [hgs] at HSn
                      clear hgs hbit
                      go_wp2
                      go_cut [74] from 20 to 82 (fun u wc => u = .bool false ∧ ∃ q, wc = U.drewN q)
                      case first =>
                        go_quiet (first | (go_at_call 58; with_reducible exact Calls.quiet_of_same (HHas.out _ _)))
                        go_wp2
                        go_meet
                        exact ⟨rfl, _, rfl⟩
                      case rest =>
                        obtain ⟨rfl, q3, hwc⟩ := hcut
                        subst hwc
                        have HMq3 : Hid (Mid w (U.drewN q3) s.h s.rv) := Mid.drewN HMq2.out q3
                        obtain ⟨T, hT⟩ : ∃ T, U.drewN q3 = T := ⟨_, rfl⟩
                        have t1 : T.cell? ⟨wr.heap.size, 1, none⟩ = some (.int .i64 n) := by rw [← hT, drewN_cell]; exact u1
                        have t3 : T.cell? ⟨wr.heap.size, 3, none⟩ = some (.slice x.pa x.pl x.pc) := by rw [← hT, drewN_cell]; exact u3
                        rw [hT] at HMq3 ⊢
                        clear u1 u3 u5 hT HMq2 HHas
                        have t5 := HMq3.out.c5
                        have tf := HMq3.out.row.frozen 5
                        have hne : w.heap.size ≠ wr.heap.size := by omega
                        have HWi : Hid (∀ W, Calls Tryd.prog 79 #[.int .u16 (s.h : Int), .int .i64 (n : Int)] W fun r w' => r = .returned (.int .u16 ((s.h ||| 2 ^ n : Nat) : Int)) ∧ w' = W) := fun W => with_any s.h n W hh (by omega)
                        obtain ⟨h2, hh2⟩ : ∃ h2, s.h ||| 2 ^ n = h2 := ⟨_, rfl⟩
                        rw [hh2] at HWi HSn
                        clear hh2
                        go_wp2
                        go_cut [] from 20 to 82 (fun wc => Mid w wc h2 s.rv ∧ wc.cell? ⟨wr.heap.size, 1, none⟩ = some (.int .i64 n) ∧ wc.cell? ⟨wr.heap.size, 3, none⟩ = some (.slice x.pa x.pl x.pc))
                        case first =>
                          go_region_with (go_at_call 79; refine (HWi.out _).mono ?_; rintro r w1 ⟨rfl, hw⟩; subst hw)
                          all_goals
                            go_wp2
                            go_meet
                            first
                              | exact ⟨HMq3.out.setH h2, (Only.cell ((Only.refl w.heap.size T).setCell 5 _) hne.symm).trans t1, (Only.cell ((Only.refl w.heap.size T).setCell 5 _) hne.symm).trans t3⟩
                              | exact ⟨Mid.drewN (HMq3.out.setH h2) 1, (Only.cell ((Only.refl w.heap.size T).setCell 5 _).drew hne.symm).trans t1, (Only.cell ((Only.refl w.heap.size T).setCell 5 _).drew hne.symm).trans t3⟩
                        case rest =>
                          obtain ⟨hM4, v1, v3⟩ := hcut
                          clear t1 t3 t5 tf HWi HMq3
                          have HM4 : Hid (Mid w wc h2 s.rv) := hM4
                          have v6 := hM4.row.cell (i := 6 + n) (by omega)
                          have vf := hM4.row.frozen (6 + n)
                          rw [stc_row] at v6
                          clear hM4
                          go_wp2
                          go_region
                          all_goals
                            go_wp2
                            go_roundw
                            case rel => exact ⟨j + 1, { s with h := h2, rv := fun i => if i = n then x.pv else s.rv i }, by omega, by go_num, HSn.out.symm, rfl, rfl, rfl, rfl, by first | exact HM4.out.setR n _ | exact (HM4.out.setR n _).drewN 1⟩
                            case measure => simp [intOf]; omega
                · have hgs : gstep N (g0of ss) s x = { s with mx := true } := by
                    unfold gstep
                    rw [if_neg (fun h => h HGd.out), if_neg (by rw [HXn.out]; omega), if_pos hmx]
                  rw [hgs] at HSn
                  have bm : ((x.g : Int) != (g0of ss : Int)) = true := by simp; omega
                  clear hgs hmx
                  go_wp2
                  go_quiet (fail)
                  go_wp2
                  go_roundw
                  case rel => exact ⟨j + 1, { s with mx := true }, by omega, by go_num, HSn.out.symm, rfl, rfl, rfl, rfl, HMq.out.drewN _⟩
                  case measure => simp [intOf]; omega
      · have g1 : ¬ (x.g : Int) = 1 := by omega
        have g2 : ¬ (x.g : Int) = 2 := by omega
        have g3 : ¬ (x.g : Int) = 3 := by omega
        have b1 : ((x.g : Int) != 1) = true := by simp; omega
        have b2 : ((x.g : Int) != 2) = true := by simp; omega
        have b3 : ((x.g : Int) != 3) = true := by simp; omega
        have hgs : gstep N (g0of ss) s x = { s with bg := true } := by unfold gstep; rw [if_pos hbg]
        rw [hgs] at HSn
        clear hgs hbg
        go_wp2
        go_roundw
        case rel => exact ⟨j + 1, { s with bg := true }, by omega, by go_num, HSn.out.symm, rfl, rfl, rfl, rfl, HM.out.alloc _⟩
        case measure => simp [intOf]; omega
    · have hjL : j = L := by omega
      have hs : s = gfold N (g0of ss) ss := by rw [HSt.out, hjL, ← HL.out, List.take_length]
      have hE := HE.out.below hM.bel
      have e1 := hE.cell 1 (by omega)
      have e3 := hE.cell 3 (by omega)
      have e4 := hE.cell 4 (by omega)
      have e5 := hE.cell 5 (by omega)
      have e7 := hE.cell 7 (by omega)
      have HB : Hid (Below w.heap.size w wr) := hM.bel
      have hlt' : ¬ (j : Int) < (L : Int) := by omega
      cases hbg : s.bg with
      | true =>
        have HG : Hid (gcls k N ss = some 1) := by
          show gcls k N ss = some 1
          unfold gcls
          rw [← hs, if_pos hbg]
        clear hs hM hE hh HSt
        go_wp2
        go_quiet (fail)
        go_wp2
        go_ret2
        exact GPost.bad HG.out (HB.out.trans (drewN_below _ _ _))
      | false =>
        cases hbi : s.bi with
        | true =>
          have HG : Hid (gcls k N ss = some 3) := by
            show gcls k N ss = some 3
            unfold gcls
            rw [← hs, hbg, if_neg (by simp), if_pos hbi]
          clear hs hM hE hh HSt
          go_wp2
          go_quiet (fail)
          go_wp2
          go_ret2
          exact GPost.bad HG.out (HB.out.trans (drewN_below _ _ _))
        | false =>
          cases hmx : s.mx with
          | true =>
            have HG : Hid (gcls k N ss = some 4) := by
              show gcls k N ss = some 4
              unfold gcls
              rw [← hs, hbg, if_neg (by simp), hbi, if_neg (by simp), if_pos hmx]
            clear hs hM hE hh HSt
            go_wp2
            go_quiet (fail)
            go_wp2
            go_ret2
            exact GPost.bad HG.out (HB.out.trans (drewN_below _ _ _))
          | false =>
            cases htw : s.tw with
            | true =>
              have HG : Hid (gcls k N ss = some 5) := by
                show gcls k N ss = some 5
                unfold gcls
                rw [← hs, hbg, if_neg (by simp), hbi, if_neg (by simp), hmx, if_neg (by simp), if_pos htw]
              clear hs hM hE hh HSt
              go_wp2
              go_quiet (fail)
              go_wp2
              go_ret2
              exact GPost.bad HG.out (HB.out.trans (drewN_below _ _ _))
            | false =>
              have HG0 : Hid (∀ r, gcls2 k ss = r → gcls k N ss = r) := by
                intro r hr
                rw [← hr]
                unfold gcls
                rw [← hs, hbg, if_neg (by simp), hbi, if_neg (by simp), hmx, if_neg (by simp), htw, if_neg (by simp)]
              by_cases hL0 : L = 0
              · have HG : Hid (gcls k N ss = some 7) := HG0.out _ (gcls2_nil k (List.length_eq_zero_iff.1 (by rw [HL.out, hL0])))
                have hLz : ((L : Int) == 0) = true := by simp; omega
                clear hs hM hE hh HSt HG0 hL0
                go_wp2
                go_quiet (fail)
                go_wp2
                go_ret2
                exact GPost.bad HG.out (HB.out.trans (drewN_below _ _ _))
              · have hLz : ((L : Int) == 0) = false := by simp; omega
                have hL1 : (0 : Int) < (L : Int) := by omega
                have HNe : Hid (ss ≠ []) := by intro h; rw [h] at HL; exact hL0 HL.out.symm
                obtain ⟨b, rfl, hb0, hb2⟩ := g0of_cell HS.out (by rw [HL.out]; omega)
                have kp := Below.keeps hM.bel
                have d0 := kp _ _ _ hb0
                have d2 := kp _ _ _ hb2
                have s3 := hM.row.cell (i := 3) (by decide)
                have s4 := hM.row.cell (i := 4) (by decide)
                have t3 : wr.cell? ⟨w.heap.size, 3, none⟩ = some (.int .u8 0) := s3
                have t4 : wr.cell? ⟨w.heap.size, 4, none⟩ = some (.int .i64 0) := s4
                have f3 := hM.row.frozen 3
                have f4 := hM.row.frozen 4
                have hbne : b ≠ w.heap.size := by have := cell_lt hb0; omega
                have HM : Hid (Mid w wr s.h s.rv) := hM
                have Hs : Hid (s = gfold N (g0of ss) ss) := hs
                have hg123 : g0of ss = 1 ∨ g0of ss = 2 ∨ g0of ss = 3 := goodG_g0 (gfold_bg N (g0of ss) ss (by rw [← hs]; exact hbg)) HNe.out
                have hol : -9223372036854775808 ≤ ol0of ss ∧ ol0of ss ≤ 9223372036854775807 := by
                  obtain ⟨x, hx, hxo⟩ := ol0_mem HNe.out
                  rw [← hxo]
                  exact (HS.out.ok x hx).hol
                have HG123 : Hid (g0of ss = 1 ∨ g0of ss = 2 ∨ g0of ss = 3) := hg123
                obtain ⟨hol1, hol2⟩ := hol
                clear hs hM hE hh HSt hL0 s3 s4 kp hb0 hb2 e1 e3 e4 e5 hg123
                obtain ⟨g, hg⟩ : ∃ g, g0of ss = g := ⟨_, rfl⟩
                obtain ⟨ol, hol⟩ : ∃ ol, ol0of ss = ol := ⟨_, rfl⟩
                rw [hg] at d0 HG123
                rw [hol] at d2 hol1 hol2
                have Hg : Hid (g0of ss = g) := hg
                have Hol : Hid (ol0of ss = ol) := hol
                clear hg hol
                go_wp2
                go_cut [] from 16 (fun wc => wc.rowIs w.heap.size 120 22 (stc 0 0 0 g ol s.h s.rv) ∧ Below w.heap.size w wc)
                case first =>
                  go_region
                  all_goals
                    go_wp2
                    go_meet
                    first
                      | exact ⟨((HM.out.row.set 3 _).set 4 _).congr (fun i _ => stc_34 g ol s.h s.rv i), (HM.out.bel.setCell (p := ⟨w.heap.size, 3, none⟩) (Nat.le_refl _) _).setCell (p := ⟨w.heap.size, 4, none⟩) (Nat.le_refl _) _⟩
                      | exact ⟨((HM.out.row.set 4 _).set 3 _).congr (fun i _ => stc_43 g ol s.h s.rv i), (HM.out.bel.setCell (p := ⟨w.heap.size, 4, none⟩) (Nat.le_refl _) _).setCell (p := ⟨w.heap.size, 3, none⟩) (Nat.le_refl _) _⟩
                      | exact ⟨(((HM.out.row.set 3 _).set 4 _).congr (fun i _ => stc_34 g ol s.h s.rv i)).drew, ((HM.out.bel.setCell (p := ⟨w.heap.size, 3, none⟩) (Nat.le_refl _) _).setCell (p := ⟨w.heap.size, 4, none⟩) (Nat.le_refl _) _).drew⟩
                      | exact ⟨(((HM.out.row.set 4 _).set 3 _).congr (fun i _ => stc_43 g ol s.h s.rv i)).drew, ((HM.out.bel.setCell (p := ⟨w.heap.size, 4, none⟩) (Nat.le_refl _) _).setCell (p := ⟨w.heap.size, 3, none⟩) (Nat.le_refl _) _).drew⟩
                case rest =>
                  obtain ⟨hR, hbel⟩ := hcut
                  obtain ⟨W, hW⟩ : ∃ W, W = wc := ⟨_, rfl⟩
                  subst hW
                  clear d0 d2 t3 t4 f3 f4 HM HB e7
                  have HR : Hid (W.rowIs w.heap.size 120 22 (stc 0 0 0 g ol s.h s.rv)) := hR
                  have HBW : Hid (Below w.heap.size w W) := hbel
                  have q3 : W.cell? ⟨w.heap.size, 3, none⟩ = some (.int .u8 g) := hR.cell (i := 3) (by decide)
                  have q4 : W.cell? ⟨w.heap.size, 4, none⟩ = some (.int .i64 ol) := hR.cell (i := 4) (by decide)
                  have hzW := hR.lt
                  clear hR hbel
                  by_cases hbo : ol < 0 ∨ 256 < ol
                  · have HG : Hid (gcls k N ss = some 6) := HG0.out _ (gcls2_shape HNe.out (by rw [← Hol.out] at hbo; rcases hbo with h | h; exact .inl h; exact .inr (.inl h)))
                    have HP : Hid (∀ V, (V = W ∨ V = W.drew) → Calls Tryd.prog 49 #[.pointer (some ⟨cb, 0, none⟩), .int .u8 g, .int .i64 ol] V fun r w' => r = .returned (.tuple #[planZ, errV e (some 2)]) ∧ Below W.heap.size W w') := by
                      intro V hV
                      have hb : Below W.heap.size W V := by rcases hV with rfl | rfl; exact Below.refl _ _; exact (Below.refl _ _).drew
                      have hsz : V.heap.size = W.heap.size := by rcases hV with rfl | rfl <;> rfl
                      refine (plan_long 10 e V ((HE.out.below HBW.out).below hb) (by omega) cb g ol HG123.out hbo hol1 hol2).mono ?_
                      rintro r w' ⟨h1, h2⟩
                      exact ⟨h1, hb.trans (by rw [← hsz]; exact h2)⟩
                    go_wp2
                    go_cut [13] from 16 (fun u wc => u = errV e (some 2) ∧ Below w.heap.size w wc)
                    case first =>
                      unfold planZ errV at HP
                      go_region_with (go_at_call 49; refine (HP.out _ (by first | exact .inl rfl | exact .inr rfl)).mono ?_; rintro r w1 ⟨rfl, hb⟩; have hR1 := World.rowIs.of_block HR.out (hb.block w.heap.size hzW); have x0 : w1.cell? ⟨w.heap.size, 0, none⟩ = some (.int .u8 0) := hR1.cell (i := 0) (by decide); have x1 : w1.cell? ⟨w.heap.size, 1, none⟩ = some (.int .i64 0) := hR1.cell (i := 1) (by decide); have x2 : w1.cell? ⟨w.heap.size, 2, none⟩ = some (.int .i64 0) := hR1.cell (i := 2) (by decide); have y0 := hR1.frozen 0; have y1 := hR1.frozen 1; have y2 := hR1.frozen 2; have HB1 : Hid (Below w.heap.size w w1) := HBW.out.trans (hb.mono (Nat.le_of_lt hzW)); clear hb hR1)
                      all_goals
                        go_wp2
                        go_meet
                        first
                          | exact ⟨rfl, HB1.out⟩
                          | exact ⟨rfl, HB1.out.drew⟩
                          | exact ⟨rfl, ((HB1.out.setCell (p := ⟨w.heap.size, 0, none⟩) (Nat.le_refl _) _).setCell (p := ⟨w.heap.size, 1, none⟩) (Nat.le_refl _) _).setCell (p := ⟨w.heap.size, 2, none⟩) (Nat.le_refl _) _⟩
                    case rest =>
                      obtain ⟨rfl, hb3⟩ := hcut
                      have e6 := (HE.out.below hb3).cell 6 (by omega)
                      have HB3 : Hid (Below w.heap.size w wc) := hb3
                      clear hb3
                      unfold errV
                      go_wp2
                      go_quiet (fail)
                      go_wp2
                      go_ret2
                      exact GPost.bad HG.out (HB3.out.trans (drewN_below _ _ _))
                  · obtain ⟨n, hn⟩ : ∃ n : Nat, ol = (n : Int) := ⟨ol.toNat, by omega⟩
                    subst hn
                    have hn256 : n ≤ 256 := by omega
                    have hnt : (ol0of ss).toNat = n := by rw [Hol.out]; rfl
                    have HP : Hid (∀ V, (V = W ∨ V = W.drew) → Calls Tryd.prog 49 #[.pointer (some ⟨cb, 0, none⟩), .int .u8 g, .int .i64 (n : Int)] V fun r w' => r = .returned (.tuple #[planV g k n, .nilIface]) ∧ Below W.heap.size W w') := by
                      intro V hV
                      have hb : Below W.heap.size W V := by rcases hV with rfl | rfl; exact Below.refl _ _; exact (Below.refl _ _).drew
                      have hsz : V.heap.size = W.heap.size := by rcases hV with rfl | rfl <;> rfl
                      refine (plan_ok V F cb mb k m g n ((HC.out.below HBW.out).below hb) HG123.out hn256).mono ?_
                      rintro r w' ⟨h1, h2⟩
                      exact ⟨h1, hb.trans (by rw [← hsz]; exact h2)⟩
                    unfold planV at HP
                    obtain ⟨fam, hfam⟩ : ∃ x, pfam g = x := ⟨_, rfl⟩
                    obtain ⟨size, hsize⟩ : ∃ x, psize g k n = x := ⟨_, rfl⟩
                    obtain ⟨unit, hunit⟩ : ∃ x, punit g k n = x := ⟨_, rfl⟩
                    have hps := psize_le g k n hk hn256
                    rw [hfam, hsize, hunit] at HP
                    rw [hsize] at hps
                    have HSO : Hid (∀ W', StOk W' w.heap.size k N ss ↔ W'.rowIs w.heap.size 120 22 (stc fam size unit g n s.h s.rv)) := by
                      intro W'
                      unfold StOk
                      rw [Hg.out, hnt, hfam, hsize, hunit, Hol.out, Hs.out, Hg.out]
                    have HSB : Hid (∀ x ∈ ss, (x.ol ≠ (n : Int) ∨ x.pl ≠ size) → shapeBad k ss) := fun x hx h => .inr (.inr ⟨x, hx, by rw [Hol.out, Hg.out, Int.toNat_natCast, hsize]; exact h⟩)
                    have HSG : Hid ((∀ x ∈ ss, x.ol = (n : Int) ∧ x.pl = size) → ¬ shapeBad k ss) := by
                      intro hall h
                      rcases h with h | h | ⟨x, hx, h⟩
                      · rw [Hol.out] at h; omega
                      · rw [Hol.out] at h; omega
                      · rw [Hol.out, Hg.out, Int.toNat_natCast, hsize] at h
                        have := hall x hx
                        rcases h with h | h
                        · exact h this.1
                        · exact h this.2
                    clear hbo hol1 hol2 hfam hsize hunit hnt Hg Hol HG123 Hs
                    go_wp2
                    go_cut [13] from 16 (fun u wc => u = .nilIface ∧ wc.rowIs w.heap.size 120 22 (stc fam size unit g n s.h s.rv) ∧ Below w.heap.size w wc)
                    case first =>
                      go_region_with (go_at_call 49; refine (HP.out _ (by first | exact .inl rfl | exact .inr rfl)).mono ?_; rintro r w1 ⟨rfl, hb⟩; have hR1 := World.rowIs.of_block HR.out (hb.block w.heap.size hzW); have x0 : w1.cell? ⟨w.heap.size, 0, none⟩ = some (.int .u8 0) := hR1.cell (i := 0) (by decide); have x1 : w1.cell? ⟨w.heap.size, 1, none⟩ = some (.int .i64 0) := hR1.cell (i := 1) (by decide); have x2 : w1.cell? ⟨w.heap.size, 2, none⟩ = some (.int .i64 0) := hR1.cell (i := 2) (by decide); have y0 := hR1.frozen 0; have y1 := hR1.frozen 1; have y2 := hR1.frozen 2; have HB1 : Hid (Below w.heap.size w w1) := HBW.out.trans (hb.mono (Nat.le_of_lt hzW)); have HR1 : Hid (w1.rowIs w.heap.size 120 22 (stc 0 0 0 g n s.h s.rv)) := hR1; clear hb hR1)
                      all_goals
                        go_wp2
                        go_meet
                        first
                          | exact ⟨rfl, (((HR1.out.set 0 _).set 1 _).set 2 _).congr (fun i _ => stc_012 fam size unit g n s.h s.rv i), ((HB1.out.setCell (p := ⟨w.heap.size, 0, none⟩) (Nat.le_refl _) _).setCell (p := ⟨w.heap.size, 1, none⟩) (Nat.le_refl _) _).setCell (p := ⟨w.heap.size, 2, none⟩) (Nat.le_refl _) _⟩
                          | exact ⟨rfl, ((((HR1.out.set 0 _).set 1 _).set 2 _).congr (fun i _ => stc_012 fam size unit g n s.h s.rv i)).drew, (((HB1.out.setCell (p := ⟨w.heap.size, 0, none⟩) (Nat.le_refl _) _).setCell (p := ⟨w.heap.size, 1, none⟩) (Nat.le_refl _) _).setCell (p := ⟨w.heap.size, 2, none⟩) (Nat.le_refl _) _).drew⟩
                    case rest =>
                      obtain ⟨rfl, hR, hbel⟩ := hcut
                      obtain ⟨V, hV⟩ : ∃ V, V = wc := ⟨_, rfl⟩
                      subst hV
                      have HRV : Hid (V.rowIs w.heap.size 120 22 (stc fam size unit g n s.h s.rv)) := hR
                      have HBV : Hid (Below w.heap.size w V) := hbel
                      clear hR hbel HR HBW q3 q4 hzW HP
                      go_wp2
                      go_loopw [135] (fun i wq => ∃ z : Nat, z ≤ L ∧ i = .int .i64 z ∧ (∀ x ∈ ss.take z, x.ol = (n : Int) ∧ x.pl = size) ∧ wq.rowIs w.heap.size 120 22 (stc fam size unit g n s.h s.rv) ∧ Below w.heap.size w wq) (fun i _ => L - (intOf i).toNat)
                      case atStart => exact ⟨0, Nat.zero_le _, rfl, by simp, HRV.out, HBV.out⟩
                      case round =>
                        obtain ⟨z, hz, rfl, hall, hR, hbel⟩ := hrel
                        clear HRV HBV
                        by_cases hlz : z < L
                        · have hzl : z < ss.length := by rw [HL.out]; exact hlz
                          have hlz' : (z : Int) < (L : Int) := by omega
                          obtain ⟨b', hbe, hr⟩ := HS.out.row (by omega)
                          obtain rfl : b = b' := congrArg (fun x : Option Addr => (x.getD ⟨0, 0, none⟩).block) hbe
                          obtain ⟨r0, r1, r2, r3⟩ := hr z hzl
                          have hxo := HS.out.ok ss[z] (List.getElem_mem hzl)
                          have hmem : ss[z] ∈ ss := List.getElem_mem hzl
                          have htk : ss.take (z + 1) = ss.take z ++ [ss[z]] := List.take_succ_eq_append_getElem hzl
                          obtain ⟨x, hx⟩ : ∃ x, ss[z] = x := ⟨_, rfl⟩
                          rw [hx] at r0 r1 r2 r3 hxo hmem htk
                          have kp := Below.keeps hbel
                          have c0 := kp _ _ _ r0
                          have c1 := kp _ _ _ r1
                          have c2 := kp _ _ _ r2
                          have c3 := kp _ _ _ r3
                          have p1 : wr.cell? ⟨w.heap.size, 1, none⟩ = some (.int .i64 size) := hR.cell (i := 1) (by decide)
                          have p4 : wr.cell? ⟨w.heap.size, 4, none⟩ = some (.int .i64 (n : Int)) := hR.cell (i := 4) (by decide)
                          have hszr := hR.lt
                          have hE6 := (HE.out.below hbel).cell 6 (by omega)
                          have h7 : 7 < wr.heap.size := cell_lt hE6
                          have hcap := hxo.cap
                          have hcap2 := hxo.cap2
                          have HR : Hid (wr.rowIs w.heap.size 120 22 (stc fam size unit g n s.h s.rv)) := hR
                          have HBr : Hid (Below w.heap.size w wr) := hbel
                          have HAll : Hid (∀ x ∈ ss.take z, x.ol = (n : Int) ∧ x.pl = size) := hall
                          clear kp r0 r1 r2 r3 hr hbe hxo hx hR hbel hall
                          by_cases ho : x.ol = (n : Int)
                          · have bo : (x.ol != (n : Int)) = false := by simp [ho]
                            by_cases hp : x.pl = size
                            · have bp : ((x.pl : Int) != (size : Int)) = false := by simp [hp]
                              have HF : Hid (∀ y ∈ ss.take (z + 1), y.ol = (n : Int) ∧ y.pl = size) := by
                                intro y hy
                                rw [htk] at hy
                                rcases List.mem_append.1 hy with hy | hy
                                · exact HAll.out y hy
                                · have : y = x := by simpa using hy
                                  rw [this]; exact ⟨ho, hp⟩
                              clear ho hp htk hmem
                              go_wp2
                              go_quiet (fail)
                              go_wp2
                              go_roundw
                              case rel => exact ⟨z + 1, by omega, by go_num, HF.out, (World.rowIs.alloc HR.out _).of_block (by rw [(World.drewN_alike _ _).1]), (HBr.out.alloc HBr.out.size _).trans (drewN_below _ _ _)⟩
                              case measure => simp [intOf]; omega
                            · have bp : ((x.pl : Int) != (size : Int)) = true := by simp; omega
                              have HG : Hid (gcls k N ss = some 6) := HG0.out _ (gcls2_shape HNe.out (HSB.out x hmem (.inr hp)))
                              clear ho hp htk hmem
                              go_wp2
                              go_quiet (fail)
                              go_wp2
                              go_quiet (fail)
                              go_wp2
                              go_ret2
                              exact GPost.bad HG.out (((HBr.out.alloc HBr.out.size _).trans (drewN_below _ _ _)).trans (drewN_below _ _ _))
                          · have bo : (x.ol != (n : Int)) = true := by simp [ho]
                            have HG : Hid (gcls k N ss = some 6) := HG0.out _ (gcls2_shape HNe.out (HSB.out x hmem (.inl ho)))
                            clear ho htk hmem
                            go_wp2
                            go_quiet (fail)
                            go_wp2
                            go_quiet (fail)
                            go_wp2
                            go_ret2
                            exact GPost.bad HG.out (((HBr.out.alloc HBr.out.size _).trans (drewN_below _ _ _)).trans (drewN_below _ _ _))
                        · have hzL : z = L := by omega
                          have hlz' : ¬ (z : Int) < (L : Int) := by omega
                          have HNs : Hid (¬ shapeBad k ss) := HSG.out (by rw [hzL, ← HL.out, List.take_length] at hall; exact hall)
                          have hc0 := (HC.out.below hbel).c0
                          have hE7 := (HE.out.below hbel).cell 7 (by omega)
                          have HR : Hid (wr.rowIs w.heap.size 120 22 (stc fam size unit g n s.h s.rv)) := hR
                          have HBr : Hid (Below w.heap.size w wr) := hbel
                          clear hall hR hbel
                          by_cases hLk : L < k
                          · have HG : Hid (gcls k N ss = some 7) := HG0.out _ (gcls2_few HNe.out HNs.out (by rw [HL.out]; exact hLk))
                            have hLk' : (L : Int) < (k : Int) := by omega
                            go_wp2
                            go_quiet (fail)
                            go_wp2
                            go_ret2
                            exact GPost.bad HG.out (HBr.out.trans (drewN_below _ _ _))
                          · have HG : Hid (gcls k N ss = none) := HG0.out _ (gcls2_ok HNe.out HNs.out (by rw [HL.out]; exact hLk))
                            have hLk' : ¬ (L : Int) < (k : Int) := by omega
                            go_wp2
                            go_ret2
                            exact GPost.good HG.out HBr.out ((HSO.out _).2 HR.out)
end Go.Proofs.Qxb6500697aDoor
