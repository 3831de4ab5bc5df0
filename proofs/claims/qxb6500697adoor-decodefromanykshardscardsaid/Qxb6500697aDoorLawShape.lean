/-
  THE WALK OF THE LAW ShardsHaveTheStatedShape.
-/
import Derived.Test.Qxb6500697aDoorKTrialsW
import Derived.Test.Qxb6500697aDoorKEnc
import Derived.Test.Qxb6500697aDoorKErrsOf
namespace Go.Proofs.Qxb6500697aDoor
open Go.RowKit

def unitOf (g : Nat) : Nat := if g = 3 then 8 else 1

theorem ceil_low (a b : Nat) (hb : 0 < b) (h : 0 < ceil a b) : (ceil a b - 1) * b < a := by
  unfold ceil at *
  have h1 := Nat.div_mul_le_self (a + b - 1) b
  generalize (a + b - 1) / b = q at *
  obtain ⟨p, rfl⟩ : ∃ p, q = p + 1 := ⟨q - 1, by omega⟩
  rw [Nat.succ_mul] at h1
  simp
  omega

/-- The stated shape. -/
theorem shape (g k n : Nat) (hk : 1 ≤ k) : psize g k n % unitOf g = 0 ∧ n ≤ k * psize g k n ∧ (0 < psize g k n → k * (psize g k n - unitOf g) < n) := by
  obtain ⟨_, _, h3⟩ := plan_fits g k n hk
  refine ⟨?_, h3, fun h0 => ?_⟩
  · unfold psize unitOf
    split <;> omega
  · unfold psize unitOf at *
    by_cases e : g = 3
    · simp only [if_pos e] at *
      have h4 : 0 < ceil (ceil n 8) k := by omega
      have h5 := ceil_low (ceil n 8) k (by omega) h4
      have h6 : 0 < ceil n 8 := by omega
      have h7 := ceil_low n 8 (by omega) h6
      generalize ceil (ceil n 8) k = c at *
      generalize ceil n 8 = d at *
      obtain ⟨p, rfl⟩ : ∃ p, c = p + 1 := ⟨c - 1, by omega⟩
      have h8 : k * ((p + 1) * 8 - 8) = p * k * 8 := by rw [show (p + 1) * 8 - 8 = p * 8 by omega, ← Nat.mul_assoc, Nat.mul_comm k]
      simp at h5
      omega
    · simp only [if_neg e] at *
      have h5 := ceil_low n k (by omega) h0
      rw [Nat.mul_comm]; exact h5

theorem flat_cells (ts : List Tr) (j i : Nat) (hj : j < ts.length) (hi : i < 14) : (ts.flatMap Tr.cells)[j * 14 + i]? = (ts[j]).cells[i]? := by
  induction ts generalizing j with
  | nil => simp at hj
  | cons t ts ih =>
    have hl : t.cells.length = 14 := rfl
    cases j with
    | zero =>
      rw [List.flatMap_cons, List.getElem?_append_left (by rw [hl]; omega)]
      simp
    | succ j =>
      rw [List.flatMap_cons, List.getElem?_append_right (by rw [hl]; omega), hl, show (j + 1) * 14 + i - 14 = j * 14 + i by omega, ih j (by simpa using hj)]
      simp

/-- The trials' slice, read. -/
theorem TOut.form {w0 w : World} {v : Value} {ts : List Tr} (h : TOut w0 w v ts) : ∃ ao cap, v = .slice ao ts.length cap ∧ (0 < ts.length → ∃ g, ao = some ⟨g, 0, none⟩ ∧ ∀ j (hj : j < ts.length) i, i < 14 → w.cell? ⟨g, j * 14 + i, none⟩ = (ts[j]).cells[i]?) := by
  rcases h.own.2 with ⟨hv, h0⟩ | ⟨g, cap, cur, hv, hb, hg, hle, hm, hs, ht⟩
  · exact ⟨none, 0, by rw [hv, h0], fun h => by omega⟩
  · refine ⟨some ⟨g, 0, none⟩, cap, hv, fun _ => ⟨g, rfl, fun j hj i hi => ?_⟩⟩
    have hfc := flat_cells ts j i hj hi
    have hl : (ts[j]).cells.length = 14 := rfl
    obtain ⟨y, hy⟩ : ∃ y, (ts[j]).cells[i]? = some y := ⟨_, List.getElem?_eq_getElem (by rw [hl]; exact hi)⟩
    rw [hy] at hfc ⊢
    have := h.own.cells (g := g) (by rw [hv]; rfl) (j * 14 + i) y hfc
    have e : (⟨g, 0, none⟩ : Addr).add (j * 14 + i) = ⟨g, 0 + (j * 14 + i), none⟩ := by unfold Addr.add; split <;> simp_all
    rwa [e, Nat.zero_add] at this

theorem BRow.frow {w : World} {ao : Option Addr} {bs : List Nat} (h : BRow w ao bs) : FRow w ao bs.length (fun i => bs.getD i 0) :=
  ⟨fun i hi => h.byte hi, fun h0 => by
    obtain ⟨b, o, ha, hc⟩ := h.row (List.length_pos_iff.1 h0)
    exact ⟨b, o, ha, hc⟩⟩

set_option maxRecDepth 100000 in
set_option maxHeartbeats 4000000 in
theorem shape_any (ops : List KOp) (ao : Option Addr) (cap : Nat) (w : World) (e : Nat → Addr) (E : KErrs 3 w e) (hG : Gens w) (hs : KScript w ao ops) (hm : ops.length ≤ 140737488355328) (hb : ∀ x ∈ ops, x.bs.length ≤ 140737488355328 ∧ x.pick.length ≤ 140737488355328) :
    Calls Tryd.prog 6 #[.slice ao ops.length cap] w fun r w' => r = .returned (.bool true) ∧ Below w.heap.size w w' := by
  have hI : Tryd.prog.isIface 48 = true := by kernel_rfl
  have HSm : Hid _ := ksmall_any ao ops cap w hs hm hb
  cases hsm : ksmall ops with
  | false =>
    rw [hsm] at HSm
    clear hs E hG
    go_enter Tryd.func6, Tryd.ntmps6
    go_wp2_with fail
    refine Calls.mono HSm.out ?_
    rintro r w' ⟨rfl, hw⟩
    have hw := hw.symm; subst hw
    go_wp2
    go_ret
    exact ⟨rfl, Below.refl _ _⟩
  | true =>
    rw [hsm] at HSm
    obtain ⟨hn, hbs⟩ := ksmall_len hsm
    have HTr : Hid _ := trials_any 3 ops ao cap w e E (by omega) hs hn hbs
    have HG : Hid (Gens w) := hG
    clear hs hb hsm E hG
    go_enter Tryd.func6, Tryd.ntmps6
    go_wp2_with fail
    refine Calls.mono HSm.out ?_
    rintro r w' ⟨rfl, hw⟩
    have hw := hw.symm; subst hw
    clear HSm
    go_wp2_with fail
    refine Calls.mono HTr.out ?_
    rintro r w1 ⟨v, ts, rfl, hT, htl⟩
    have hts : ts.length ≤ 140737488355328 := by omega
    clear htl
    obtain ⟨ta, tcap, rfl, htc⟩ := hT.form
    have HT : Hid (TOut w w1 (.slice ta ts.length tcap) ts) := hT
    have HTC : Hid _ := htc
    clear hT htc HTr
    go_wp2
    go_loopw [21] (fun i wr => ∃ j : Nat, j ≤ ts.length ∧ i = .int .i64 j ∧ Below w1.heap.size w1 wr) (fun i _ => ts.length - (intOf i).toNat)
    case atStart => exact ⟨0, Nat.zero_le _, rfl, Below.refl _ _⟩
    case round =>
      obtain ⟨w2, hw2⟩ : ∃ x, x = wr := ⟨_, rfl⟩
      subst hw2
      obtain ⟨j, hj, rfl, hbr⟩ := hrel
      by_cases hlt : j < ts.length
      · obtain ⟨g0, rfl, hcs⟩ := HTC.out (by omega)
        have hok := (HT.out.ok ts[j] (List.getElem_mem hlt)).below hbr
        have kc : ∀ i, i < 14 → w2.cell? ⟨g0, j * 14 + i, none⟩ = (ts[j]).cells[i]? := by
          intro i hi
          have h1 := hcs j hlt i hi
          have hl : (ts[j]).cells.length = 14 := rfl
          have h2 : (ts[j]).cells[i]? = some ((ts[j]).cells[i]'(by rw [hl]; exact hi)) := List.getElem?_eq_getElem _
          rw [h2] at h1 ⊢
          exact (hbr.cell (p := ⟨g0, j * 14 + i, none⟩) (cell_lt h1)).trans h1
        have HOk : Hid _ := hok
        obtain ⟨t, ht⟩ : ∃ t, ts[j] = t := ⟨_, rfl⟩
        rw [ht] at kc HOk
        have k0 := kc 0 (by omega)
        have k1 := kc 1 (by omega)
        have k2 := kc 2 (by omega)
        have k3 := kc 3 (by omega)
        have k4 := kc 4 (by omega)
        have k5 := kc 5 (by omega)
        have k6 := kc 6 (by omega)
        have k7 := kc 7 (by omega)
        have k8 := kc 8 (by omega)
        have k9 := kc 9 (by omega)
        have k10 := kc 10 (by omega)
        have k11 := kc 11 (by omega)
        have k12 := kc 12 (by omega)
        have k13 := kc 13 (by omega)
        simp only [Tr.cells, KOp.cells, List.getElem?_cons_zero, List.getElem?_cons_succ, Nat.add_zero] at k0 k1 k2 k3 k4 k5 k6 k7 k8 k9 k10 k11 k12 k13
        have hGr : Gens w2 := (HG.out.below HT.out.bel).below hbr
        obtain ⟨gb, go, gc, hg0, hg1, hg2⟩ := hGr
        have hlt' : (j : Int) < (ts.length : Int) := by omega
        have HBr : Hid (Below w1.heap.size w1 w2) := hbr
        have hz0 : 0 < w2.heap.size := cell_lt hg0
        have hz1 : gb < w2.heap.size := cell_lt (hg2 0 (by omega))
        clear hcs hok kc ht hbr
        go_wp2
        go_loopw [27] (fun i wq => ∃ q : Nat, q ≤ 3 ∧ i = .int .i64 q ∧ Below w2.heap.size w2 wq ∧ w2.heap.size < wq.heap.size ∧ wq.cell? ⟨w2.heap.size, 0, none⟩ = some (.pointer (some ⟨t.cb, 0, none⟩)) ∧ wq.cell? ⟨w2.heap.size, 1, none⟩ = some (.slice t.oa t.obs.length t.oc)) (fun i _ => 3 - (intOf i).toNat)
        case atStart =>
          refine ⟨0, by omega, rfl, Below.alloc (Below.refl _ _) (Nat.le_refl _) _, by simp [go_sem], by simp [go_sem], by simp [go_sem]⟩
        case round =>
          obtain ⟨q, hq, rfl, hbq, hsz, b0, b1⟩ := hrel
          by_cases hlq : q < 3
          · have hlq' : (q : Int) < 3 := by omega
            have gq : wr.cell? ⟨gb, go + q, none⟩ = some (.int .u8 ((q + 1 : Nat) : Int)) := (hbq.cell (p := ⟨gb, go + q, none⟩) hz1).trans (hg2 q hlq)
            obtain ⟨g, hg⟩ : ∃ g, g = q + 1 := ⟨_, rfl⟩
            rw [← hg] at gq
            have hOk := HOk.out.below hbq
            have HE : Hid _ := encode_ok wr _ t.cb t.mb t.k t.m g t.obs.length t.oc t.oa (fun i => t.obs.getD i 0) hOk.codec hOk.obj.frow (by omega) hOk.olen hOk.ocap hOk.ocap2
            have HC : Hid (CodecAt wr _ t.cb t.mb t.k t.m) := hOk.codec
            have ho256 := hOk.olen
            have hk1 := hOk.codec.hk
            have hkm := hOk.codec.hn
            obtain ⟨n, hn⟩ : ∃ n, t.obs.length = n := ⟨_, rfl⟩
            have HBq : Hid (Below w2.heap.size w2 wr) := hbq
            rw [hn] at b1 HE ho256
            have Hn : Hid (t.obs.length = n) := hn
            have hg12 : g = 1 ∨ g = 2 ∨ g = 3 := by omega
            have HGG : Hid (g = 1 ∨ g = 2 ∨ g = 3) := hg12
            have HGq : Hid (g = q + 1) := hg
            clear hOk hbq hg2 hg k0 k1 k2 k3 k4 k5 k6 k7 k8 k9 k10 k11 k12 k13 hg12 hn
            go_wp2_with fail
            refine Calls.mono HE.out ?_
            rintro r w3 ⟨HS, pb, po, rfl, hHS, -, hSA, hb3⟩
            clear HE
            obtain ⟨N, hN⟩ : ∃ N, N = t.k + t.m := ⟨_, rfl⟩
            rw [← hN] at hSA ⊢
            have HSA : Hid (ShardsAt w3 HS N g n (psize g t.k n) pb po (pay g t.k n (fun i => t.obs.getD i 0))) := hSA
            have b0' : w3.cell? ⟨w2.heap.size, 0, none⟩ = some (.pointer (some ⟨t.cb, 0, none⟩)) := (hb3.cell (p := ⟨w2.heap.size, 0, none⟩) hsz).trans b0
            have b1' : w3.cell? ⟨w2.heap.size, 1, none⟩ = some (.slice t.oa n t.oc) := (hb3.cell (p := ⟨w2.heap.size, 1, none⟩) hsz).trans b1
            have HB3 : Hid (Below w2.heap.size w2 w3) := HBq.out.trans (hb3.mono HBq.out.size)
            have HL : Hid _ := shardLen_ok w3 _ t.cb t.mb t.k t.m g n (HC.out.below hb3) HGG.out ho256
            have HC3 : Hid _ := HC.out.below hb3
            have hsz3 : w2.heap.size < w3.heap.size := Nat.lt_of_lt_of_le hsz hb3.size
            have HN : Hid (N = t.k + t.m) := hN
            have hN16 : N ≤ 16 := by omega
            have hk16 : t.k ≤ 16 := by omega
            clear hN hkm hSA b0 b1 HBq HC hb3 hHS hsz gq
            go_wp2_with fail
            refine Calls.mono HL.out ?_
            rintro r w4 ⟨rfl, hb4⟩
            clear HL
            have HSh : Hid _ := shape g t.k n hk1
            have hsz256 : psize g t.k n ≤ 4096 := psize_le g t.k n hk1 ho256
            obtain ⟨S, hS⟩ : ∃ S, psize g t.k n = S := ⟨_, rfl⟩
            rw [hS] at HSh hsz256 HSA ⊢
            clear hS
            have b0 : w4.cell? ⟨w2.heap.size, 0, none⟩ = some (.pointer (some ⟨t.cb, 0, none⟩)) := (hb4.cell (p := ⟨w2.heap.size, 0, none⟩) hsz3).trans b0'
            have b1 : w4.cell? ⟨w2.heap.size, 1, none⟩ = some (.slice t.oa n t.oc) := (hb4.cell (p := ⟨w2.heap.size, 1, none⟩) hsz3).trans b1'
            have hsz4 : w2.heap.size < w4.heap.size := Nat.lt_of_lt_of_le hsz3 hb4.size
            have HB4 : Hid (Below w2.heap.size w2 w4) := HB3.out.trans (hb4.mono HB3.out.size)
            have HK : Hid _ := codecK_any w4 _ t.cb t.mb t.k t.m (HC3.out.below hb4)
            have HB34 : Hid (Below w3.heap.size w3 w4) := hb4
            clear b0' b1' HB3 HC3 hb4
            go_upto_if 57 with fail
            go_cut [11] from 28 to 122 (fun u wc => u = .int .i64 ((unitOf g : Nat) : Int) ∧ wc = w4)
            case first =>
              by_cases h3 : g = 3
              · subst h3
                go_wp2
                go_meet
                exact ⟨rfl, rfl⟩
              · have hu : unitOf g = 1 := by unfold unitOf; simp [h3]
                have h3' : ¬ (g : Int) = 3 := by omega
                go_wp2
                go_meet
                exact ⟨by rw [hu]; rfl, rfl⟩
            case rest =>
              obtain ⟨rfl, hwc⟩ := hcut
              have hwc := hwc.symm; subst hwc
              have hu8 : 1 ≤ unitOf g ∧ unitOf g ≤ 8 := by unfold unitOf; split <;> omega
              obtain ⟨u, hu⟩ : ∃ u, unitOf g = u := ⟨_, rfl⟩
              rw [hu] at HSh hu8 ⊢
              clear hu
              go_wp2_with fail
              refine Calls.mono HK.out ?_
              rintro r w5 ⟨rfl, hw5⟩
              have hw5 := hw5.symm; subst hw5
              clear HK
              go_upto_region 17 with fail
              go_cut [88] from 28 to 122 (fun c wc => c = .bool false ∧ wc = w4)
              case first =>
                obtain ⟨s1, s2, s3⟩ := HSh.out
                have z1 : (S : Int).tmod (u : Int) = 0 := by rw [Int.tmod_eq_emod_of_nonneg (by omega)]; exact_mod_cast s1
                have zu : ¬ (u : Int) = 0 := by omega
                have zm := Nat.mul_le_mul hk16 hsz256
                obtain ⟨P, hP⟩ : ∃ P, t.k * S = P := ⟨_, rfl⟩
                have zP : (t.k : Int) * (S : Int) = (P : Int) := by rw [← hP]; exact_mod_cast rfl
                rw [hP] at s2 zm
                have zn : ¬ (P : Int) < (n : Int) := by omega
                by_cases hS0 : S = 0
                · have hS0' : ¬ (0 : Int) < (S : Int) := by omega
                  clear s1 s2 s3 hP HSh hS0
                  go_wp2
                  go_meet
                  exact ⟨rfl, rfl⟩
                · have hS0' : (0 : Int) < (S : Int) := by omega
                  have s4 := s3 (by omega)
                  have hus : u ≤ S := Nat.le_of_dvd (by omega) (Nat.dvd_of_mod_eq_zero s1)
                  obtain ⟨D, hD⟩ : ∃ D, S - u = D := ⟨_, rfl⟩
                  have zD : (S : Int) - (u : Int) = (D : Int) := by omega
                  have zm2 := Nat.mul_le_mul hk16 (show D ≤ 4096 by omega)
                  rw [hD] at s4
                  obtain ⟨M, hM⟩ : ∃ M, t.k * D = M := ⟨_, rfl⟩
                  have zM : (t.k : Int) * (D : Int) = (M : Int) := by rw [← hM]; exact_mod_cast rfl
                  rw [hM] at s4 zm2
                  have zn2 : ¬ (n : Int) ≤ (M : Int) := by omega
                  have zn3 : ¬ (M : Int) ≥ (n : Int) := by omega
                  clear s1 s2 s3 hP HSh hM hD
                  go_wp2
                  go_meet
                  exact ⟨rfl, rfl⟩
              case rest =>
                obtain ⟨rfl, hwc⟩ := hcut
                have hwc := hwc.symm; subst hwc
                go_wp2
                go_loopw [91] (fun i wq => ∃ z : Nat, z ≤ N ∧ i = .int .i64 z ∧ Below w4.heap.size w4 wq) (fun i _ => N - (intOf i).toNat)
                case atStart => exact ⟨0, Nat.zero_le _, rfl, Below.refl _ _⟩
                case round =>
                  obtain ⟨z, hz, rfl, hbz⟩ := hrel
                  by_cases hlz : z < N
                  · have hlz' : (z : Int) < (N : Int) := by omega
                    have HBz : Hid (Below w4.heap.size w4 wr) := hbz
                    have hc : ∀ i v, i < 4 → shc g n S pb po (z * 4 + i) = v → wr.cell? ⟨HS, z * 4 + i, none⟩ = some v := by
                      intro i v hi hv
                      have h1 := HSA.out.row.cell (show z * 4 + i < 4 * N by omega)
                      rw [hv] at h1
                      have h2 := (HB34.out.cell (p := ⟨HS, z * 4 + i, none⟩) (cell_lt h1)).trans h1
                      exact (hbz.cell (p := ⟨HS, z * 4 + i, none⟩) (cell_lt h2)).trans h2
                    have c0 := hc 0 (.int .u8 g) (by omega) (by unfold shc; rw [if_pos (by omega)])
                    have c1 := hc 1 (.int .i64 z) (by omega) (by unfold shc; rw [if_neg (by omega), if_pos (by omega), show (z * 4 + 1) / 4 = z by omega])
                    have c2 := hc 2 (.int .i64 n) (by omega) (by unfold shc; rw [if_neg (by omega), if_neg (by omega), if_pos (by omega)])
                    have c3 := hc 3 (.slice (some ⟨pb z, po z, none⟩) S S) (by omega) (by unfold shc; rw [if_neg (by omega), if_neg (by omega), if_neg (by omega), show (z * 4 + 3) / 4 = z by omega])
                    rw [Nat.add_zero] at c0
                    have b1z : wr.cell? ⟨w2.heap.size, 1, none⟩ = some (.slice t.oa n t.oc) := (hbz.cell (p := ⟨w2.heap.size, 1, none⟩) hsz4).trans b1
                    have hszz : w2.heap.size < wr.heap.size := Nat.lt_of_lt_of_le hsz4 hbz.size
                    clear hbz hc
                    go_wp2
                    refine ⟨⟨z + 1, by omega, by rfl, HBz.out.alloc HBz.out.size _⟩, ?_⟩
                    simp only [intOf]
                    omega
                  · have hlz' : ¬ (z : Int) < (N : Int) := by omega
                    have HBz : Hid (Below w4.heap.size w4 wr) := hbz
                    clear hbz
                    go_wp2
                    refine ⟨⟨q + 1, by omega, by rfl, HB4.out.trans (HBz.out.mono HB4.out.size), Nat.lt_of_lt_of_le hsz4 HBz.out.size, (HBz.out.cell (p := ⟨w2.heap.size, 0, none⟩) hsz4).trans b0, (HBz.out.cell (p := ⟨w2.heap.size, 1, none⟩) hsz4).trans (b1.trans (by rw [Hn.out]))⟩, ?_⟩
                    · simp only [intOf]
                      omega
          · have hlq' : ¬ (q : Int) < 3 := by omega
            go_wp2
            refine ⟨⟨j + 1, by omega, by rfl, HBr.out.trans (hbq.mono HBr.out.size)⟩, ?_⟩
            simp only [intOf]
            omega
      · have hlt' : ¬ (j : Int) < (ts.length : Int) := by omega
        have HB : Hid (Below w.heap.size w w2) := HT.out.bel.trans (hbr.mono HT.out.bel.size)
        clear hbr
        go_wp2
        go_ret
        exact ⟨rfl, HB.out⟩
end Go.Proofs.Qxb6500697aDoor
