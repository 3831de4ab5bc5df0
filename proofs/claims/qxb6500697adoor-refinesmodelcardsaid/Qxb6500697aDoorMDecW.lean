/-
  THE WALK OF THE MODEL's Decode.
-/
import Derived.Test.Qxb6500697aDoorMDec
import Derived.Deep.CutRange
namespace Go.Proofs.Qxb6500697aDoor
open Go.RowKit

/-- What the model's Decode answers. -/
def MDPost (w : World) (k N : Nat) (ss : List Sd) (r : Ending) (w' : World) : Prop := Below w.heap.size w w' ∧
  ((∃ i, gcls k N ss = some i ∧ r = .returned (.tuple #[.slice none 0 0, .int .u8 ((i + 1 : Nat) : Int)])) ∨
   (Good k N ss ∧ NoRows k ss ∧ r = .returned (.tuple #[.slice none 0 0, .int .u8 9])) ∨
   (Good k N ss ∧ ∃ ob D, r = .returned (.tuple #[.slice (some ⟨ob, 0, none⟩) (ol0of ss).toNat (ol0of ss).toNat, .int .u8 0]) ∧ BytD k (psize (g0of ss) k (ol0of ss).toNat) D ∧ Fits (g0of ss) k (psize (g0of ss) k (ol0of ss).toNat) ss D ∧ PadZ k (punit (g0of ss) k (ol0of ss).toNat) (psize (g0of ss) k (ol0of ss).toNat) (ol0of ss).toNat D ∧
      Row w' ob (ol0of ss).toNat (col k (punit (g0of ss) k (ol0of ss).toNat) D) ∧ w.heap.size ≤ ob))

theorem gcls_le {k N i : Nat} {ss : List Sd} (h : gcls k N ss = some i) : i ≤ 7 := by
  unfold gcls at h
  split at h
  · cases h; decide
  · split at h
    · cases h; decide
    · split at h
      · cases h; decide
      · split at h
        · cases h; decide
        · unfold gcls2 at h
          split at h
          · cases h; decide
          · split at h
            · cases h; decide
            · split at h
              · cases h; decide
              · cases h

/-- The shard that Encode makes, as Same reads it. -/
def esd (g n size B i : Nat) (P : Nat → Nat → Nat) : Sd := ⟨g, (i : Int), (n : Int), some ⟨B + i, 0, none⟩, size, size, P i⟩
theorem ERel.esd {w0 w : World} {HS B N g n size : Nat} {A : Nat → Nat → Nat} (h : ERel w0 w HS B N g n size A) (hg : g < 256) (hn : n ≤ 256) (hs : size ≤ 4096) (hN : N ≤ 16) {i : Nat} (hi : i < N) :
    SdOk w (esd g n size B i A) ∧ w.cell? ⟨HS, i * 4, none⟩ = some (.int .u8 g) ∧ w.cell? ⟨HS, i * 4 + 1, none⟩ = some (.int .i64 (i : Int)) ∧ w.cell? ⟨HS, i * 4 + 2, none⟩ = some (.int .i64 n) ∧ w.cell? ⟨HS, i * 4 + 3, none⟩ = some (.slice (some ⟨B + i, 0, none⟩) size size) := by
  have c0 := h.hdr.cell (i := i * 4) (by omega)
  have c1 := h.hdr.cell (i := i * 4 + 1) (by omega)
  have c2 := h.hdr.cell (i := i * 4 + 2) (by omega)
  have c3 := h.hdr.cell (i := i * 4 + 3) (by omega)
  unfold shc at c0 c1 c2 c3
  rw [if_pos (by omega)] at c0
  rw [if_neg (by omega), if_pos (by omega), show (i * 4 + 1) / 4 = i by omega] at c1
  rw [if_neg (by omega), if_neg (by omega), if_pos (by omega)] at c2
  rw [if_neg (by omega), if_neg (by omega), if_neg (by omega), show (i * 4 + 3) / 4 = i by omega] at c3
  refine ⟨⟨hg, ?_, ?_, (h.row i hi).frow, Nat.le_refl _, ?_⟩, c0, c1, c2, c3⟩
  · show -9223372036854775808 ≤ (i : Int) ∧ (i : Int) ≤ 9223372036854775807
    omega
  · show -9223372036854775808 ≤ (n : Int) ∧ (n : Int) ≤ 9223372036854775807
    omega
  · show size ≤ 9223372036854775807
    omega

open Classical in
set_option maxRecDepth 100000 in
set_option maxHeartbeats 4000000 in
theorem mdecode_any (k m : Nat) (ao : Option Addr) (cap : Nat) (ss : List Sd) (w : World) (hk : 1 ≤ k) (hm : 1 ≤ m) (hkm : k + m ≤ 16) (hS : SdRow w ao ss) (hlen : ss.length ≤ 65536) (hcap : ss.length ≤ cap) :
    Calls Tryd.prog 45 #[.int .i64 k, .int .i64 m, .slice ao ss.length cap] w (MDPost w k (k + m) ss) := by
  have HFa : Hid _ := faults_any k m ao cap ss w hk hm hkm hS hlen hcap
  have HWe : Hid (∀ (g : Nat) (V : World), g < 256 → Calls Tryd.prog 61 #[.int .u8 g, .int .i64 k, .int .i64 m] V fun e w' => e = .returned (.slice (some ⟨V.heap.size, 0, none⟩) ((k + m : Nat)) ((k + m : Nat))) ∧ MatAt w' V.heap.size (k + m) k (fun r => V.heap.size + 1 + r) (genr g k) ∧ Below V.heap.size V w') := fun g V hg => by
    refine (weights_any g k m V hg hk hkm).mono ?_
    rintro e w' ⟨h1, h2, h3⟩
    exact ⟨h2, h3, h1⟩
  have HEn : Hid (∀ (g n : Nat) (oa : Option Addr) (f : Nat → Nat) (V : World), FRow V oa n f → goodG g → n ≤ 256 → Calls Tryd.prog 43 #[.int .i64 k, .int .i64 m, .int .u8 g, .slice oa n n] V (EPost V k (k + m) g n f)) := fun g n oa f V h1 h2 h3 => mencode_ok k m g n n oa f V hk hm hkm h1 h2 h3 (Nat.le_refl _) (by omega)
  obtain ⟨N, hN⟩ : ∃ N, k + m = N := ⟨_, rfl⟩
  rw [hN] at hkm HFa HWe HEn ⊢
  have hkN : k ≤ N := by omega
  have hk16 : k ≤ 16 := by omega
  have HS : Hid (SdRow w ao ss) := hS
  have HP : Hid (∀ x ∈ ss, ∀ c, c < x.pl → x.P c < 256) := fun x hx c hc => (hS.ok x hx).pay.1 c hc
  obtain ⟨L, hL⟩ : ∃ L, ss.length = L := ⟨_, rfl⟩
  have HL : Hid (ss.length = L) := hL
  rw [hL] at hlen hcap HFa ⊢
  clear hS hL hN
  cases hgc : gcls k N ss with
  | some i =>
    have hi := gcls_le hgc
    rw [hgc] at HFa
    have e1 : clsN (some i) = i + 1 := rfl
    rw [e1] at HFa
    have HGc : Hid (gcls k N ss = some i) := hgc
    have hb0 : (((i + 1 : Nat) : Int) != 0) = true := by simp; omega
    obtain ⟨c, hc⟩ : ∃ c, i + 1 = c := ⟨_, rfl⟩
    have HC : Hid (i + 1 = c) := hc
    rw [hc] at HFa hb0
    clear hgc e1 hc HWe HEn
    go_enter Tryd.func45, Tryd.ntmps45
    go_wp2_with fail
    refine Calls.mono HFa.out ?_
    rintro r w1 ⟨rfl, hb1⟩
    have HB1 : Hid (Below w.heap.size w w1) := hb1
    clear hb1 HFa
    go_wp2
    go_ret2
    refine ⟨HB1.out, .inl ⟨i, HGc.out, ?_⟩⟩
    rw [HC.out]; rfl
  | none =>
    have hG := good_of_gcls hgc
    have HG : Hid (Good k N ss) := hG
    rw [hgc] at HFa
    have e1 : clsN none = 0 := rfl
    rw [e1] at HFa
    have hlen2 := hG.len
    have hol := hG.ol
    obtain ⟨x0, hx0⟩ : ∃ x0, ss.getD 0 Sd.zero = x0 := ⟨_, rfl⟩
    have hm0 : x0 ∈ ss := by rw [← hx0]; exact getD_mem (by omega)
    have hfx := hG.fit x0 hm0
    have hshx := hG.shape x0 hm0
    have hggd : goodG (g0of ss) := by rw [← hfx.same]; exact hfx.hg
    obtain ⟨n, hn⟩ : ∃ n, (ol0of ss).toNat = n := ⟨_, rfl⟩
    have hni : ol0of ss = (n : Int) := by omega
    have hn256 : n ≤ 256 := by omega
    obtain ⟨g, hg⟩ : ∃ g, g0of ss = g := ⟨_, rfl⟩
    rw [hg] at hggd hshx
    rw [hn] at hshx
    have hps := psize_le g k n hk hn256
    obtain ⟨size, hsz⟩ : ∃ size, psize g k n = size := ⟨_, rfl⟩
    rw [hsz] at hps hshx
    have HGg : Hid (goodG g) := hggd
    have hg256 : g < 256 := by rcases hggd with h | h | h <;> omega
    have Hg : Hid (g0of ss = g) := hg
    have Hn : Hid ((ol0of ss).toNat = n) := hn
    have Hsz : Hid (psize g k n = size) := hsz
    have HL0 : 0 < L := by have := HL.out; omega
    have hL0' : (0 : Int) < (L : Int) := by omega
    have HX0 : Hid (x0 ∈ ss ∧ x0.g = g ∧ x0.ol = (n : Int) ∧ x0.pl = size ∧ ss.getD 0 Sd.zero = x0) := ⟨hm0, by rw [hfx.same, hg], by rw [hshx.1, hni], hshx.2, hx0⟩
    clear hgc e1 hG hfx hshx hggd hol hm0 hx0 hn hg hsz hni hlen2
    go_enter Tryd.func45, Tryd.ntmps45
    go_wp2_with fail
    refine Calls.mono HFa.out ?_
    rintro r w1 ⟨rfl, hb1⟩
    have HB1 : Hid (Below w.heap.size w w1) := hb1
    have hS1 := HS.out.keeps (Below.keeps hb1)
    obtain ⟨hm0, hxg, hxo, hxp, hx0⟩ := HX0.out
    obtain ⟨b, rfl, c0, c1, c2, c3⟩ := hS1.at_ (j := 0) (by rw [HL.out]; exact HL0)
    have e0 : ss[0]'(by rw [HL.out]; exact HL0) = x0 := by rw [← getD_lt (d := Sd.zero)]; exact hx0
    rw [e0] at c0 c1 c2 c3
    rw [hxg] at c0
    rw [hxo] at c2
    rw [hxp] at c3
    clear hb1 HFa hS1 hm0 hxg hxo hxp hx0 e0
    go_wp2
    go_quiet (fail)
    obtain ⟨w5, hw5⟩ : ∃ w5, w1.drewN nq = w5 := ⟨_, rfl⟩
    rw [hw5]
    have hb5 : Below w1.heap.size w1 w5 := by rw [← hw5]; exact drewN_below _ _ _
    have HB5 : Hid (Below w.heap.size w w5) := HB1.out.trans (hb5.mono HB1.out.size)
    have Hbw : Hid (b < w5.heap.size) := Nat.lt_of_lt_of_le (cell_lt c0) hb5.size
    clear hw5 hb5 HB1 c0 c1 c2 c3
    have hmk := run_make_row' (P := Tryd.prog) 100 30 (.slice none 0 0) 24 Tryd.underlying100 Tryd.info30 rfl .i64 .i64 k (by omega) (by omega)
    go_upto_region 5 with fail
    go_cut [12, 13, 14] from 27 to 138 (fun av bv cv wx => ∃ HW H1 H2, av = .slice (some ⟨HW, 0, none⟩) N N ∧ bv = .slice (some ⟨H1, 0, none⟩) k k ∧ cv = .slice (some ⟨H2, 0, none⟩) k k ∧ Reg5 w5 wx HW H1 H2 N k g)
    case first =>
      go_region_with (go_at_call 61; refine (HWe.out _ _ hg256).mono ?_; rintro e w6 ⟨rfl, hM, hb6⟩; have HM6 : Hid _ := hM; have HB6 : Hid _ := hb6; clear hM hb6)
      all_goals
        go_wp2
        go_meet
        have hM := HM6.out
        have hb := HB6.out
        refine ⟨_, _, _, rfl, rfl, rfl, ?_⟩
        first
        | exact reg5_a (V0 := w5.drew) (Below.refl _ _).drew hM hb rfl rfl rfl
        | exact (reg5_a (V0 := w5.drew) (Below.refl _ _).drew hM hb rfl rfl rfl).symm
        | (have e1 : (w5.alloc (hdrs k)).drew.heap.size = w5.heap.size + 1 := alloc_size w5 _
           rw [e1] at hM
           exact reg5_b (V0 := w5) (V := (w5.alloc (hdrs k)).drew) (Below.refl _ _) (Below.refl _ _).drew e1 hM hb e1.symm rfl rfl)
        | (have e1 : (w5.alloc (hdrs k)).drew.heap.size = w5.heap.size + 1 := alloc_size w5 _
           rw [e1] at hM
           exact (reg5_b (V0 := w5) (V := (w5.alloc (hdrs k)).drew) (Below.refl _ _) (Below.refl _ _).drew e1 hM hb e1.symm rfl rfl).symm)
        | (have e1 : ((w5.alloc (hdrs k)).alloc (hdrs k)).drew.heap.size = w5.heap.size + 1 + 1 := (alloc_size (w5.alloc (hdrs k)) _).trans (by rw [alloc_size])
           rw [e1] at hM
           exact reg5_c (V0 := w5) (V := ((w5.alloc (hdrs k)).alloc (hdrs k)).drew) (Below.refl _ _) (Below.refl _ _).drew e1 hM hb e1.symm rfl rfl)
        | (have e1 : ((w5.alloc (hdrs k)).alloc (hdrs k)).drew.heap.size = w5.heap.size + 1 + 1 := (alloc_size (w5.alloc (hdrs k)) _).trans (by rw [alloc_size])
           rw [e1] at hM
           exact (reg5_c (V0 := w5) (V := ((w5.alloc (hdrs k)).alloc (hdrs k)).drew) (Below.refl _ _) (Below.refl _ _).drew e1 hM hb e1.symm rfl rfl).symm)
    case rest =>
      obtain ⟨w6, hw6⟩ : ∃ x, x = wc := ⟨_, rfl⟩
      subst hw6
      obtain ⟨HW, H1, H2, rfl, rfl, rfl, hR5⟩ := hcut
      have HP0 : Hid (PickR w5 w6 HW H1 H2 N k g 0 ss) := hR5.pick ss
      clear hR5 hmk HWe
      go_wp2
      go_loopw [15] (fun i wr => ∃ r : Nat, r ≤ k ∧ i = .int .i64 r ∧ PickR w5 wr HW H1 H2 N k g r ss) (fun i _ => k - (intOf i).toNat)
      case atStart => exact ⟨0, Nat.zero_le _, rfl, HP0.out⟩
      case round =>
        obtain ⟨r, hr, rfl, hPk⟩ := hrel
        clear HP0
        by_cases hlt : r < k
        · have hlt' : (r : Int) < (k : Int) := by omega
          have hlen2 := HG.out.len
          have hrL : (r : Int) < (L : Int) := by have := HL.out; omega
          have kp : Keeps w wr := (Below.keeps HB5.out).trans (Below.keeps hPk.bel)
          have hrs : r < ss.length := by omega
          obtain ⟨b', hbe, d0, d1, d2, d3⟩ := (HS.out.keeps kp).at_ hrs
          obtain rfl : b = b' := congrArg (fun x : Option Addr => (x.getD ⟨0, 0, none⟩).block) hbe
          have e0 : ss[r]'hrs = ss.getD r Sd.zero := (getD_lt hrs).symm
          rw [e0] at d0 d1 d2 d3
          have hixl := ix_lt HG.out hlt
          have hfx := (HG.out.fit (ss.getD r Sd.zero) (getD_mem hrs)).ix
          have m1 := hPk.mat.hdr.cell hixl
          have o1 := hPk.r1.cell hlt
          have f1 := hPk.r1.frozen r
          have o2 := hPk.r2.cell hlt
          have f2 := hPk.r2.frozen r
          rw [if_neg (by omega)] at o1 o2
          have HF : Hid _ := hPk.step
          have hne12 : H1 ≠ H2 := hPk.ne
          have hH1b : H1 ≠ b := by have h1 := hPk.ge.2.1; have h2 := Hbw.out; omega
          obtain ⟨x, hx⟩ : ∃ x, ss.getD r Sd.zero = x := ⟨_, rfl⟩
          rw [hx] at d0 d1 d2 d3 hixl hfx m1 HF
          obtain ⟨ix, hix⟩ : ∃ ix, x.ix.toNat = ix := ⟨_, rfl⟩
          have hixi : x.ix = (ix : Int) := by omega
          rw [hix] at hixl m1 HF
          rw [hixi] at d1
          have hixl' : (ix : Int) < (N : Int) := by omega
          unfold Sd.pv at HF
          clear hPk kp hbe e0 hx hix hfx hixi
          go_wp2
          exact ⟨⟨r + 1, by omega, by go_num, HF.out⟩, by simp [intOf]; omega⟩
        · have hrk : r = k := by omega
          have hlt' : ¬ (r : Int) < (k : Int) := by omega
          subst hrk
          have hS6 : SdRow wr (some ⟨b, 0, none⟩) ss := (HS.out.keeps (Below.keeps HB5.out)).keeps (Below.keeps hPk.bel)
          obtain ⟨hR1, hR2⟩ := hPk.mats hk16 HG.out hS6
          rw [Hg.out, Hn.out, Hsz.out] at hR2
          have HR2 : Hid (RMat wr (some ⟨H2, 0, none⟩) r size (fun t => (ss.getD t Sd.zero).P)) := hR2
          have HIn : Hid _ := invert_any (some ⟨H1, 0, none⟩) r r (fun t => genr g r (ss.getD t Sd.zero).ix.toNat) wr hR1 (by omega)
          have HB6 : Hid (Below w.heap.size w wr) := HB5.out.trans (hPk.bel.mono HB5.out.size)
          obtain ⟨sI, hs1, hs2, hs3⟩ := genr_inv g r hk16 (fun t => (ss.getD t Sd.zero).ix.toNat) (fun t ht => by have := ix_lt HG.out ht; omega) (fun s t hs ht e => ix_inj HG.out hs ht e)
          have HS3 : Hid (gjS r (fun t => genr g r (ss.getD t Sd.zero).ix.toNat) r = some sI) := hs1
          have HSI : Hid (∀ p, BytV r p → ∀ t, t < r → gdot (genr g r (ss.getD t Sd.zero).ix.toNat) (fun j => gdot (sI.2 j) p r) r = p t) := hs3
          obtain ⟨w6, hw6⟩ : ∃ x, x = wr := ⟨_, rfl⟩
          subst hw6
          clear hPk hS6 hR1 hR2 hs1 hs2 hs3 HB5 Hbw
          go_wp2_with fail
          refine Calls.mono HIn.out ?_
          intro e w7 hpost
          unfold invPost at hpost
          rw [HS3.out] at hpost
          obtain ⟨hb7, rfl, gs, hgs, hM7⟩ := hpost
          have HB7 : Hid (Below w.heap.size w w7) := HB6.out.trans (hb7.mono HB6.out.size)
          have HTi : Hid _ := times_any (some ⟨w6.heap.size + 1 + r, 0, none⟩) (some ⟨H2, 0, none⟩) r r r r size sI.2 (fun t => (ss.getD t Sd.zero).P) w7 (hM7.rmat (by omega)) (HR2.out.below hb7) (by omega) (by omega) (by omega) (by omega)
          obtain ⟨Hso, hHso⟩ : ∃ Hso, w6.heap.size + 1 + r = Hso := ⟨_, rfl⟩
          rw [hHso] at HTi ⊢
          clear hb7 hgs hM7 HIn HR2 HB6 hHso
          go_wp2_with fail
          refine Calls.mono HTi.out ?_
          rintro e w8 ⟨rfl, hM8, hb8, hsz8⟩
          clear hsz8
          have HB8 : Hid (Below w.heap.size w w8) := HB7.out.trans (hb8.mono HB7.out.size)
          obtain ⟨D0, hD0⟩ : ∃ D0 : Nat → Nat → Nat, D0 = (fun j c => gdot (sI.2 j) (fun t => (ss.getD t Sd.zero).P c) r) := ⟨_, rfl⟩
          rw [← hD0] at hM8
          obtain ⟨HD, hHD⟩ : ∃ HD, w7.heap.size = HD := ⟨_, rfl⟩
          rw [hHD] at hM8 ⊢
          have HM8 : Hid (MatAt w8 HD r size (fun r => HD + 1 + r) D0) := hM8
          have Hb0 : Hid (BytD r size D0) := fun j _ c _ => by rw [hD0]; exact gdot_lt _ _ _
          have Hf0 : Hid (∀ t, t < r → ∀ c, c < size → gdot (genr g r (ss.getD t Sd.zero).ix.toNat) (fun j => D0 j c) r = (ss.getD t Sd.zero).P c) := fun t ht c hc => by
            have hl := HG.out.len
            rw [hD0]
            refine HSI.out (fun t => (ss.getD t Sd.zero).P c) (fun t ht => ?_) t ht
            have hm : ss.getD t Sd.zero ∈ ss := getD_mem (by omega)
            refine HP.out _ hm c ?_
            rw [(HG.out.shape _ hm).2, Hg.out, Hn.out, Hsz.out]; exact hc
          clear hM8 hb8 HTi HB7 hD0 hHD HSI HS3
          have hmk := run_make_row' (P := Tryd.prog) 30 5 (.int .u8 0) 1 Tryd.underlying30 Tryd.info5 rfl .i64 .i64 n (by omega) (by omega)
          obtain ⟨hp1, ⟨rr, hrr⟩, hfit⟩ := plan_fits g r n hk
          have hun := hunit_punit g r n
          rw [Hsz.out] at hrr hfit hun
          obtain ⟨u, hu⟩ : ∃ u, punit g r n = u := ⟨_, rfl⟩
          rw [hu] at hp1 hrr hun
          have HP1 : Hid (0 < n → 0 < u) := hp1
          have HRr : Hid (size = rr * u) := hrr
          have HFit : Hid (n ≤ r * size) := hfit
          have HUn : Hid (hunit g size = u) := hun
          have Hu : Hid (punit g r n = u) := hu
          obtain ⟨OB, hOB⟩ : ∃ OB, w8.heap.size = OB := ⟨_, rfl⟩
          have HOB : Hid (w8.heap.size = OB) := hOB
          have HR0 : Hid (Row (w8.alloc (.cells (madeCells #[.int .u8 0] n) 5)) OB n (fun p => if p < 0 then col r u D0 p else 0)) := by
            have h := World.rowIs_made w8 (.int .u8 0) n 5
            rw [hOB] at h
            exact ⟨fun _ _ => by simp, h.congr (fun i _ => by simp)⟩
          have HB9 : Hid (Below w8.heap.size w8 (w8.alloc (.cells (madeCells #[.int .u8 0] n) 5))) := alloc_below _ _
          clear hp1 hrr hfit hun hu
          go_wp2
          clear hmk hOB
          go_loopw [93] (fun i wr => ∃ p : Nat, p ≤ n ∧ i = .int .i64 p ∧ Row wr OB n (fun q => if q < p then col r u D0 q else 0) ∧ Below w8.heap.size w8 wr) (fun i _ => n - (intOf i).toNat)
          case atStart => exact ⟨0, Nat.zero_le _, rfl, HR0.out, HB9.out⟩
          case round =>
            obtain ⟨p, hp, rfl, hRo, hbr⟩ := hrel
            clear HR0 HB9
            by_cases hlp : p < n
            · have hlp' : (p : Int) < (n : Int) := by omega
              have hu0 := HP1.out (by omega)
              have hoff := home_lt r u rr n p hk hu0 (by rw [← HRr.out]; exact HFit.out) hlp
              rw [← HRr.out] at hoff
              have hjj : p / u % r < r := Nat.mod_lt _ (by omega)
              have HHo : Hid _ := home_any g r size p wr hk (by omega) (by omega) hps (Nat.lt_of_lt_of_le hlp HFit.out)
              rw [HUn.out] at HHo
              have hcol : col r u D0 p = D0 (p / u % r) (p / u / r * u + p % u) := rfl
              have hcb := Hb0.out _ hjj _ hoff
              rw [← hcol] at hcb
              have hM := HM8.out.below hbr
              have m1 := hM.hdr.cell hjj
              have m2 := (hM.row _ hjj).cell hoff
              rw [← hcol] at m2
              have o1 := hRo.cell hlp
              have f1 := hRo.2.frozen p
              rw [if_neg (by omega)] at o1
              have HRo : Hid (∀ q, Row ((wr.drewN q).setCell ⟨OB, p, none⟩ (.int .u8 ((col r u D0 p : Nat) : Int))) OB n (fun q => if q < p + 1 then col r u D0 q else 0) ∧ Below w8.heap.size w8 ((wr.drewN q).setCell ⟨OB, p, none⟩ (.int .u8 ((col r u D0 p : Nat) : Int)))) := fun q => by
                have h1 : Row (wr.drewN q) OB n (fun q => if q < p then col r u D0 q else 0) := hRo.of_block (by rw [(World.drewN_alike _ _).1])
                refine ⟨(h1.set p _ hcb).congr (fun i _ => ?_), (hbr.trans (drewN_below _ _ _)).setCell (p := ⟨OB, p, none⟩) (by rw [HOB.out]; exact Nat.le_refl _) _⟩
                by_cases e : i = p
                · subst e; simp
                · rw [if_neg e]
                  by_cases e2 : i < p
                  · rw [if_pos e2, if_pos (by omega)]
                  · rw [if_neg e2, if_neg (by omega)]
              obtain ⟨off, hof⟩ : ∃ off, p / u / r * u + p % u = off := ⟨_, rfl⟩
              obtain ⟨jj, hjje⟩ : ∃ jj, p / u % r = jj := ⟨_, rfl⟩
              rw [hof] at hoff HHo m2
              rw [hjje] at hjj HHo m1 m2
              have hjj' : (jj : Int) < (r : Int) := by omega
              have hoff' : (off : Int) < (size : Int) := by omega
              obtain ⟨cv, hcv⟩ : ∃ cv, col r u D0 p = cv := ⟨_, rfl⟩
              rw [hcv] at m2 HRo hcb
              clear hRo hbr hM hcol hof hjje hcv
              go_wp2_with fail
              refine Calls.mono HHo.out ?_
              rintro e w9 ⟨rfl, q9, hw9⟩
              have kk : Keeps wr w9 := by rw [hw9]; exact Below.keeps (drewN_below _ _ _)
              have m1 := kk _ _ _ m1
              have m2 := kk _ _ _ m2
              have o1 := kk _ _ _ o1
              have f1 : w9.frozen? ⟨OB, p, none⟩ = false := by rw [hw9]; simpa using f1
              have HF : Hid (Row (w9.setCell ⟨OB, p, none⟩ (.int .u8 (cv : Int))) OB n (fun q => if q < p + 1 then col r u D0 q else 0) ∧ Below w8.heap.size w8 (w9.setCell ⟨OB, p, none⟩ (.int .u8 (cv : Int)))) := by rw [hw9]; exact HRo.out q9
              clear kk hw9 HRo HHo
              go_wp2
              exact ⟨⟨p + 1, by omega, by go_num, HF.out⟩, by simp [intOf]; omega⟩
            · have hpn : p = n := by omega
              have hlp' : ¬ (p : Int) < (n : Int) := by omega
              subst hpn
              have hRn : Row wr OB p (col r u D0) := hRo.congr (fun i hi => by rw [if_pos hi])
              have HRn : Hid (Row wr OB p (col r u D0)) := hRn
              have HB9 : Hid (Below w.heap.size w wr) := HB8.out.trans (hbr.mono HB8.out.size)
              have HEc : Hid _ := HEn.out g p (some ⟨OB, 0, none⟩) (col r u D0) wr hRn.frow HGg.out hn256
              obtain ⟨w9, hw9⟩ : ∃ x, x = wr := ⟨_, rfl⟩
              subst hw9
              clear hRo hbr hRn HEn HM8
              go_wp2_with fail
              refine Calls.mono HEc.out ?_
              rintro e w10 ⟨HSh, B, rfl, hER⟩
              rw [Hsz.out] at hER
              have HER : Hid (ERel w9 w10 HSh B N g p size (pay g r p (col r u D0))) := hER
              have HB10 : Hid (Below w.heap.size w w10) := HB9.out.trans (hER.bel.mono HB9.out.size)
              have HR10 : Hid (Row w10 OB p (col r u D0)) := HRn.out.below hER.bel
              clear hER HEc HRn HB9
              go_wp2
              go_loopw [125] (fun i wr => ∃ j : Nat, j ≤ L ∧ i = .int .i64 j ∧ (∀ q (hq : q < ss.length), q < j → ∀ c, c < size → pay g r p (col r u D0) (ss[q]).ix.toNat c = (ss[q]).P c) ∧ Below w10.heap.size w10 wr) (fun i _ => L - (intOf i).toNat)
              case atStart => exact ⟨0, Nat.zero_le _, rfl, fun q hq h => by omega, Below.refl _ _⟩
              case round =>
                obtain ⟨j, hj, rfl, hgs, hb⟩ := hrel
                by_cases hlt : j < L
                · have hlt' : (j : Int) < (L : Int) := by omega
                  have hjs : j < ss.length := by rw [HL.out]; exact hlt
                  have kp : Keeps w wr := (Below.keeps HB10.out).trans (Below.keeps hb)
                  obtain ⟨b', hbe, c0, c1, c2, c3⟩ := (HS.out.keeps kp).at_ hjs
                  obtain rfl : b = b' := congrArg (fun x : Option Addr => (x.getD ⟨0, 0, none⟩).block) hbe
                  have hmem : ss[j] ∈ ss := List.getElem_mem hjs
                  have hxo := (HS.out.ok ss[j] hmem).keeps kp
                  have hfx := HG.out.fit ss[j] hmem
                  have hsh := HG.out.shape ss[j] hmem
                  obtain ⟨x, hx⟩ : ∃ x, ss[j] = x := ⟨_, rfl⟩
                  rw [hx] at c0 c1 c2 c3 hxo hmem hfx hsh
                  have hixb := hfx.ix
                  obtain ⟨ix, hix⟩ : ∃ ix, x.ix.toNat = ix := ⟨_, rfl⟩
                  have hixi : x.ix = (ix : Int) := by omega
                  have hixl : ix < N := by omega
                  have hixl' : (ix : Int) < (N : Int) := by omega
                  rw [hixi] at c1
                  obtain ⟨hye, y0, y1, y2, y3⟩ := (HER.out.esd hg256 hn256 hps hkm hixl)
                  have hok := hye.keeps (Below.keeps hb)
                  have y0 := Below.keeps hb _ _ _ y0
                  have y1 := Below.keeps hb _ _ _ y1
                  have y2 := Below.keeps hb _ _ _ y2
                  have y3 := Below.keeps hb _ _ _ y3
                  obtain ⟨W, hW⟩ : ∃ W, wr.alloc (.cells #[.int .u8 x.g, .int .i64 (ix : Int), .int .i64 x.ol, .slice x.pa x.pl x.pc] 60) = W := ⟨_, rfl⟩
                  have hbW : Below wr.heap.size wr W := by rw [← hW]; exact (Below.refl _ _).alloc (Nat.le_refl _) _
                  have d0 : W.cell? ⟨wr.heap.size, 0, none⟩ = some (.int .u8 x.g) := by rw [← hW]; simp
                  have d1 : W.cell? ⟨wr.heap.size, 1, none⟩ = some (.int .i64 (ix : Int)) := by rw [← hW]; simp
                  have d2 : W.cell? ⟨wr.heap.size, 2, none⟩ = some (.int .i64 x.ol) := by rw [← hW]; simp
                  have d3 : W.cell? ⟨wr.heap.size, 3, none⟩ = some (.slice x.pa x.pl x.pc) := by rw [← hW]; simp
                  have z0 := Below.keeps hbW _ _ _ y0
                  have z1 := Below.keeps hbW _ _ _ y1
                  have z2 := Below.keeps hbW _ _ _ y2
                  have z3 := Below.keeps hbW _ _ _ y3
                  have hxpl : x.pl = size := by rw [hsh.2, Hg.out, Hn.out, Hsz.out]
                  have hxg : x.g = g := by rw [hfx.same, Hg.out]
                  have hxol : x.ol = (p : Int) := by
                    have h1 := hsh.1
                    have h2 := Hn.out
                    have h3 := HG.out.ol
                    omega
                  have HSm : Hid (∀ V, (V = W ∨ V = W.drew) → Calls Tryd.prog 29 #[.agg #[.int .u8 x.g, .int .i64 (ix : Int), .int .i64 x.ol, .slice x.pa x.pl x.pc], .agg #[.int .u8 g, .int .i64 (ix : Int), .int .i64 (p : Int), .slice (some ⟨B + ix, 0, none⟩) size size]] V fun e w' => ∃ bv, e = .returned (.bool bv) ∧ (bv = true ↔ ∀ c, c < size → pay g r p (col r u D0) ix c = x.P c) ∧ Below W.heap.size W w') := by
                    intro V hV
                    have hbV : Below W.heap.size W V := by rcases hV with rfl | rfl; exact Below.refl _ _; exact (Below.refl _ _).drew
                    have hszV : V.heap.size = W.heap.size := by rcases hV with rfl | rfl <;> rfl
                    have kV := (Below.keeps hbW).trans (Below.keeps hbV)
                    have h := same_any x (esd g p size B ix (pay g r p (col r u D0))) V (hxo.keeps kV) (hok.keeps kV) (by rw [hxpl]; omega) (by show size ≤ _; omega)
                    rw [hixi] at h
                    refine h.mono ?_
                    rintro e w' ⟨h1, h2⟩
                    refine ⟨_, h1, ?_, hbV.trans (by rw [← hszV]; exact h2)⟩
                    rw [decide_eq_true_iff]
                    constructor
                    · intro hs c hc
                      exact (hs.2.2.2.2 c (by rw [hxpl]; exact hc)).symm
                    · intro hs
                      exact ⟨hxg, hixi, hxol, hxpl, fun c hc => (hs c (by rw [← hxpl]; exact hc)).symm⟩
                  have HBW : Hid (Below w10.heap.size w10 W) := hb.trans (hbW.mono hb.size)
                  have HGs : Hid (∀ q (hq : q < ss.length), q < j → ∀ c, c < size → pay g r p (col r u D0) (ss[q]).ix.toNat c = (ss[q]).P c) := hgs
                  have Hx : Hid (ss[j] = x) := hx
                  have Hix : Hid (x.ix.toNat = ix) := hix
                  have Hmem : Hid (x ∈ ss) := hmem
                  clear hgs hb kp hbe hxo hfx hsh hx hix hixi hye hok hbW hxg hxol hxpl y0 y1 y2 y3 hmem hixb
                  go_wp2
                  clear hW c0 c1 c2 c3
                  go_cut [136] from 128 to 137 (fun bv wx => ∃ b', bv = .bool (!b') ∧ (b' = true ↔ ∀ c, c < size → pay g r p (col r u D0) ix c = x.P c) ∧ Below W.heap.size W wx)
                  case first =>
                    go_region_with (go_at_call 29; refine (HSm.out _ (by first | exact .inl rfl | exact .inr rfl)).mono ?_; rintro e w9 ⟨bv, rfl, h1, h2⟩; have H1 : Hid (bv = true ↔ ∀ c, c < size → pay g r p (col r u D0) ix c = x.P c) := h1; have H2 : Hid (Below W.heap.size W w9) := h2; clear h1 h2)
                    all_goals
                      go_wp2
                      go_meet
                      exact ⟨bv, rfl, H1.out, H2.out⟩
                  case rest =>
                    obtain ⟨bv, rfl, hiff, hbx⟩ := hcut
                    have HBx : Hid (Below w10.heap.size w10 wc) := HBW.out.trans (hbx.mono HBW.out.size)
                    cases bv with
                    | true =>
                      have HF : Hid (∀ q (hq : q < ss.length), q < j + 1 → ∀ c, c < size → pay g r p (col r u D0) (ss[q]).ix.toNat c = (ss[q]).P c) := fun q hq h c hc => by
                        by_cases e : q = j
                        · subst e; rw [Hx.out, Hix.out]; exact hiff.1 rfl c hc
                        · exact HGs.out q hq (by omega) c hc
                      clear hiff hbx
                      go_wp2
                      go_roundw
                      case rel => exact ⟨j + 1, by omega, by go_num, HF.out, HBx.out⟩
                      case measure => simp [intOf]; omega
                    | false =>
                      have HNo : Hid (NoRows r ss) := by
                        refine mdec_no hk hk16 hkm HG.out (D0 := D0) ?_ ?_ ?_
                        · rw [Hg.out, Hn.out, Hsz.out]; exact Hb0.out
                        · rw [Hg.out, Hn.out, Hsz.out]; exact Hf0.out
                        · rw [Hg.out, Hn.out, Hsz.out, Hu.out]
                          intro hall
                          have := hiff.2 (fun c hc => by rw [← Hix.out]; exact hall x Hmem.out c hc)
                          cases this
                      have HF : Hid (Below w.heap.size w wc) := HB10.out.trans (HBx.out.mono HB10.out.size)
                      clear hiff hbx
                      go_wp2
                      go_ret2
                      exact ⟨HF.out, .inr (.inl ⟨HG.out, HNo.out, rfl⟩)⟩
                · have hlt' : ¬ (j : Int) < (L : Int) := by omega
                  have HYes : Hid (∃ D, BytD r (psize (g0of ss) r (ol0of ss).toNat) D ∧ Fits (g0of ss) r (psize (g0of ss) r (ol0of ss).toNat) ss D ∧ PadZ r (punit (g0of ss) r (ol0of ss).toNat) (psize (g0of ss) r (ol0of ss).toNat) (ol0of ss).toNat D ∧ ∀ p, p < (ol0of ss).toNat → col r (punit (g0of ss) r (ol0of ss).toNat) D p = col r (punit (g0of ss) r (ol0of ss).toNat) D0 p) := by
                    refine mdec_yes hk hk16 ?_ ?_
                    · rw [Hg.out, Hn.out, Hsz.out]; exact Hb0.out
                    · rw [Hg.out, Hn.out, Hsz.out, Hu.out]
                      exact mem_of_lt (fun q hq => hgs q hq (by rw [HL.out] at hq; omega))
                  have HF : Hid (Below w.heap.size w wr) := HB10.out.trans (hb.mono HB10.out.size)
                  have HRf : Hid (Row wr OB p (col r u D0)) := HR10.out.below hb
                  have HOw : Hid (w.heap.size ≤ OB) := by
                    have h1 := HB8.out.size
                    have h2 := HOB.out
                    show w.heap.size ≤ OB
                    omega
                  clear hgs hb
                  go_wp2
                  go_ret2
                  obtain ⟨D, h1, h2, h3, h4⟩ := HYes.out
                  refine ⟨HF.out, .inr (.inr ⟨HG.out, OB, D, ?_, h1, h2, h3, ?_, HOw.out⟩)⟩
                  · rw [Hn.out]; rfl
                  · rw [Hn.out] at h4 ⊢
                    rw [Hg.out, Hu.out] at h4 ⊢
                    exact HRf.out.congr (fun i hi => (h4 i hi).symm)
end Go.Proofs.Qxb6500697aDoor
