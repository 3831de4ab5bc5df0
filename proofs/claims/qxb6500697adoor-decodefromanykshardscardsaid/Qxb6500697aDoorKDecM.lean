/-
  THE WALK OF decodeMatrix.
-/
import Derived.Test.Qxb6500697aDoorKHdr
import Derived.Deep.Cut
import Derived.Deep.CutRange
namespace Go.Proofs.Qxb6500697aDoor
open Go.RowKit
open Go.ChangeMaps (setBlock heap_setBlock_same heap_setBlock_other)

/-- The rows picked so far. -/
def Pick (w0 : World) (xs : List Value) (k : Nat) (G : Nat → Nat → Nat) (L : List Nat) : Prop :=
  xs.length = L.length ∧ ∀ t, t < xs.length → ∃ so c, xs[t]? = some (.slice so k c) ∧ k ≤ c ∧ c ≤ 9223372036854775807 ∧ FRow w0 so k (G (L.getD t 0))
theorem Pick.nil (w0 : World) (k : Nat) (G : Nat → Nat → Nat) : Pick w0 [] k G [] := ⟨rfl, fun t ht => by simp at ht⟩
theorem Pick.push {w0 : World} {xs : List Value} {k : Nat} {G : Nat → Nat → Nat} {L : List Nat} (h : Pick w0 xs k G L) (i : Nat) (so : Option Addr) (c : Nat) (h1 : k ≤ c) (h2 : c ≤ 9223372036854775807) (hr : FRow w0 so k (G i)) : Pick w0 (xs ++ [.slice so k c]) k G (L ++ [i]) := by
  refine ⟨by simp [h.1], fun t ht => ?_⟩
  simp at ht
  rcases Nat.lt_or_ge t xs.length with hl | hl
  · obtain ⟨so', c', e1, e2, e3, e4⟩ := h.2 t hl
    refine ⟨so', c', by rw [List.getElem?_append_left hl]; exact e1, e2, e3, ?_⟩
    rw [List.getD_eq_getElem?_getD, List.getElem?_append_left (by rw [← h.1]; exact hl), ← List.getD_eq_getElem?_getD]
    exact e4
  · have : t = xs.length := by omega
    subst this
    refine ⟨so, c, by simp, h1, h2, ?_⟩
    rw [h.1, List.getD_eq_getElem?_getD]
    simpa using hr

set_option maxRecDepth 100000 in
set_option maxHeartbeats 4000000 in
theorem decM_any (X : Nat → Prop) (w : World) (F : Nat → Prop) (cb mb k m g r : Nat) (hC : CodecAt w F cb mb k m) (hK : Cache X w mb k (k + m)) (hX : ∀ b, X b → b < w.heap.size) (hr : r < 65536) (hcnt : (bitsL r (k + m)).length = k) :
    Calls Tryd.prog 82 #[.pointer (some ⟨cb, 0, none⟩), .int .u8 ((pfam g : Nat) : Int), .int .u16 (r : Int)] w fun e w' => ∃ H c, e = .returned (.tuple #[.slice (some ⟨H, 0, none⟩) k c, .nilIface]) ∧ k ≤ c ∧ c ≤ 9223372036854775807 ∧ RMat w' (some ⟨H, 0, none⟩) k k (dmat (pfam g) k (k + m) r) ∧ Cache X w' mb k (k + m) ∧ Mut mb w w' := by
  have hk := hC.hk
  have hkn := hC.hn
  obtain ⟨N, hN⟩ : ∃ N, k + m = N := ⟨_, rfl⟩
  rw [hN] at hK hcnt ⊢
  have HN : Hid (k + m = N) := hN
  have hN16 : N ≤ 16 := by omega
  obtain ⟨⟨gs, hgs1, hgs2⟩, hby, -⟩ := dmat_spec g k N r (by omega) hN16 hcnt
  have HGJ : Hid (gjS k (dsub (pfam g) k N r) k = some gs ∧ gs.2 = dmat (pfam g) k N r) := ⟨hgs1, hgs2⟩
  have hgen : ∃ H c, w.cell? ⟨cb, 2 + pfam g, none⟩ = some (.slice (some ⟨H, 0, none⟩) N c) ∧ N ≤ c ∧ c ≤ 9223372036854775807 ∧ RMatF w F (some ⟨H, 0, none⟩) N k (gfam (pfam g) k) := by
    rw [← hN]
    unfold pfam gfam
    by_cases e : g = 1
    · simp only [if_pos e]; exact hC.g0
    · simp only [if_neg e]; exact hC.g1
  have hfam : pfam g ≤ 1 := by unfold pfam; split <;> omega
  obtain ⟨fam, hfe⟩ : ∃ fam, pfam g = fam := ⟨_, rfl⟩
  rw [hfe] at hgen hfam HGJ ⊢
  obtain ⟨es, clock, hm1, hm2, hm3⟩ := hK.ents
  obtain ⟨GH, gc, hg1, hg2, hg3, hg4⟩ := hgen
  have HG4 : Hid (RMatF w F (some ⟨GH, 0, none⟩) N k (gfam fam k)) := hg4
  have HC : Hid (CodecAt w F cb mb k m) := hC
  have HEn : Hid (Ents X w k N es) := hm3
  have HM1 : Hid (w.heap[mb]? = some (.map es clock)) := hm1
  have hks : ∀ x ∈ es.toList, ∃ f q, x.key = keyV f q ∧ f ≤ 1 ∧ q < 65536 := fun x hx => by
    obtain ⟨f, q, H, c, h1, h2, h3, _⟩ := hm3.2 x hx
    exact ⟨f, q, h1, h2, h3⟩
  have HKs : Hid (∀ x ∈ es.toList, ∃ f q, x.key = keyV f q ∧ f ≤ 1 ∧ q < 65536) := hks
  have hcb := hC.lt
  have hc0 := hC.c0
  have hc4 := hC.c4
  have hmb : mb < w.heap.size := hK.lt
  obtain ⟨W1, hW1⟩ : ∃ W1, w.alloc (.cells #[.int .u8 (fam : Int), .int .u16 (r : Int)] 177) = W1 := ⟨_, rfl⟩
  have hb1 : Below w.heap.size w W1 := by rw [← hW1]; exact (Below.refl _ _).alloc (Nat.le_refl _) _
  have HB1 : Hid (Below w.heap.size w W1) := hb1
  have hs1 : W1.heap.size = w.heap.size + 1 := by rw [← hW1]; simp
  have k0 : W1.cell? ⟨w.heap.size, 0, none⟩ = some (.int .u8 (fam : Int)) := by rw [← hW1]; simp
  have k1 : W1.cell? ⟨w.heap.size, 1, none⟩ = some (.int .u16 (r : Int)) := by rw [← hW1]; simp
  have c4 : W1.cell? ⟨cb, 4, none⟩ = some (.map (some mb)) := Below.keeps hb1 _ _ _ hc4
  have c0 : W1.cell? ⟨cb, 0, none⟩ = some (.int .i64 k) := Below.keeps hb1 _ _ _ hc0
  have hmW : ∀ q, (W1.drewN q).heap[mb]? = some (.map es clock) := fun q => by rw [(World.drewN_alike _ _).1, hb1.block mb hmb]; exact hm1
  have HW1 : Hid (w.alloc (.cells #[.int .u8 (fam : Int), .int .u16 (r : Int)] 177) = W1) := hW1
  rcases look_any hm1 hks fam r hfam hr with ⟨hl1, hmiss⟩ | ⟨x, hx, hxk, hl1⟩
  · have hlook : ∀ q, (Instr.lookup 102 (.map (some mb)) (.agg #[.int .u8 (fam : Int), .int .u16 (r : Int)]) true).run Tryd.prog (W1.drewN q) = .ok (.tuple #[.slice none 0 0, .bool false]) (W1.drewN q) := by
      intro q
      rcases look_any (hmW q) hks fam r hfam hr with ⟨h2, _⟩ | ⟨y, hy, hyk, h2⟩
      · exact h2
      · exact absurd hyk (hmiss y hy)
    have HMi : Hid (∀ x ∈ es.toList, x.key ≠ keyV fam r) := hmiss
    have HMW : Hid (∀ q, (W1.drewN q).heap[mb]? = some (.map es clock)) := hmW
    clear hC hg4 hm3 hks hl1 hb1 hK hm1 hmW hgs1 hgs2 hby hW1 hmiss
    go_enter Tryd.func82, Tryd.ntmps82
    go_wp2
    rw [HW1.out]
    go_cut [9, 10] from 15 (fun a b wc => a = .slice none 0 0 ∧ b = .bool false ∧ ∃ q, wc = W1.drewN q)
    case first =>
      go_quiet (fail)
      go_wp2
      go_meet
      exact ⟨rfl, rfl, _, rfl⟩
    case rest =>
      obtain ⟨rfl, rfl, q, hwc⟩ := hcut
      subst hwc
      have HB2 : Hid (Below w.heap.size w (W1.drewN q)) := HB1.out.trans (drewN_below _ _ _)
      have c0' : (W1.drewN q).cell? ⟨cb, 0, none⟩ = some (.int .i64 k) := by rw [drewN_cell]; exact c0
      have k0' : (W1.drewN q).cell? ⟨w.heap.size, 0, none⟩ = some (.int .u8 (fam : Int)) := by rw [drewN_cell]; exact k0
      have k1' : (W1.drewN q).cell? ⟨w.heap.size, 1, none⟩ = some (.int .u16 (r : Int)) := by rw [drewN_cell]; exact k1
      have hm2' : (W1.drewN q).heap[mb]? = some (.map es clock) := HMW.out q
      have hs2 : (W1.drewN q).heap.size = w.heap.size + 1 := by rw [(World.drewN_alike _ _).1]; exact hs1
      obtain ⟨W2, hW2⟩ : ∃ W2, W1.drewN q = W2 := ⟨_, rfl⟩
      rw [hW2] at HB2 c0' k0' k1' hm2' hs2 ⊢
      clear hlook HMW HB1 HW1 k0 k1 c4 c0 hs1 hW2
      have HM2 : Hid (W2.heap[mb]? = some (.map es clock)) := hm2'
      have hmk := make_hdr0 100 Tryd.underlying100 k (by omega)
      clear hm2'
      go_wp2
      clear hmk
      have HH0 : Hid (HOut W2 (W2.alloc (.cells (madeCells #[.slice none 0 0] k) 30)) (.slice (some ⟨w.heap.size + 1, 0, none⟩) 0 k) []) := by
        have h := HOut.made W2 k (by omega)
        rw [hs2] at h
        exact h
      go_loopw [11, 12] (fun v i wr => ∃ (i0 : Nat) (xs : List Value), i0 ≤ N ∧ i = .int .i64 i0 ∧ HOut W2 wr v xs ∧ Pick W2 xs k (gfam fam k) (bitsL r i0)) (fun _ i _ => N - (intOf i).toNat)
      case atStart => exact ⟨0, [], Nat.zero_le _, rfl, HH0.out, Pick.nil _ _ _⟩
      case round =>
        obtain ⟨i0, xs, hi0, rfl, hH, hP⟩ := hrel
        clear HH0
        have hbr : Below w.heap.size w wr := HB2.out.trans (hH.bel.mono HB2.out.size)
        have HNn : Hid _ := codecN_drew wr F cb mb k m (HC.out.below hbr)
        rw [HN.out] at HNn
        have HHd : Hid (HOut W2 wr u11 xs) := hH
        have HPk : Hid (Pick W2 xs k (gfam fam k) (bitsL r i0)) := hP
        by_cases hlt : i0 < N
        · have hlt' : (i0 : Int) < (N : Int) := by omega
          have HHas : Hid _ := has_any r i0 wr.drew hr (by omega)
          clear hH hP
          go_wp2_with fail
          refine Calls.mono HNn.out ?_
          rintro r1 w3 ⟨rfl, hw⟩
          subst hw
          go_wp2_with fail
          refine Calls.mono HHas.out ?_
          rintro r1 w3 ⟨rfl, hw⟩
          have hw := hw.symm
          subst hw
          cases hbit : r.testBit i0 with
          | false =>
            have HF : Hid (HOut W2 wr.drew u11 xs ∧ Pick W2 xs k (gfam fam k) (bitsL r (i0 + 1))) := ⟨HHd.out.below (Below.refl _ _).drew, by rw [bitsL_succ, hbit]; simpa using HPk.out⟩
            clear hbit HHd HPk hbr
            go_wp2
            go_roundw
            case rel => exact ⟨i0 + 1, xs, by omega, by go_num, HF.out⟩
            case measure => simp [intOf]; omega
          | true =>
            obtain ⟨hb', ho', hbe, hrr⟩ := (HG4.out.rmat) (by omega)
            obtain ⟨rfl, rfl⟩ : GH = hb' ∧ 0 = ho' := by simpa using hbe
            obtain ⟨so, sc, r1, r2, r3, r4⟩ := hrr i0 hlt
            rw [Nat.zero_add] at r1
            have gcell : wr.drew.cell? ⟨cb, 2 + fam, none⟩ = some (.slice (some ⟨GH, 0, none⟩) N gc) := Below.keeps hbr _ _ _ hg1
            have hcell : wr.drew.cell? ⟨GH, i0, none⟩ = some (.slice so k sc) := Below.keeps hbr _ _ _ r1
            have HFR : Hid (FRow W2 so k (gfam fam k i0)) := r4.below HB2.out
            have HHx : Hid (∀ o, HOut W2 (wr.drew.alloc o) u11 xs) := fun o => (HHd.out.below (Below.refl _ _).drew).below ((Below.refl _ _).alloc (Nat.le_refl _) o)
            have hxl : xs.length ≤ 65536 := by
              have h1 := HPk.out.1
              have h2 : (bitsL r i0).length ≤ i0 := by
                have := List.length_filter_le (fun i => r.testBit i) (List.range i0)
                rw [List.length_range] at this
                exact this
              omega
            have hfam2 : (fam : Int) < 2 := by omega
            have HBit : Hid (bitsL r (i0 + 1) = bitsL r i0 ++ [i0]) := by
              show bitsL r (i0 + 1) = bitsL r i0 ++ [i0]
              rw [bitsL_succ, hbit]; rfl
            clear hrr r1 r4 hbe hbit hbr HHd
            go_wp2_with (at_builtin; refine wpList_append_hd _ rfl _ _ 100 Tryd.underlying100 rfl W2 u11 xs rfl (HHx.out _) hxl wr.heap.size 1 rfl so k sc (by simp) ?_; intro v' w' hC'; have HC' : Hid (HOut W2 w' v' (xs ++ [.slice so k sc])) := hC'; clear hC')
            go_roundw
            case rel => exact ⟨i0 + 1, _, by omega, by go_num, HC'.out, by rw [HBit.out]; exact HPk.out.push i0 so sc r2 r3 HFR.out⟩
            case measure => simp [intOf]; omega
        · have hiN : i0 = N := by omega
          have hlt' : ¬ (i0 : Int) < (N : Int) := by omega
          rw [hiN] at hP
          have hxk : xs.length = k := by rw [hP.1]; exact hcnt
          obtain ⟨H, c, hv, hc1, hc2, hR⟩ := hH.rmat (by omega) hP.2
          rw [hxk] at hv hc1 hR
          subst hv
          have HR : Hid (RMat wr.drew (some ⟨H, 0, none⟩) k k (dsub fam k N r)) := hR.below (Below.refl _ _).drew
          have HI : Hid _ := invert_any (some ⟨H, 0, none⟩) c k (dsub fam k N r) wr.drew HR.out (by omega)
          have HBr : Hid (Below w.heap.size w wr.drew) := hbr.drew
          have HB2r : Hid (Below W2.heap.size W2 wr.drew) := hH.bel.drew
          have hW2z := hH.bel.size
          clear hH hP hR HHd HPk hbr hiN HG4 hg1 hcnt hxk
          go_wp2_with fail
          refine Calls.mono HNn.out ?_
          rintro r1 w3 ⟨rfl, hw⟩
          subst hw
          go_wp2_with fail
          refine Calls.mono HI.out ?_
          intro r1 w4 hpost
          obtain ⟨hg1, hg2⟩ := HGJ.out
          unfold invPost at hpost
          rw [hg1] at hpost
          obtain ⟨hb4, rfl, gs4, hgs4, hM4⟩ := hpost
          rw [hg2] at hM4
          obtain ⟨IH, hIH⟩ : ∃ IH, wr.drew.heap.size + 1 + k = IH := ⟨_, rfl⟩
          rw [hIH] at hM4 ⊢
          have HRI : Hid (RMatF w4 (fun b => ¬ X b) (some ⟨IH, 0, none⟩) k k (dmat fam k N r)) := hM4.rmatF (by omega) (fun hx => by have h1 := hX _ hx; have h2 := HBr.out.size; omega) (fun r hr hx => by have h1 := hX _ hx; have h2 := HBr.out.size; have h3 := hgs4 r hr; omega)
          have hB4 : Below w.heap.size w w4 := HBr.out.trans (hb4.mono HBr.out.size)
          have HB4 : Hid (Below w.heap.size w w4) := hB4
          have hB24 : Below W2.heap.size W2 w4 := HB2r.out.trans (hb4.mono HB2r.out.size)
          have d4 : w4.cell? ⟨cb, 4, none⟩ = some (.map (some mb)) := Below.keeps hB4 _ _ _ hc4
          have d0 : w4.cell? ⟨w.heap.size, 0, none⟩ = some (.int .u8 (fam : Int)) := Below.keeps hB24 _ _ _ k0'
          have d1 : w4.cell? ⟨w.heap.size, 1, none⟩ = some (.int .u16 (r : Int)) := Below.keeps hB24 _ _ _ k1'
          have hm4 : w4.heap[mb]? = some (.map es clock) := (hB4.block mb hmb).trans HM1.out
          have hlen : (es.size : Int) ≤ 128 := by omega
          have HEn4 : Hid (Ents X w4 k N es) := HEn.out.keeps (Below.keeps hB4)
          clear hb4 hgs4 hM4 hg1 hg2 hIH hB24 hB4 HI HR HB2r HBr
          have hln := len_map hm4 3
          by_cases hfull : es.size = 128
          · have hfull' : (128 : Int) ≤ (es.size : Int) := by omega
            have hcl := clear_map hm4
            have HMu : Hid (Mut mb w (setBlock w4 mb (.map #[] clock))) := (Below.mut HB4.out mb).setBlock _
            obtain ⟨w5, hw5⟩ : ∃ w5, setBlock w4 mb (.map #[] clock) = w5 := ⟨_, rfl⟩
            have hm5 : w5.heap[mb]? = some (.map #[] clock) := by rw [← hw5]; exact heap_setBlock_same hm4 _
            have kp5 : Keeps w4 w5 := by
              have mw : Mut mb w4 w5 := by rw [← hw5]; exact (Mut.refl mb w4).setBlock _
              exact mw.keeps hm4
            have e4 := kp5 _ _ _ d4
            have e0 := kp5 _ _ _ d0
            have e1 := kp5 _ _ _ d1
            rw [hw5] at hcl HMu
            have HPut : Hid (∀ V, (V = w5 ∨ V = w5.drew) → (Instr.mapUpdate 102 (.map (some mb)) (.agg #[.int .u8 (fam : Int), .int .u16 (r : Int)]) (.slice (some ⟨IH, 0, none⟩) k k)).run Tryd.prog V = .ok () (setBlock V mb (.map ((#[] : Array MapEntry).push ⟨keyV fam r, .slice (some ⟨IH, 0, none⟩) k k, clock⟩) (clock + 1)))) := by
              intro V hV
              exact put_any (by rcases hV with rfl | rfl <;> exact hm5) (by intro x hx; simp at hx) fam r hfam hr _ (by intro x hx; simp at hx)
            have hput0 := HPut.out w5 (.inl rfl)
            have hput1 := HPut.out w5.drew (.inr rfl)
            have HEnd : Hid (∀ V, (V = w5 ∨ V = w5.drew) → Cache X (setBlock V mb (.map ((#[] : Array MapEntry).push ⟨keyV fam r, .slice (some ⟨IH, 0, none⟩) k k, clock⟩) (clock + 1))) mb k N ∧ RMat (setBlock V mb (.map ((#[] : Array MapEntry).push ⟨keyV fam r, .slice (some ⟨IH, 0, none⟩) k k, clock⟩) (clock + 1))) (some ⟨IH, 0, none⟩) k k (dmat fam k N r) ∧ Mut mb w (setBlock V mb (.map ((#[] : Array MapEntry).push ⟨keyV fam r, .slice (some ⟨IH, 0, none⟩) k k, clock⟩) (clock + 1)))) := by
              intro V hV
              have hbV : Below w5.heap.size w5 V := by rcases hV with rfl | rfl; exact Below.refl _ _; exact (Below.refl _ _).drew
              exact Cache.put (by rcases hV with rfl | rfl <;> exact hm5) (HMu.out.trans (Below.mut hbV mb)) ⟨by simp, by intro x hx; simp at hx⟩ (by simp) (by intro x hx; simp at hx) hfam hr (by omega) (RMatF.keeps HRI.out (kp5.trans (Below.keeps hbV)))
            clear hw5 kp5 HPut hfull
            go_wp2
            go_region
            all_goals
              go_wp2
              go_ret2
              first
                | (obtain ⟨q1, q2, q3⟩ := HEnd.out w5 (.inl rfl); exact ⟨IH, k, rfl, Nat.le_refl _, by omega, q2, q1, q3⟩)
                | (obtain ⟨q1, q2, q3⟩ := HEnd.out w5.drew (.inr rfl); exact ⟨IH, k, rfl, Nat.le_refl _, by omega, q2, q1, q3⟩)
          · have hfull' : ¬ (128 : Int) ≤ (es.size : Int) := by omega
            have HPut : Hid (∀ V, (V = w4 ∨ V = w4.drew) → (Instr.mapUpdate 102 (.map (some mb)) (.agg #[.int .u8 (fam : Int), .int .u16 (r : Int)]) (.slice (some ⟨IH, 0, none⟩) k k)).run Tryd.prog V = .ok () (setBlock V mb (.map (es.push ⟨keyV fam r, .slice (some ⟨IH, 0, none⟩) k k, clock⟩) (clock + 1)))) := by
              intro V hV
              exact put_any (by rcases hV with rfl | rfl <;> exact hm4) HKs.out fam r hfam hr _ HMi.out
            have hput0 := HPut.out w4 (.inl rfl)
            have hput1 := HPut.out w4.drew (.inr rfl)
            have HEnd : Hid (∀ V, (V = w4 ∨ V = w4.drew) → Cache X (setBlock V mb (.map (es.push ⟨keyV fam r, .slice (some ⟨IH, 0, none⟩) k k, clock⟩) (clock + 1))) mb k N ∧ RMat (setBlock V mb (.map (es.push ⟨keyV fam r, .slice (some ⟨IH, 0, none⟩) k k, clock⟩) (clock + 1))) (some ⟨IH, 0, none⟩) k k (dmat fam k N r) ∧ Mut mb w (setBlock V mb (.map (es.push ⟨keyV fam r, .slice (some ⟨IH, 0, none⟩) k k, clock⟩) (clock + 1)))) := by
              intro V hV
              have hbV : Below w4.heap.size w4 V := by rcases hV with rfl | rfl; exact Below.refl _ _; exact (Below.refl _ _).drew
              exact Cache.put (by rcases hV with rfl | rfl <;> exact hm4) ((Below.mut HB4.out mb).trans (Below.mut hbV mb)) (HEn4.out.keeps (Below.keeps hbV)) (by omega) HMi.out hfam hr (by omega) (RMatF.keeps HRI.out (Below.keeps hbV))
            clear HPut hfull
            go_wp2
            go_region
            all_goals
              go_wp2
              go_ret2
              first
                | (obtain ⟨q1, q2, q3⟩ := HEnd.out w4 (.inl rfl); exact ⟨IH, k, rfl, Nat.le_refl _, by omega, q2, q1, q3⟩)
                | (obtain ⟨q1, q2, q3⟩ := HEnd.out w4.drew (.inr rfl); exact ⟨IH, k, rfl, Nat.le_refl _, by omega, q2, q1, q3⟩)
  · have hlook : ∀ q, (Instr.lookup 102 (.map (some mb)) (.agg #[.int .u8 (fam : Int), .int .u16 (r : Int)]) true).run Tryd.prog (W1.drewN q) = .ok (.tuple #[x.val, .bool true]) (W1.drewN q) := by
      intro q
      rcases look_any (hmW q) hks fam r hfam hr with ⟨_, h2⟩ | ⟨y, hy, hyk, h2⟩
      · exact absurd hxk (h2 x hx)
      · rw [key_unique hm3.1 hx hy (hxk.trans hyk.symm)]
        exact h2
    obtain ⟨f', r', H, c, h1, h2, h3, h4, h5, h6, h7⟩ := hm3.2 x hx
    obtain ⟨rfl, rfl⟩ := keyV_inj (hxk.symm.trans h1)
    rw [h4] at hlook
    have HR : Hid (RMat w (some ⟨H, 0, none⟩) k k (dmat fam k N r)) := h7.rmat
    have HK : Hid (Cache X w mb k N) := hK
    clear hC hg4 hm3 hks hl1 hx hxk h1 h4 h7 hb1 hK hm1 hmW hgs1 hgs2 hby hW1
    go_enter Tryd.func82, Tryd.ntmps82
    go_wp2
    rw [HW1.out]
    go_quiet (fail)
    go_wp2
    go_ret2
    have hbq := HB1.out.trans (drewN_below W1 nq _)
    exact ⟨H, c, rfl, h5, h6, HR.out.below hbq, HK.out.below hbq, Below.mut hbq mb⟩
end Go.Proofs.Qxb6500697aDoor
