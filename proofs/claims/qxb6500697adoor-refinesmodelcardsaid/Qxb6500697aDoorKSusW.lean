/-
  THE WALK OF Suspects.
-/
import Derived.Test.Qxb6500697aDoorKSus
import Derived.Test.Qxb6500697aDoorKSort
namespace Go.Proofs.Qxb6500697aDoor
open Go.RowKit

open Classical in
/-- The suspects among the first j places. -/
noncomputable def susJ (k N : Nat) (ss : List Sd) (j : Nat) : List Int := ((List.range j).filter fun q => decide (vcls k N (ss.eraseIdx q) = none)).map fun q => (ss.getD q Sd.zero).ix
open Classical in
theorem susJ_succ (k N : Nat) (ss : List Sd) (j : Nat) : susJ k N ss (j + 1) = susJ k N ss j ++ (if vcls k N (ss.eraseIdx j) = none then [(ss.getD j Sd.zero).ix] else []) := by
  unfold susJ
  rw [List.range_succ, List.filter_append, List.map_append]
  congr 1
  by_cases h : vcls k N (ss.eraseIdx j) = none
  · simp [h]
  · simp [h]
theorem susJ_len (k N : Nat) (ss : List Sd) (j : Nat) : (susJ k N ss j).length ≤ j := by
  unfold susJ
  rw [List.length_map]
  exact Nat.le_trans (List.length_filter_le _ _) (by rw [List.length_range]; exact Nat.le_refl _)
theorem erase_split (ss : List Sd) (j : Nat) : ss.take j ++ ss.drop (j + 1) = ss.eraseIdx j := (List.eraseIdx_eq_take_drop_succ ss j).symm

/-- What Suspects answers. -/
def SPost (e : Nat → Addr) (w : World) (mb k N : Nat) (ss : List Sd) (r : Ending) (w' : World) : Prop := Mut mb w w' ∧ Cache NoX w' mb k N ∧
  ((vcls k N ss = none ∧ r = .returned (.tuple #[.slice none 0 0, .nilIface])) ∨
   (∃ i, i < 8 ∧ vcls k N ss = some i ∧ r = .returned (.tuple #[.slice none 0 0, errV e (some i)])) ∨
   (vcls k N ss = some 8 ∧ ∃ v, r = .returned (.tuple #[v, .nilIface]) ∧ w'.ownsRow w.heap.size 3 1 v (susJ k N ss ss.length).length ((sortZ (susJ k N ss ss.length)).map (Value.int .i64))))

theorem vcls_lt {k N i : Nat} {ss : List Sd} (h : vcls k N ss = some i) : i < 8 ∨ i = 8 := by
  unfold vcls at h
  split at h
  · rename_i j hj
    have := gcls_lt8 hj
    have e := Option.some.inj h
    omega
  · split at h
    · have e := Option.some.inj h
      omega
    · cases h

/-- The list handed in, its payloads older than the call. -/
structure Src (w W : World) (b0 : Nat) (ss : List Sd) : Prop where
  row : SdRow W (some ⟨b0, 0, none⟩) ss
  sz : w.heap.size ≤ W.heap.size
  far : ∀ y ∈ ss, 0 < y.pl → ∀ b o, y.pa = some ⟨b, o, none⟩ → b < w.heap.size
  len : ss.length ≤ 4096
theorem step_take {w W : World} {b0 j : Nat} {ss : List Sd} {v : Value} (hA : Src w W b0 ss) (hT : SOut w.heap.size W v []) (hj : j ≤ ss.length) {ops : Array Oper} {o : Oper} {a : Act} {K : Act → World → Prop} {Q : Exit → Act → World → Prop} {E : Prop} (hgd : o.guard = none) (s x : Operand)
    (ho : o.op = .call { callee := .builtin .append, args := #[s, x], argTypes := #[36, 36] }) (hs : a.eval s = v) (c : Nat) (hx : a.eval x = .slice (some ⟨b0, 0, none⟩) j c)
    (h : ∀ v' w', SOut w.heap.size w' v' (ss.take j) → W.grownBy w' v.ownBlock → (v'.ownBlock = v.ownBlock ∨ v'.ownBlock = some W.heap.size) → K (a.put o.dst v') w') :
    if Region.wanted o (yielded ops a.tmps) = true then Oper.wp Tryd.prog o a W K Q else E := by
  have hl := hA.len
  have htl : (ss.take j).length = j := by rw [List.length_take, Nat.min_eq_left hj]
  refine step_append_sds W hgd s x ho w.heap.size v [] (ss.take j) hs hT hA.sz (by rw [htl]; simp; omega) b0 0 c j htl hx (fun p u hu => ?_) (fun y hy => hA.row.ok y (List.mem_of_mem_take hy)) (fun y hy => hA.far y (List.mem_of_mem_take hy)) h
  rw [Nat.zero_add]
  exact hA.row.flat p u (flat_take ss j p u hu)
theorem step_drop {w W : World} {b0 j j1 m off : Nat} {ss : List Sd} {v : Value} (hA : Src w W b0 ss) (hT : SOut w.heap.size W v (ss.take j)) (hj : j < ss.length) (hj1 : j + 1 = j1) (hm : ss.length - (j + 1) = m) (hoff : m = 0 ∨ off = j1 * 4) {ops : Array Oper} {o : Oper} {a : Act} {K : Act → World → Prop} {Q : Exit → Act → World → Prop} {E : Prop} (hgd : o.guard = none) (s x : Operand)
    (ho : o.op = .call { callee := .builtin .append, args := #[s, x], argTypes := #[36, 36] }) (hs : a.eval s = v) (c : Nat) (hx : a.eval x = .slice (some ⟨b0, off, none⟩) m c)
    (h : ∀ v' w', SOut w.heap.size w' v' (ss.eraseIdx j) → W.grownBy w' v.ownBlock → (v'.ownBlock = v.ownBlock ∨ v'.ownBlock = some W.heap.size) → K (a.put o.dst v') w') :
    if Region.wanted o (yielded ops a.tmps) = true then Oper.wp Tryd.prog o a W K Q else E := by
  have hl := hA.len
  subst hj1
  have htl : (ss.take j).length = j := by rw [List.length_take, Nat.min_eq_left (by omega)]
  have hdl : (ss.drop (j + 1)).length = m := by rw [List.length_drop]; exact hm
  rw [← erase_split] at h
  refine step_append_sds W hgd s x ho w.heap.size v (ss.take j) (ss.drop (j + 1)) hs hT hA.sz (by rw [htl, hdl]; omega) b0 off c m hdl hx (fun p u hu => ?_) (fun y hy => hA.row.ok y (List.mem_of_mem_drop hy)) (fun y hy => hA.far y (List.mem_of_mem_drop hy)) h
  rcases hoff with h0 | h0
  · have h1 := (List.getElem?_eq_some_iff.1 hu).1
    rw [flat4_len, hdl, h0] at h1
    omega
  · rw [h0]
    exact hA.row.flat _ u (flat_drop ss (j + 1) p u (by omega) hu)

set_option maxRecDepth 100000 in
set_option maxHeartbeats 8000000 in
theorem suspects_any (w : World) (F : Nat → Prop) (cb mb k m b0 : Nat) (cap : Nat) (ss : List Sd) (e : Nat → Addr) (E : KErrs 10 w e) (hC : CodecAt w F cb mb k m) (hK : Cache NoX w mb k (k + m)) (hS : SdRow w (some ⟨b0, 0, none⟩) ss) (hne : 0 < ss.length) (hlen : ss.length ≤ 4096) (hcap : ss.length ≤ cap) (hcap2 : cap ≤ 9223372036854775807) :
    Calls Tryd.prog 31 #[.pointer (some ⟨cb, 0, none⟩), .slice (some ⟨b0, 0, none⟩) ss.length cap] w (SPost e w mb k (k + m) ss) := by
  have hI : Tryd.prog.isIface 48 = true := by kernel_rfl
  have HVe : Hid _ := verify_any NoX w F cb mb k m (some ⟨b0, 0, none⟩) cap ss e E hC hK (fun b hb => False.elim hb) hS (by omega)
  have HC : Hid (CodecAt w F cb mb k m) := hC
  have HE : Hid (KErrs 10 w e) := E
  have HK : Hid (Cache NoX w mb k (k + m)) := hK
  have HS : Hid (SdRow w (some ⟨b0, 0, none⟩) ss) := hS
  obtain ⟨N, hN⟩ : ∃ N, k + m = N := ⟨_, rfl⟩
  have HN : Hid (k + m = N) := hN
  rw [hN] at HVe HK ⊢
  obtain ⟨L, hL⟩ : ∃ L, ss.length = L := ⟨_, rfl⟩
  have HL : Hid (ss.length = L) := hL
  rw [hL] at HVe hne hlen hcap ⊢
  clear hC hK hS E hN hL
  go_enter Tryd.func31, Tryd.ntmps31
  go_wp2_with fail
  refine Calls.mono HVe.out ?_
  rintro r w2 ⟨hM2, hK2, hr⟩
  clear HVe
  cases hv : vcls k N ss with
  | none =>
    rw [hv] at hr
    unfold errV at hr
    subst hr
    have HF : Hid (SPost e w mb k N ss (.returned (.tuple #[.slice none 0 0, .nilIface])) w2) := ⟨hM2, hK2, .inl ⟨hv, rfl⟩⟩
    clear hM2 hK2 hv
    go_wp2
    go_ret2
    exact HF.out
  | some i =>
    rw [hv] at hr
    have hE2 := HE.out.mut hM2 HK.out
    have HE2 : Hid (KErrs 10 w2 e) := hE2
    have k9 := hE2.cell 8 (by omega)
    rcases vcls_lt hv with hi8 | hi8
    · unfold errV at hr
      subst hr
      have HF : Hid (SPost e w mb k N ss (.returned (.tuple #[.slice none 0 0, errV e (some i)])) w2) := ⟨hM2, hK2, .inr (.inl ⟨i, hi8, hv, rfl⟩)⟩
      obtain ⟨ci, ti, bi⟩ := hE2.row i (by omega)
      obtain ⟨cj, tj, bj⟩ := hE2.row 8 (by omega)
      have HIs : Hid _ := is_other (e i) (e 8) ci cj ti tj w2 (hE2.apart i 8 (by omega) (by omega) (by omega)) bi bj
      unfold errV at HF
      clear hM2 hK2 hv hE2 bi bj
      go_wp2_with fail
      refine Calls.mono HIs.out ?_
      rintro r w3 ⟨rfl, hw⟩
      have hw := hw.symm
      subst hw
      clear HIs
      go_wp2
      go_ret2
      exact HF.out
    · subst hi8
      unfold errV at hr
      subst hr
      have HV8 : Hid (vcls k N ss = some 8) := hv
      have HIs : Hid _ := is_same (e 8) w2
      have HM2 : Hid (Mut mb w w2) := hM2
      have hmk := make_shards0 L (by omega)
      have HS0 : Hid (SuR w (w2.alloc (.cells (madeCells #[.int .u8 0, .int .i64 0, .int .i64 0, .slice none 0 0] (L * 4)) 60)) mb k N (.slice none 0 0) (.slice (some ⟨w2.heap.size, 0, none⟩) 0 L) []) := by
        have hsz := hM2.size
        refine ⟨HK.out.lt, hM2.trans (Below.mut ((Below.refl _ _).alloc (Nat.le_refl _) _) mb), World.ownsRow_nil _ _ _ _, ⟨0, [], rfl, .inr ⟨w2.heap.size, L, _, rfl, hsz, heap_alloc_new w2 _, Nat.zero_le _, by unfold maxLen; omega, by rw [size_madeCells], by simp⟩⟩, fun b hb => (by cases hb), ?_⟩
        refine hK2.addX ((Below.refl _ _).alloc (Nat.le_refl _) _) (fun b hb => .inr ?_)
        rcases hb with hb | hb
        · cases hb
        · have e1 : w2.heap.size = b := Option.some.inj hb
          omega
      clear hM2 hK2 hv hE2
      go_wp2_with fail
      refine Calls.mono HIs.out ?_
      rintro r w3 ⟨rfl, hw⟩
      have hw := hw.symm
      subst hw
      clear HIs
      go_wp2
      clear hmk k9
      go_loopw [7, 8, 25] (fun v7 v8 i wr => ∃ j : Nat, j ≤ L ∧ i = .int .i64 j ∧ SuR w wr mb k N v7 v8 (susJ k N ss j) ∧ (j < L → ∃ R n c, v8 = .slice (some ⟨R, 0, none⟩) n c ∧ n ≤ c ∧ c ≤ 9223372036854775807)) (fun _ _ i _ => L - (intOf i).toNat)
      case atStart => exact ⟨0, Nat.zero_le _, rfl, HS0.out, fun _ => ⟨_, _, _, rfl, Nat.zero_le _, by omega⟩⟩
      case round =>
        obtain ⟨j, hj, rfl, hR, hform⟩ := hrel
        by_cases hlt : j < L
        · have hlt' : (j : Int) < (L : Int) := by omega
          obtain ⟨R, n8, c8, rfl, hn8, hc8⟩ := hform hlt
          have hj0 : (0 : Int) ≤ (j : Int) := by omega
          have hjc : (j : Int) ≤ (cap : Int) := by omega
          have hc80 : (0 : Int) ≤ (c8 : Int) := by omega
          obtain ⟨j1, hj1⟩ : ∃ j1, j + 1 = j1 := ⟨_, rfl⟩
          have zj : (j : Int) + 1 = (j1 : Int) := by omega
          have hwj : IntKind.i64.wrap (j1 : Int) = (j1 : Int) := by simp [IntKind.wrap, IntKind.bits, IntKind.signed]; omega
          have hj10 : (0 : Int) ≤ (j1 : Int) := by omega
          have hj1L : (j1 : Int) ≤ (L : Int) := by omega
          have Hj1 : Hid (j + 1 = j1) := hj1
          have HR : Hid (SuR w wr mb k N u7 (.slice (some ⟨R, 0, none⟩) n8 c8) (susJ k N ss j)) := hR
          have HFar : Hid (∀ y ∈ ss, 0 < y.pl → ∀ b o, y.pa = some ⟨b, o, none⟩ → b < w.heap.size) := fun y hy h0 b o he => (HS.out.ok y hy).pay.at_lt h0 he
          have HSrc : Hid (∀ W v8 zs, SuR w W mb k N u7 v8 zs → Src w W b0 ss) := fun W v8 zs h => ⟨HS.out.keeps (h.keeps HK.out), h.mt.size, HFar.out, by have := HL.out; omega⟩
          have hRd : SuR w wr.drew mb k N u7 (.slice (some ⟨R, 0, none⟩) 0 c8) (susJ k N ss j) := by
            obtain ⟨n, xs, hr⟩ := hR.rest
            have hb : Below wr.heap.size wr wr.drew := (Below.refl _ _).drew
            have h1 := hR.belowStep hb
            refine ⟨h1.hmb, h1.mt, h1.out, ⟨0, [], ?_⟩, h1.apart, h1.cache⟩
            rcases hr.2 with ⟨h2, _⟩ | ⟨g', cp, cur, hv, hb', hg', hle, hm', hs', _⟩
            · cases h2
            · cases hv
              exact ⟨rfl, .inr ⟨R, c8, cur, rfl, hb', hg', Nat.zero_le _, hm', hs', by simp⟩⟩
          have HRd : Hid _ := hRd
          have HZ1 : Hid (SOut w.heap.size wr.drew (.slice (some ⟨R, 0, none⟩) 0 c8) []) := by
            obtain ⟨n, xs, hr⟩ := hRd.rest
            have hr' : (wr.drew).ownsRow w.heap.size 60 4 (.slice (some ⟨R, 0, none⟩) 0 c8) 0 [] := by
              rcases hr.2 with ⟨h2, _⟩ | ⟨g', cp, cur, hv, hb', hg', hle, hm', hs', _⟩
              · cases h2
              · cases hv
                exact ⟨rfl, .inr ⟨R, c8, cur, rfl, hb', hg', Nat.zero_le _, hm', hs', by simp⟩⟩
            exact ⟨hr', by simp⟩
          have HA1 : Hid (Src w wr.drew b0 ss) := HSrc.out _ _ _ hRd
          have HA2 : Hid (∀ v1 w4, SOut w.heap.size w4 v1 (ss.take j) → wr.drew.grownBy w4 (Value.slice (some ⟨R, 0, none⟩) 0 c8).ownBlock → (v1.ownBlock = (Value.slice (some ⟨R, 0, none⟩) 0 c8).ownBlock ∨ v1.ownBlock = some wr.drew.heap.size) → SuR w w4 mb k N u7 v1 (susJ k N ss j) ∧ Src w w4 b0 ss) := fun v1 w4 h1 h2 h3 => by
            have h4 := HRd.out.grow8 h2 h1.own h3
            exact ⟨h4, HSrc.out _ _ _ h4⟩
          have hjl : j ≤ ss.length := by rw [HL.out]; omega
          have hjl2 : j < ss.length := by rw [HL.out]; omega
          obtain ⟨m8, hm8⟩ : ∃ m8, L - j1 = m8 := ⟨_, rfl⟩
          have hml : ss.length - (j + 1) = m8 := by rw [HL.out, hj1]; exact hm8
          obtain ⟨off, hoff, hof2⟩ : ∃ off, (if cap = j1 then some (⟨b0, 0, none⟩ : Addr) else some ⟨b0, j1 * 4, none⟩) = some ⟨b0, off, none⟩ ∧ (m8 = 0 ∨ off = j1 * 4) := by
            by_cases hcj : cap = j1
            · exact ⟨0, by rw [if_pos hcj], .inl (by omega)⟩
            · exact ⟨j1 * 4, by rw [if_neg hcj], .inr rfl⟩
          have HOff : Hid (m8 = 0 ∨ off = j1 * 4) := hof2
          clear hR hform hRd hof2
          go_upto_region 11 with fail
          go_cut [8] from 26 to 51 (fun v wx => SOut w.heap.size wx v (ss.eraseIdx j) ∧ SuR w wx mb k N u7 v (susJ k N ss j))
          case first =>
            go_region_held3 (fun w' => w'.heap.size = w'.heap.size) (first | rfl) (first
              | (have hZ := HZ1.out; refine step_take HA1.out hZ hjl (by rfl) _ _ (by rfl) (by rfl) cap (by rfl) ?_; intro v1 w4 g1 g2 g3; have hq := HA2.out v1 w4 g1 g2 g3; have G1 : Hid (SOut w.heap.size w4 v1 (ss.take j)) := g1; have G4 : Hid (SuR w w4 mb k N u7 v1 (susJ k N ss j)) := hq.1; have G5 : Hid (Src w w4 b0 ss) := hq.2; clear g1 g2 g3 hq hZ HZ1)
              | (have hZ := G1.out; refine step_drop G5.out hZ hjl2 Hj1.out hml HOff.out (by rfl) _ _ (by rfl) (by rfl) (cap - j1) (by rfl) ?_; intro v2 w5 g1 g2 g3; have F1 : Hid (SOut w.heap.size w5 v2 (ss.eraseIdx j)) := g1; have F4 : Hid (SuR w w5 mb k N u7 v2 (susJ k N ss j)) := G4.out.grow8 g2 g1.own g3; clear g1 g2 g3 hZ G1))
            all_goals
              go_wp2
              go_meet
              exact ⟨F1.out, F4.out⟩
          case rest =>
            obtain ⟨w4, hw4⟩ : ∃ x, x = wc := ⟨_, rfl⟩
            subst hw4
            obtain ⟨hSO, hR4⟩ := hcut
            obtain ⟨ao, c9, hv8, hRow⟩ := hSO.form
            have hel : (ss.eraseIdx j).length = L - 1 := by rw [List.length_eraseIdx, HL.out, if_pos hlt]
            rw [hel] at hv8
            have HForm : Hid (j + 1 < L → ∃ R n c, u8 = .slice (some ⟨R, 0, none⟩) n c ∧ n ≤ c ∧ c ≤ 9223372036854775807) := fun hl => by
              rcases hSO.own.2 with ⟨_, h0⟩ | ⟨g', cp, cur, hv, hb', hg', hle, hm', hs', _⟩
              · rw [hel] at h0; omega
              · refine ⟨g', _, cp, hv, hle, ?_⟩
                unfold maxLen at hm'
                omega
            have HR4 : Hid (SuR w w4 mb k N u7 u8 (susJ k N ss j)) := hR4
            have hk4 : Keeps w w4 := hR4.keeps HK.out
            have HVe : Hid _ := verify_any _ w4 F cb mb k m ao c9 (ss.eraseIdx j) e (HE.out.mut hR4.mt HK.out) (HC.out.keeps hk4) (by rw [HN.out]; exact hR4.cache) (fun b hb => (hR4.lt b hb).2) hRow (by rw [hel]; omega)
            rw [hel, HN.out] at HVe
            clear hSO hR4 hRow hel hk4 HZ1 HA1 HA2 HRd HR HSrc HFar HOff hoff hml hm8 hjl hjl2 zj hwj hj10 hj1L hjc hj0 hc80
            subst hv8
            go_wp2_with fail
            refine Calls.mono HVe.out ?_
            rintro r w5 ⟨hM5, hK5, hr⟩
            have hR5 := HR4.out.mutStep hM5 hK5
            have HR5 : Hid (SuR w w5 mb k N u7 (.slice ao (L - 1) c9) (susJ k N ss j)) := hR5
            clear HVe hM5 hK5
            cases hv : vcls k N (ss.eraseIdx j) with
            | some i =>
              rw [hv] at hr
              unfold errV at hr
              subst hr
              have HF : Hid (SuR w w5 mb k N u7 (.slice ao (L - 1) c9) (susJ k N ss (j + 1))) := by
                show SuR w w5 mb k N u7 (.slice ao (L - 1) c9) (susJ k N ss (j + 1))
                rw [susJ_succ, hv, if_neg (by simp), List.append_nil]
                exact hR5
              clear hR5 hv
              go_wp2
              go_roundw
              case rel => exact ⟨j + 1, by omega, by go_num, HF.out, HForm.out⟩
              case measure => simp [intOf]; omega
            | none =>
              rw [hv] at hr
              unfold errV at hr
              subst hr
              have hS5 := HS.out.keeps (hR5.keeps HK.out)
              obtain ⟨hb', hbe, hrr⟩ := hS5.row (by rw [HL.out]; exact hne)
              obtain rfl : b0 = hb' := congrArg (fun x : Option Addr => (x.getD ⟨0, 0, none⟩).block) hbe
              obtain ⟨_, r1, _, _⟩ := hrr j (by rw [HL.out]; exact hlt)
              obtain ⟨z, hz⟩ : ∃ z, (ss.getD j Sd.zero).ix = z := ⟨_, rfl⟩
              have hzg : (ss[j]'(by rw [HL.out]; exact hlt)).ix = z := by rw [← hz, getD_lt (by rw [HL.out]; exact hlt)]
              rw [hzg] at r1
              have HSj : Hid (susJ k N ss (j + 1) = susJ k N ss j ++ [z]) := by
                show susJ k N ss (j + 1) = susJ k N ss j ++ [z]
                rw [susJ_succ, hv, if_pos rfl, hz]
              have hsl := susJ_len k N ss j
              have HRa : Hid (∀ o, SuR w (w5.alloc o) mb k N u7 (.slice ao (L - 1) c9) (susJ k N ss j)) := fun o => hR5.belowStep ((Below.refl _ _).alloc (Nat.le_refl _) o)
              have HCz : Hid (∀ o, o = .cells #[.int .i64 z] 3 → (w5.alloc o).cell? ⟨w5.heap.size, 0, none⟩ = some (.int .i64 z)) := fun o ho => by
                have h : (w5.alloc o).heap[w5.heap.size]? = some (.cells #[.int .i64 z] 3 (0, 0)) := by rw [ho]; exact heap_alloc_new w5 _
                generalize w5.alloc o = W at h ⊢
                simp [World.cell?, h]
              clear hR5 hv hS5 hrr hbe hz hzg
              go_wp2_with (at_builtin; refine wpList_append_int _ (by rfl) _ _ (by rfl) w.heap.size u7 (susJ k N ss j) (by rfl) (HRa.out _).out (HRa.out _).mt.size (by omega) w5.heap.size 1 (by rfl) z (HCz.out _ (by rfl)) ?_; intro v9 w6 h1 h2 h3; have HF : Hid (SuR w w6 mb k N v9 (.slice ao (L - 1) c9) (susJ k N ss j ++ [z])) := (HRa.out _).grow7 h2 h1 h3; clear h1 h2 h3)
              go_roundw
              case rel => exact ⟨j + 1, by omega, by go_num, by rw [HSj.out]; exact HF.out, HForm.out⟩
              case measure => simp [intOf]; omega
        · have hlt' : ¬ (j : Int) < (L : Int) := by omega
          have hjL : j = L := by omega
          subst hjL
          have hle := susJ_len k N ss j
          have HSo : Hid _ := sort_own hR.out (by omega)
          have HFin : Hid (∀ w', w'.ownsRow w.heap.size 3 1 u7 (susJ k N ss j).length ((sortZ (susJ k N ss j)).map (Value.int .i64)) → wr.grownBy w' u7.ownBlock → SPost e w mb k N ss (.returned (.tuple #[u7, .nilIface])) w') := fun w' h1 h2 => by
            have h3 := hR.grow7 (zs' := sortZ (susJ k N ss j)) h2 (by rw [sortZ_len]; exact h1) (.inl rfl)
            refine ⟨h3.mt, h3.cache.addX (Below.refl _ _) (fun b hb => False.elim hb), .inr (.inr ⟨HV8.out, u7, rfl, ?_⟩)⟩
            rw [HL.out]
            exact h1
          clear hR hform
          go_wp2_with fail
          refine Calls.mono HSo.out ?_
          rintro r w4 ⟨rfl, h1, h2⟩
          have HF : Hid _ := HFin.out w4 h1 h2
          clear h1 h2 HSo HFin
          go_wp2
          go_ret2
          exact HF.out
end Go.Proofs.Qxb6500697aDoor
