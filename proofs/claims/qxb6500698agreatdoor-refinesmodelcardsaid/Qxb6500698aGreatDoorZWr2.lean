/-
  THE WALKS OF THE WRITER's METHODS: U8, Uint, Patch; NewWriter, Len, Err, Bytes.
-/
import Derived.Test.Qxb6500698aGreatDoorZPut
namespace Go.Proofs.Qxb6500698aGreatDoor
open Go.RowKit

/-- The errors, below B. -/
structure EB (B : Nat) (w : World) (e : Nat → Addr) : Prop where
  E : Errs w e
  lo : ∀ i, i < 6 → i < B ∧ (e i).block < B
theorem EB.below {B : Nat} {w w' : World} {e : Nat → Addr} (h : EB B w e) (hb : Below B w w') : EB B w' e := by
  refine ⟨⟨fun i hi => ?_, fun i hi => ?_, h.E.apart⟩, h.lo⟩
  · exact (hb.cell (p := ⟨i, 0, none⟩) (h.lo i hi).1).trans (h.E.cell i hi)
  · obtain ⟨c, t, hc⟩ := h.E.row i hi
    exact ⟨c, t, (hb.block _ (h.lo i hi).2).trans hc⟩

section
variable {B : Nat} {w : World} {e : Nat → Addr} {wb : Nat} {v : Value} {O : List Nat} {lim : Nat} {oe : Option Nat}
theorem WrS.errs (h : WrS B w e wb v O lim oe) (E : EB B w e) {w' : World} (hO : Only wb w w') : EB B w' e := E.below (hO.below h.hB)

set_option maxRecDepth 100000 in
set_option maxHeartbeats 1000000 in
theorem wu8_any (x0 : Nat) (hx0 : x0 < 256) (E : Errs w e) (h : WrS B w e wb v O lim oe) (hBw : B ≤ w.heap.size) :
    Calls Tryz.prog 57 #[.pointer (some ⟨wb, 0, none⟩), .int .u8 (x0 : Int)] w (WP B w e wb v O lim oe [x0]) := by
  have hlen := h.len
  have hlim := h.hlim
  cases oe with
  | some i =>
    have HR : Hid (Calls Tryz.prog 61 #[.pointer (some ⟨wb, 0, none⟩), .int .i64 1] w fun r w' => r = .returned (.bool false) ∧ w' = w) := room_err 1 h
    have HF : Hid (WP B w e wb v O lim (some i) [x0] (.returned (.tuple #[])) w) := ⟨rfl, by rw [wwrite_err]; exact WrPost.same h⟩
    clear h E
    go_enter Tryz.func57, Tryz.ntmps57
    go_wp2_with fail
    refine Calls.mono HR.out ?_
    rintro r w' ⟨rfl, hw⟩
    rw [hw]
    go_wp2
    go_end0
    exact HF.out
  | none =>
    by_cases hfit : O.length + [x0].length ≤ lim
    · have HR : Hid (Calls Tryz.prog 61 #[.pointer (some ⟨wb, 0, none⟩), .int .i64 1] w fun r w' => r = .returned (.bool true) ∧ ∃ m, w' = w.drewN m) := room_yes 1 h hfit
      have HH : Hid (WrS B w e wb v O lim none) := h
      have HFit : Hid (O.length + [x0].length ≤ lim) := hfit
      have HBw : Hid (B ≤ w.heap.size) := hBw
      have c0 := h.at_.c0
      have hsum : O.length + [x0].length ≤ 140737488355328 := by omega
      have HL : Hid (∀ W : World, BRow (W.alloc (.cells #[.int .u8 (x0 : Int)] 5)) (some ⟨W.heap.size, 0, none⟩) [x0]) := fun W => lit_row W [x0] (by intro x hx; rw [List.mem_singleton.1 hx]; exact hx0)
      clear h E hfit hlen hBw
      go_enter Tryz.func57, Tryz.ntmps57
      go_wp2_with fail
      refine Calls.mono HR.out ?_
      rintro r W ⟨rfl, m, hw⟩
      have hW : WrS B W e wb v O lim none := by rw [hw]; exact HH.out.drewN m
      have c0 := hW.at_.c0
      have HW : Hid (WrS B W e wb v O lim none) := hW
      have HP : Hid (∀ v' w1, OwnB w1 B v' (O ++ [x0]) → Gr v v' W w1 → WP B w e wb v O lim none [x0] (.returned (.tuple #[])) (w1.setCell ⟨wb, 0, none⟩ v')) := fun v' w1 h1 h2 => ⟨rfl, by
        rw [wwrite_yes HFit.out]
        have h3 := hW.buf h2 h1 (fun x hx => by
          rcases List.mem_append.1 hx with hx | hx
          · exact hW.byt x hx
          · rw [List.mem_singleton.1 hx]; exact hx0) (by rw [List.length_append]; exact HFit.out)
        rw [hw] at h3
        exact h3.drewN⟩
      have hBW : B ≤ W.heap.size := by rw [hw, (World.drewN_alike w m).1]; exact HBw.out
      have hsz : ∀ o, B ≤ (W.alloc o).heap.size := fun o => by simp; omega
      have HOw : Hid (∀ o, OwnB (W.alloc o) B v O) := fun o => hW.own.alloc o
      clear hW hw HR HH HBw
      go_wp2_with (at_builtin; refine wpList_append_bytes _ rfl _ _ rfl B v O [x0] rfl (HOw.out _) (some ⟨W.heap.size, 0, none⟩) 1 rfl (HL.out W) hsum (hsz _) ?_; intro v' w1 h1 g2 g3; have h2 : Gr v v' W w1 := Gr.mk1 g2 g3; clear g2 g3; obtain ⟨ya, yc, hy⟩ := OwnB.form h1; obtain ⟨yl, hyl⟩ : ∃ yl, (O ++ [x0]).length = yl := ⟨_, rfl⟩; rw [hyl] at hy; clear hyl; subst hy; have HF2 := HP.out _ w1 h1 h2; have HF3 : Hid (WP B w e wb v O lim none [x0] (.returned (.tuple #[])) (w1.setCell ⟨wb, 0, none⟩ (.slice ya yl yc))) := HF2; obtain ⟨d0, df⟩ := HW.out.after h2; clear h1 h2 HF2)
      go_end0
      exact HF3.out
    · have HR : Hid (Calls Tryz.prog 61 #[.pointer (some ⟨wb, 0, none⟩), .int .i64 1] w fun r w' => r = .returned (.bool false) ∧ ∃ m, w' = (w.drewN m).setCell ⟨wb, 2, none⟩ (errV e (some 3))) := room_no 1 E h hfit (by omega)
      have HF : Hid (∀ m, WP B w e wb v O lim none [x0] (.returned (.tuple #[])) ((w.drewN m).setCell ⟨wb, 2, none⟩ (errV e (some 3)))) := fun m => ⟨rfl, by rw [wwrite_no hfit]; exact WrPost.full h m⟩
      clear h E hfit hlen
      go_enter Tryz.func57, Tryz.ntmps57
      go_wp2_with fail
      refine Calls.mono HR.out ?_
      rintro r w' ⟨rfl, m, hw⟩
      have HF3 := HF.out m
      rw [← hw] at HF3
      have HF4 : Hid (WP B w e wb v O lim none [x0] (.returned (.tuple #[])) w') := HF3
      clear HF3 HF HR hw
      go_wp2
      go_end0
      exact HF4.out

/-- What Uint leaves. -/
def zput (O : List Nat) (lim : Nat) (oe : Option Nat) (x : Nat) (n : Int) : List Nat × Option Nat := if oe = none then (match cf x n with | some i => (O, some i) | none => wwrite O lim none (dig x n.toNat)) else (O, oe)
theorem WrPost.only {w1 w2 : World} {O' : List Nat} {oe' : Option Nat} (h : WrPost B w1 e wb v O' lim oe' w2) (hO : Only wb w w1) : WrPost B w e wb v O' lim oe' w2 := by
  obtain ⟨u, h1, h2, h3⟩ := h
  exact ⟨u, h1, (Only.chg hO (.inl rfl)).trans h2, fun b hb => by have := h3 b hb; rw [hO.size] at this; exact this⟩

set_option maxRecDepth 100000 in
set_option maxHeartbeats 1000000 in
theorem wuint_any (x0 : Nat) (n : Int) (hx0 : x0 < 18446744073709551616) (hn1 : -9223372036854775808 ≤ n) (hn2 : n ≤ 9223372036854775807) (E : EB B w e) (h : WrS B w e wb v O lim oe) (hBw : B ≤ w.heap.size) :
    Calls Tryz.prog 56 #[.pointer (some ⟨wb, 0, none⟩), .int .u64 (x0 : Int), .int .i64 n] w fun r w' => r = .returned (.tuple #[]) ∧ WrPost B w e wb v (zput O lim oe x0 n).1 lim (zput O lim oe x0 n).2 w' := by
  have hI : Tryz.prog.isIface 71 = true := by kernel_rfl
  have c0 := h.at_.c0
  have c2 := h.at_.c2
  have f2 := h.at_.fr 2
  have hlim := h.hlim
  cases oe with
  | some i =>
    have HF : Hid (WrPost B w e wb v (zput O lim (some i) x0 n).1 lim (zput O lim (some i) x0 n).2 w) := by
      show WrPost B w e wb v (zput O lim (some i) x0 n).1 lim (zput O lim (some i) x0 n).2 w
      unfold zput; rw [if_neg (by simp)]; exact WrPost.same h
    unfold errV at c2
    clear h E
    go_enter Tryz.func56, Tryz.ntmps56
    go_wp2
    ((try simp only [Exit.inBlock, Exit.then]); refine bodyPost_ret (results_none rfl _ _ _) rfl ?_)
    exact ⟨rfl, HF.out⟩
  | none =>
    have HC : Hid _ := checkField_any x0 n e w E.E hn1 hn2 hx0
    cases hc : cf x0 n with
    | some i =>
      rw [hc] at HC
      have hi := cf_lt x0 n i hc
      obtain ⟨h1, h2⟩ := h.err (some i) (fun j hj => by cases hj; exact hi)
      have HF : Hid (WrPost B w e wb v (zput O lim none x0 n).1 lim (zput O lim none x0 n).2 (w.setCell ⟨wb, 2, none⟩ (errV e (some i)))) := by
        show WrPost B w e wb v (zput O lim none x0 n).1 lim (zput O lim none x0 n).2 (w.setCell ⟨wb, 2, none⟩ (errV e (some i)))
        unfold zput; rw [if_pos rfl, hc]; exact ⟨v, h1, Only.chg h2 (.inl rfl), fun _ hb => .inl hb⟩
      unfold errV at c2 HC HF
      clear h E h1 h2 hc
      go_enter Tryz.func56, Tryz.ntmps56
      go_wp2_with fail
      refine Calls.mono HC.out ?_
      rintro r w' ⟨rfl, hw⟩
      rw [hw]
      clear hw HC
      go_wp2
      ((try simp only [Exit.inBlock, Exit.then]); refine bodyPost_ret (results_none rfl _ _ _) rfl ?_)
      exact ⟨rfl, HF.out⟩
    | none =>
      rw [hc] at HC
      have ho : okW n = true := by
        cases h' : okW n with
        | true => rfl
        | false => unfold cf at hc; rw [h'] at hc; cases hc
      obtain ⟨k, rfl, hk⟩ := okW_nat ho
      obtain ⟨h1, h2⟩ := h.err none (fun j hj => by cases hj)
      have hE1 := h.errs E h2
      obtain ⟨W, hW⟩ : ∃ W, w.setCell ⟨wb, 2, none⟩ (errV e none) = W := ⟨_, rfl⟩
      rw [hW] at h1 h2 hE1
      have hz : zput O lim none x0 (k : Int) = wwrite O lim none (dig x0 k) := by unfold zput; rw [if_pos rfl, hc]; rfl
      rw [hz]
      have hBW : B ≤ W.heap.size := by rw [h2.size]; exact hBw
      have d0 := h1.at_.c0
      have d2 := h1.at_.c2
      have hlen := h.len
      unfold errV at c2 HC hW d2
      by_cases hfit : O.length + (dig x0 k).length ≤ lim
      · have HR : Hid (Calls Tryz.prog 61 #[.pointer (some ⟨wb, 0, none⟩), .int .i64 (k : Int)] W fun r w' => r = .returned (.bool true) ∧ ∃ m, w' = W.drewN m) := room_yes k h1 (by rw [dig_length] at hfit; exact hfit)
        have HA : Hid (∀ m, Calls Tryz.prog 84 #[v, .int .u64 (x0 : Int), .int .i64 (k : Int)] (W.drewN m) fun r w' => ∃ v', r = .returned (.tuple #[v', .nilIface]) ∧ OwnB w' B v' (O ++ dig x0 k) ∧ Gr v v' (W.drewN m) w') := fun m => by
          have := appendUint_any B v O x0 (k : Int) e (W.drewN m) (errs_drewN hE1.E) (ownB_drewN h1.own m) (by rw [(World.drewN_alike W m).1]; exact hBW) (by omega) hn1 hn2 hx0
          unfold encB at this
          rw [hc, if_pos rfl, Int.toNat_natCast] at this
          exact this
        have HF : Hid (∀ m v' w1, OwnB w1 B v' (O ++ dig x0 k) → Gr v v' (W.drewN m) w1 → WrPost B w e wb v (wwrite O lim none (dig x0 k)).1 lim (wwrite O lim none (dig x0 k)).2 (w1.setCell ⟨wb, 0, none⟩ v') ∧ w1.cell? ⟨wb, 0, none⟩ = some v ∧ w1.frozen? ⟨wb, 0, none⟩ = false) := fun m v' w1 g1 g2 => by
          refine ⟨?_, (h1.drewN m).after g2⟩
          rw [wwrite_yes hfit]
          exact WrPost.only (WrPost.drewN ((h1.drewN m).buf g2 g1 (fun x hx => by
            rcases List.mem_append.1 hx with hx | hx
            · exact h.byt x hx
            · exact dig_lt _ _ x hx) (by rw [List.length_append]; exact hfit))) h2
        clear h E h1 h2 hE1 hc hfit hlen hz ho hBW
        go_enter Tryz.func56, Tryz.ntmps56
        go_wp2_with fail
        refine Calls.mono HC.out ?_
        rintro r w' ⟨rfl, hw⟩
        rw [hw]
        clear hw HC w'
        go_wp2_with fail
        refine Calls.mono HR.out ?_
        rintro r w' ⟨rfl, m, rfl⟩
        clear HR
        go_wp2_with fail
        refine Calls.mono (HA.out m) ?_
        rintro r w1 ⟨v', rfl, g1, g2⟩
        obtain ⟨ya, yc, hy⟩ := OwnB.form g1
        obtain ⟨yl, hyl⟩ : ∃ yl, (O ++ dig x0 k).length = yl := ⟨_, rfl⟩
        rw [hyl] at hy
        clear hyl
        subst hy
        obtain ⟨p1, p2, p3⟩ := HF.out m _ w1 g1 g2
        have HP : Hid (WrPost B w e wb v (wwrite O lim none (dig x0 k)).1 lim (wwrite O lim none (dig x0 k)).2 (w1.setCell ⟨wb, 0, none⟩ (.slice ya yl yc))) := p1
        clear p1 g1 g2 HA HF hW
        go_wp2
        go_end0
        exact ⟨rfl, HP.out⟩
      · have HR : Hid (Calls Tryz.prog 61 #[.pointer (some ⟨wb, 0, none⟩), .int .i64 (k : Int)] W fun r w' => r = .returned (.bool false) ∧ ∃ m, w' = (W.drewN m).setCell ⟨wb, 2, none⟩ (errV e (some 3))) := room_no k hE1.E h1 (by rw [dig_length] at hfit; exact hfit) (by omega)
        have HF : Hid (∀ m, WrPost B w e wb v (wwrite O lim none (dig x0 k)).1 lim (wwrite O lim none (dig x0 k)).2 ((W.drewN m).setCell ⟨wb, 2, none⟩ (errV e (some 3)))) := fun m => by
          rw [wwrite_no hfit]
          exact WrPost.only (WrPost.full h1 m) h2
        clear h E h1 h2 hE1 hc hfit hlen hz ho hBW
        go_enter Tryz.func56, Tryz.ntmps56
        go_wp2_with fail
        refine Calls.mono HC.out ?_
        rintro r w' ⟨rfl, hw⟩
        rw [hw]
        clear hw HC w'
        go_wp2_with fail
        refine Calls.mono HR.out ?_
        rintro r w' ⟨rfl, m, hw⟩
        have HF3 := HF.out m
        rw [← hw] at HF3
        have HF4 : Hid (WrPost B w e wb v (wwrite O lim none (dig x0 k)).1 lim (wwrite O lim none (dig x0 k)).2 w') := HF3
        clear HF3 HF HR hw hW
        go_wp2
        go_end0
        exact ⟨rfl, HF4.out⟩

/-- What Patch leaves. -/
def zpatch (O : List Nat) (oe : Option Nat) (off : Int) (x : Nat) (n : Int) : List Nat × Option Nat :=
  if oe = none then (match cf x n with | some i => (O, some i) | none => if off < 0 then (O, some 2) else if (O.length : Int) < off + n then (O, some 0) else (pt O off.toNat x n.toNat, none)) else (O, oe)

set_option maxRecDepth 100000 in
set_option maxHeartbeats 1000000 in
theorem wpatch_any (off : Int) (x0 : Nat) (n : Int) (hx0 : x0 < 18446744073709551616) (hn1 : -9223372036854775808 ≤ n) (hn2 : n ≤ 9223372036854775807) (ho1 : -9223372036854775808 ≤ off) (ho2 : off ≤ 9223372036854775807) (E : EB B w e) (h : WrS B w e wb v O lim oe) :
    Calls Tryz.prog 26 #[.pointer (some ⟨wb, 0, none⟩), .int .i64 off, .int .u64 (x0 : Int), .int .i64 n] w fun r w' => r = .returned (.tuple #[]) ∧ WrPost B w e wb v (zpatch O oe off x0 n).1 lim (zpatch O oe off x0 n).2 w' := by
  have hI : Tryz.prog.isIface 71 = true := by kernel_rfl
  have c0 := h.at_.c0
  have c2 := h.at_.c2
  have f2 := h.at_.fr 2
  have hlim := h.hlim
  have hlen := h.len
  cases oe with
  | some i =>
    have HF : Hid (WrPost B w e wb v (zpatch O (some i) off x0 n).1 lim (zpatch O (some i) off x0 n).2 w) := by
      show WrPost B w e wb v (zpatch O (some i) off x0 n).1 lim (zpatch O (some i) off x0 n).2 w
      unfold zpatch; rw [if_neg (by simp)]; exact WrPost.same h
    unfold errV at c2
    clear h E
    go_enter Tryz.func26, Tryz.ntmps26
    go_wp2
    go_end0
    exact ⟨rfl, HF.out⟩
  | none =>
    obtain ⟨ao, cap, hv, hcp, hcp2, _⟩ := BRow.of_owns h.own h.byt
    -- what PutUint answers, the writer's bytes left alone
    have key : ∀ i : Nat, i < 6 → zpatch O none off x0 n = (O, some i) → (Calls Tryz.prog 62 #[v, .int .i64 off, .int .u64 (x0 : Int), .int .i64 n] w fun r w' => r = .returned (errV e (some i)) ∧ w' = w) → Calls Tryz.prog 26 #[.pointer (some ⟨wb, 0, none⟩), .int .i64 off, .int .u64 (x0 : Int), .int .i64 n] w fun r w' => r = .returned (.tuple #[]) ∧ WrPost B w e wb v (zpatch O none off x0 n).1 lim (zpatch O none off x0 n).2 w' := by
      intro i hi hz HC0
      have HC : Hid (Calls Tryz.prog 62 #[v, .int .i64 off, .int .u64 (x0 : Int), .int .i64 n] w fun r w' => r = .returned (errV e (some i)) ∧ w' = w) := HC0
      obtain ⟨h1, h2⟩ := h.err (some i) (fun j hj => by cases hj; exact hi)
      have HF : Hid (WrPost B w e wb v (zpatch O none off x0 n).1 lim (zpatch O none off x0 n).2 (w.setCell ⟨wb, 2, none⟩ (errV e (some i)))) := by
        show WrPost B w e wb v (zpatch O none off x0 n).1 lim (zpatch O none off x0 n).2 (w.setCell ⟨wb, 2, none⟩ (errV e (some i)))
        rw [hz]; exact ⟨v, h1, Only.chg h2 (.inl rfl), fun _ hb => .inl hb⟩
      unfold errV at c2 HC HF
      clear h E h1 h2 hz HC0 hv
      go_enter Tryz.func26, Tryz.ntmps26
      go_wp2_with fail
      refine Calls.mono HC.out ?_
      rintro r w' ⟨rfl, hw⟩
      rw [hw]
      clear hw HC
      go_wp2
      go_end0
      exact ⟨rfl, HF.out⟩
    cases hc : cf x0 n with
    | some i => exact key i (cf_lt x0 n i hc) (by unfold zpatch; rw [if_pos rfl, hc]) (by rw [hv]; exact putUint_cf ao _ cap x0 i off n E.E hc hn1 hn2 hx0)
    | none =>
      have ho : okW n = true := by
        cases h' : okW n with
        | true => rfl
        | false => unfold cf at hc; rw [h'] at hc; cases hc
      obtain ⟨k, rfl, hk⟩ := okW_nat ho
      by_cases hneg : off < 0
      · refine key 2 (by omega) (by unfold zpatch; rw [if_pos rfl, hc]; show (if off < 0 then _ else _) = _; rw [if_pos hneg]) ?_
        have := putUint_bad ao O.length cap x0 off k hk E.E hc hx0 ho1 ho2 (by omega) (.inl hneg)
        rw [if_pos hneg] at this
        rw [hv]; exact this
      · by_cases hbig : (O.length : Int) < off + (k : Int)
        · refine key 0 (by omega) (by unfold zpatch; rw [if_pos rfl, hc]; show (if off < 0 then _ else if _ then _ else _) = _; rw [if_neg hneg, if_pos hbig]) ?_
          have := putUint_bad ao O.length cap x0 off k hk E.E hc hx0 ho1 ho2 (by omega) (.inr hbig)
          rw [if_neg hneg] at this
          rw [hv]; exact this
        · obtain ⟨q, rfl⟩ : ∃ q : Nat, off = (q : Int) := ⟨off.toNat, by omega⟩
          have hqk : q + k ≤ O.length := by omega
          have hne : O ≠ [] := by intro h0; rw [h0] at hqk; simp at hqk; omega
          obtain ⟨g, hg⟩ : ∃ g, ao = some ⟨g, 0, none⟩ := by
            have hg' : w.ownsRow B 5 1 v O.length (O.map fun y => Value.int .u8 ((y : Nat) : Int)) := h.own
            rcases hg'.2 with ⟨h1, h0⟩ | ⟨g, cap', cur, h1, _⟩
            · exact absurd (List.length_eq_zero_iff.1 h0) hne
            · rw [hv] at h1; injection h1 with h1 _ _; exact ⟨g, h1⟩
          subst hg
          have hob : v.ownBlock = some g := by rw [hv]; rfl
          have hown : OwnB w B (.slice (some ⟨g, 0, none⟩) O.length cap) O := by rw [← hv]; exact h.own
          have HC : Hid (Calls Tryz.prog 62 #[v, .int .i64 (q : Int), .int .u64 (x0 : Int), .int .i64 (k : Int)] w fun r w' => r = .returned .nilIface ∧ OwnB w' B (.slice (some ⟨g, 0, none⟩) O.length cap) (pt O q x0 k) ∧ Only g w w') := by
            rw [hv]; exact putUint_ok O q k x0 g cap E.E hown hk hc hx0 hqk (by omega) hcp
          have hz : zpatch O none (q : Int) x0 (k : Int) = (pt O q x0 k, none) := by
            unfold zpatch; rw [if_pos rfl, hc]; show (if (q : Int) < 0 then _ else if _ then _ else _) = _; rw [if_neg hneg, if_neg hbig]; rfl
          rw [hz]
          have hgw : g ≠ wb := fun e' => h.ne (by rw [hob, e'])
          have HF : Hid (∀ w1, OwnB w1 B (.slice (some ⟨g, 0, none⟩) O.length cap) (pt O q x0 k) → Only g w w1 → WrPost B w e wb v (pt O q x0 k) lim none (w1.setCell ⟨wb, 2, none⟩ (errV e none)) ∧ w1.cell? ⟨wb, 2, none⟩ = some (errV e none) ∧ w1.frozen? ⟨wb, 2, none⟩ = false) := fun w1 g1 g2 => by
            have a1 : WrAt w1 wb v lim (errV e none) := h.at_.of_block (g2.block wb (Ne.symm hgw))
            have s1 : WrS B w1 e wb v (pt O q x0 k) lim none := ⟨a1, by rw [hv]; exact (show OwnB w1 B (.slice (some ⟨g, 0, none⟩) O.length cap) (pt O q x0 k) from g1), pt_lt h.byt, by rw [pt_len hqk]; exact h.len, h.hlim, h.ne, h.oe6, h.hB⟩
            obtain ⟨h1, h2⟩ := s1.err none (fun j hj => by cases hj)
            exact ⟨⟨v, h1, (Only.chg (P := WB wb v) g2 (.inr hob)).trans (Only.chg h2 (.inl rfl)), fun _ hb => .inl hb⟩, a1.c2, a1.fr 2⟩
          unfold errV at c2 HF
          clear h E hz hv hc hown hneg hbig hqk key ho
          go_enter Tryz.func26, Tryz.ntmps26
          go_wp2_with fail
          refine Calls.mono HC.out ?_
          rintro r w1 ⟨rfl, g1, g2⟩
          obtain ⟨p1, p2, p3⟩ := HF.out w1 g1 g2
          have HP : Hid (WrPost B w e wb v (pt O q x0 k) lim none (w1.setCell ⟨wb, 2, none⟩ .nilIface)) := p1
          clear p1 g1 g2 HF HC
          go_wp2
          go_end0
          exact ⟨rfl, HP.out⟩
end
end Go.Proofs.Qxb6500698aGreatDoor
