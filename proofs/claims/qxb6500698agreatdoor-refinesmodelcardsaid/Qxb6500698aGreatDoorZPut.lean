/-
  THE WALK OF PutUint.
-/
import Derived.Test.Qxb6500698aGreatDoorZWr
namespace Go.Proofs.Qxb6500698aGreatDoor
open Go.RowKit

theorem own_set {w : World} {B g p : Nat} {e : TypeId} {s : Nat} {v : Value} {n : Nat} {xs : List Value} (h : w.ownsRow B e s v n xs) (hg : v.ownBlock = some g) (u : Value) : (w.setCell ⟨g, p, none⟩ u).ownsRow B e s v n (xs.set p u) := by
  refine ⟨by rw [List.length_set]; exact h.1, ?_⟩
  rcases h.2 with ⟨h1, _⟩ | ⟨g', cap, cur, hv, hb, hg', hle, hm, hs, ht⟩
  · rw [h1] at hg; cases hg
  · rw [hv] at hg
    have e1 : g' = g := by simpa [Value.ownBlock] using hg
    subst e1
    refine .inr ⟨g', cap, cur.setIfInBounds p u, hv, hb, ?_, hle, hm, by rw [Array.size_setIfInBounds]; exact hs, ?_⟩
    · simp [World.setCell, Array.getElem?_modify, hg']
    · rw [← ht, Array.toList_setIfInBounds, List.take_set]
/-- The first j digits of v laid over O at off. -/
def pt (O : List Nat) (off v j : Nat) : List Nat := O.take off ++ dig v j ++ O.drop (off + j)
theorem pt_zero (O : List Nat) (off v : Nat) : pt O off v 0 = O := by unfold pt; simp [dig]
theorem pt_len {O : List Nat} {off v j : Nat} (h : off + j ≤ O.length) : (pt O off v j).length = O.length := by
  unfold pt
  rw [List.length_append, List.length_append, dig_length, List.length_take, List.length_drop]
  omega
theorem pt_set {O : List Nat} {off v j : Nat} (h : off + j < O.length) : (pt O off v j).set (off + j) (v / 256 ^ j % 256) = pt O off v (j + 1) := by
  have hl : (O.take off ++ dig v j).length = off + j := by rw [List.length_append, dig_length, List.length_take]; omega
  unfold pt
  rw [List.set_append_right _ _ (by omega), hl, Nat.sub_self, dig_snoc]
  have hd : O.drop (off + j) = O[off + j] :: O.drop (off + j + 1) := List.drop_eq_getElem_cons h
  rw [hd, List.set_cons_zero]
  simp [Nat.add_assoc]
theorem pt_lt {O : List Nat} {off v j : Nat} (h : ∀ x ∈ O, x < 256) : ∀ x ∈ pt O off v j, x < 256 := by
  intro x hx
  unfold pt at hx
  rcases List.mem_append.1 hx with hx | hx
  · rcases List.mem_append.1 hx with hx | hx
    · exact h x (List.mem_of_mem_take hx)
    · exact dig_lt _ _ x hx
  · exact h x (List.mem_of_mem_drop hx)
theorem own_cell {w : World} {B g n cap i : Nat} {O : List Nat} (h : OwnB w B (.slice (some ⟨g, 0, none⟩) n cap) O) (hi : i < O.length) : w.cell? ⟨g, i, none⟩ = some (.int .u8 ((O.getD i 0 : Nat) : Int)) ∧ w.frozen? ⟨g, i, none⟩ = false := by
  have hg : w.ownsRow B 5 1 (.slice (some ⟨g, 0, none⟩) n cap) O.length (O.map fun y => Value.int .u8 ((y : Nat) : Int)) := h
  constructor
  · have h1 := hg.cells (g := g) rfl i (.int .u8 ((O.getD i 0 : Nat) : Int)) (by rw [List.getElem?_map, List.getElem?_eq_getElem hi]; simp [List.getD_eq_getElem?_getD, hi])
    have e : (⟨g, 0, none⟩ : Addr).add i = ⟨g, 0 + i, none⟩ := by unfold Addr.add; split <;> simp_all
    rwa [e, Nat.zero_add] at h1
  · rcases hg.2 with ⟨hv, _⟩ | ⟨g', cap', cur, hv, _, hg', _⟩
    · cases hv
    · have e1 : g = g' := by injection hv with e1 _ _; injection e1 with e1; injection e1
      subst e1
      simp [World.frozen?, hg']
theorem own_put {w : World} {B g n cap i d : Nat} {O : List Nat} (h : OwnB w B (.slice (some ⟨g, 0, none⟩) n cap) O) : OwnB (w.setCell ⟨g, i, none⟩ (.int .u8 (d : Int))) B (.slice (some ⟨g, 0, none⟩) n cap) (O.set i d) := by
  have hg : w.ownsRow B 5 1 (.slice (some ⟨g, 0, none⟩) n cap) O.length (O.map fun y => Value.int .u8 ((y : Nat) : Int)) := h
  have h1 := own_set (p := i) hg rfl (.int .u8 (d : Int))
  show (w.setCell ⟨g, i, none⟩ (.int .u8 (d : Int))).ownsRow B 5 1 _ (O.set i d).length ((O.set i d).map fun y => Value.int .u8 ((y : Nat) : Int))
  rw [List.length_set, List.map_set]
  exact h1

section
variable {B : Nat} {w : World} {e : Nat → Addr}
set_option maxRecDepth 100000 in
set_option maxHeartbeats 1000000 in
theorem putUint_cf (ao : Option Addr) (len cap v i : Nat) (off n : Int) (E : Errs w e) (hc : cf v n = some i) (h1 : -9223372036854775808 ≤ n) (h2 : n ≤ 9223372036854775807) (hv : v < 18446744073709551616) :
    Calls Tryz.prog 62 #[.slice ao len cap, .int .i64 off, .int .u64 v, .int .i64 n] w fun r w' => r = .returned (errV e (some i)) ∧ w' = w := by
  have hI : Tryz.prog.isIface 71 = true := by kernel_rfl
  have HC : Hid (Calls Tryz.prog 83 #[.int .u64 v, .int .i64 n] w fun r w' => r = .returned (errV e (some i)) ∧ w' = w) := by
    have := checkField_any v n e w E h1 h2 hv
    rw [hc] at this
    exact this
  unfold errV at HC ⊢
  clear E hc
  go_enter Tryz.func62, Tryz.ntmps62
  go_wp2_with fail
  refine Calls.mono HC.out ?_
  rintro r w' ⟨rfl, hw⟩
  rw [hw]
  go_wp2
  go_ret
  exact ⟨rfl, rfl⟩
set_option maxRecDepth 100000 in
set_option maxHeartbeats 1000000 in
theorem putUint_bad (ao : Option Addr) (len cap v : Nat) (off : Int) (k : Nat) (hk : k = 1 ∨ k = 2 ∨ k = 4 ∨ k = 8) (E : Errs w e) (hc : cf v (k : Int) = none) (hv : v < 18446744073709551616) (ho1 : -9223372036854775808 ≤ off) (ho2 : off ≤ 9223372036854775807) (hlen : len ≤ 1024) (hoff : off < 0 ∨ (len : Int) < off + k) :
    Calls Tryz.prog 62 #[.slice ao len cap, .int .i64 off, .int .u64 v, .int .i64 (k : Int)] w fun r w' => r = .returned (errV e (some (if off < 0 then 2 else 0))) ∧ w' = w := by
  have hI : Tryz.prog.isIface 71 = true := by kernel_rfl
  have HC : Hid (Calls Tryz.prog 83 #[.int .u64 v, .int .i64 (k : Int)] w fun r w' => r = .returned (errV e none) ∧ w' = w) := by
    have := checkField_any v (k : Int) e w E (by omega) (by omega) hv
    rw [hc] at this
    exact this
  have g2 := E.cell 2 (by omega)
  have g0 := E.cell 0 (by omega)
  by_cases hneg : off < 0
  · rw [if_pos hneg]
    unfold errV at HC ⊢
    clear E hc hoff
    go_enter Tryz.func62, Tryz.ntmps62
    go_wp2_with fail
    refine Calls.mono HC.out ?_
    rintro r w' ⟨rfl, hw⟩
    rw [hw]
    go_wp2
    go_ret
    exact ⟨rfl, rfl⟩
  · rw [if_neg hneg]
    unfold errV at HC ⊢
    obtain ⟨q, rfl⟩ : ∃ q : Nat, off = (q : Int) := ⟨off.toNat, by omega⟩
    have hneg' : ¬ (q : Int) < 0 := by omega
    by_cases hbig : (len : Int) < (q : Int)
    · clear E hc hoff
      go_enter Tryz.func62, Tryz.ntmps62
      go_wp2_with fail
      refine Calls.mono HC.out ?_
      rintro r w' ⟨rfl, hw⟩
      rw [hw]
      go_wp2
      go_ret
      exact ⟨rfl, rfl⟩
    · have hb2 : ((len : Int) - (q : Int)) < (k : Int) := by omega
      clear E hc hoff
      go_enter Tryz.func62, Tryz.ntmps62
      go_wp2_with fail
      refine Calls.mono HC.out ?_
      rintro r w' ⟨rfl, hw⟩
      rw [hw]
      go_wp2
      go_ret
      exact ⟨rfl, rfl⟩
set_option maxRecDepth 100000 in
set_option maxHeartbeats 4000000 in
theorem putUint_ok (O : List Nat) (off k v g cap : Nat) (E : Errs w e) (hown : OwnB w B (.slice (some ⟨g, 0, none⟩) O.length cap) O) (hk : k = 1 ∨ k = 2 ∨ k = 4 ∨ k = 8) (hc : cf v (k : Int) = none) (hv : v < 18446744073709551616) (hoff : off + k ≤ O.length) (hlen : O.length ≤ 1024) (_hcap : O.length ≤ cap) :
    Calls Tryz.prog 62 #[.slice (some ⟨g, 0, none⟩) O.length cap, .int .i64 (off : Int), .int .u64 v, .int .i64 (k : Int)] w fun r w' => r = .returned .nilIface ∧ OwnB w' B (.slice (some ⟨g, 0, none⟩) O.length cap) (pt O off v k) ∧ Only g w w' := by
  have hI : Tryz.prog.isIface 71 = true := by kernel_rfl
  have HC : Hid (Calls Tryz.prog 83 #[.int .u64 v, .int .i64 (k : Int)] w fun r w' => r = .returned (errV e none) ∧ w' = w) := by
    have := checkField_any v (k : Int) e w E (by omega) (by omega) hv
    rw [hc] at this
    exact this
  unfold errV at HC
  have hneg : ¬ (off : Int) < 0 := by omega
  obtain ⟨L, hL⟩ : ∃ L, O.length = L := ⟨_, rfl⟩
  have HL : Hid (O.length = L) := hL
  have HO : Hid (OwnB w B (.slice (some ⟨g, 0, none⟩) L cap) (pt O off v 0)) := by rw [pt_zero, ← hL]; exact hown
  rw [hL] at hoff hlen ⊢
  have hbig : ¬ (L : Int) < (off : Int) := by omega
  have hb2 : ¬ ((L : Int) - (off : Int)) < (k : Int) := by omega
  clear E hc hown hL
  go_enter Tryz.func62, Tryz.ntmps62
  go_wp2_with fail
  refine Calls.mono HC.out ?_
  rintro r w' ⟨rfl, hw⟩
  rw [hw]
  clear hw w' HC
  go_wp2
  go_loopw [34] (fun i wr => ∃ j : Nat, j ≤ k ∧ i = .int .i64 j ∧ OwnB wr B (.slice (some ⟨g, 0, none⟩) L cap) (pt O off v j) ∧ Only g w wr) (fun i _ => k - (intOf i).toNat)
  case atStart => exact ⟨0, Nat.zero_le _, rfl, HO.out, Only.refl _ _⟩
  case round =>
    obtain ⟨j, hj, rfl, hOw, hOn⟩ := hrel
    by_cases hlt : j < k
    · obtain ⟨p, hp⟩ : ∃ p, off + j = p := ⟨_, rfl⟩
      have hpL : p < L := by omega
      have hpl : (pt O off v j).length = L := by rw [← HL.out]; exact pt_len (by rw [HL.out]; omega)
      obtain ⟨c0, cf0⟩ := own_cell hOw (i := p) (by rw [hpl]; exact hpL)
      obtain ⟨d, hd⟩ : ∃ d, v / 256 ^ j % 256 = d := ⟨_, rfl⟩
      have hpp : (p : Int) < (L : Int) := by omega
      have HF : Hid (OwnB (wr.setCell ⟨g, p, none⟩ (.int .u8 (d : Int))) B (.slice (some ⟨g, 0, none⟩) L cap) (pt O off v (j + 1)) ∧ Only g w (wr.setCell ⟨g, p, none⟩ (.int .u8 (d : Int)))) := by
        have h1 := own_put (i := p) (d := d) hOw
        rw [← hp, ← hd, pt_set (by rw [HL.out]; omega), hp, hd] at h1
        exact ⟨h1, hOn.setCell _ _⟩
      generalize (pt O off v j).getD p 0 = z at c0
      have hj8 : j = 0 ∨ j = 1 ∨ j = 2 ∨ j = 3 ∨ j = 4 ∨ j = 5 ∨ j = 6 ∨ j = 7 := by omega
      clear hOw hOn hpl
      rcases hj8 with rfl | rfl | rfl | rfl | rfl | rfl | rfl | rfl
      · have zp : (off : Int) = (p : Int) := by omega
        have hlt' : (0 : Int) < (k : Int) := by omega
        have zd : (v : Int) % 256 = (d : Int) := by
          rw [← hd]
          omega
        clear hp hd hlt
        go_wp2
        go_roundw
        case rel => exact ⟨0 + 1, by omega, by go_num, HF.out⟩
        case measure => simp [intOf]; omega
      · have zp : (off : Int) + 1 = (p : Int) := by omega
        have hlt' : (1 : Int) < (k : Int) := by omega
        have zd : (v : Int) / 256 % 256 = (d : Int) := by
          rw [← hd]
          show (v : Int) / 256 % 256 = ((v / 256 ^ 1 % 256 : Nat) : Int); simp only [Nat.reducePow]; omega
        clear hp hd hlt
        go_wp2
        go_roundw
        case rel => exact ⟨1 + 1, by omega, by go_num, HF.out⟩
        case measure => simp [intOf]; omega
      · have zp : (off : Int) + 2 = (p : Int) := by omega
        have hlt' : (2 : Int) < (k : Int) := by omega
        have zd : (v : Int) / 65536 % 256 = (d : Int) := by
          rw [← hd]
          show (v : Int) / 65536 % 256 = ((v / 256 ^ 2 % 256 : Nat) : Int); simp only [Nat.reducePow]; omega
        clear hp hd hlt
        go_wp2
        go_roundw
        case rel => exact ⟨2 + 1, by omega, by go_num, HF.out⟩
        case measure => simp [intOf]; omega
      · have zp : (off : Int) + 3 = (p : Int) := by omega
        have hlt' : (3 : Int) < (k : Int) := by omega
        have zd : (v : Int) / 16777216 % 256 = (d : Int) := by
          rw [← hd]
          show (v : Int) / 16777216 % 256 = ((v / 256 ^ 3 % 256 : Nat) : Int); simp only [Nat.reducePow]; omega
        clear hp hd hlt
        go_wp2
        go_roundw
        case rel => exact ⟨3 + 1, by omega, by go_num, HF.out⟩
        case measure => simp [intOf]; omega
      · have zp : (off : Int) + 4 = (p : Int) := by omega
        have hlt' : (4 : Int) < (k : Int) := by omega
        have zd : (v : Int) / 4294967296 % 256 = (d : Int) := by
          rw [← hd]
          show (v : Int) / 4294967296 % 256 = ((v / 256 ^ 4 % 256 : Nat) : Int); simp only [Nat.reducePow]; omega
        clear hp hd hlt
        go_wp2
        go_roundw
        case rel => exact ⟨4 + 1, by omega, by go_num, HF.out⟩
        case measure => simp [intOf]; omega
      · have zp : (off : Int) + 5 = (p : Int) := by omega
        have hlt' : (5 : Int) < (k : Int) := by omega
        have zd : (v : Int) / 1099511627776 % 256 = (d : Int) := by
          rw [← hd]
          show (v : Int) / 1099511627776 % 256 = ((v / 256 ^ 5 % 256 : Nat) : Int); simp only [Nat.reducePow]; omega
        clear hp hd hlt
        go_wp2
        go_roundw
        case rel => exact ⟨5 + 1, by omega, by go_num, HF.out⟩
        case measure => simp [intOf]; omega
      · have zp : (off : Int) + 6 = (p : Int) := by omega
        have hlt' : (6 : Int) < (k : Int) := by omega
        have zd : (v : Int) / 281474976710656 % 256 = (d : Int) := by
          rw [← hd]
          show (v : Int) / 281474976710656 % 256 = ((v / 256 ^ 6 % 256 : Nat) : Int); simp only [Nat.reducePow]; omega
        clear hp hd hlt
        go_wp2
        go_roundw
        case rel => exact ⟨6 + 1, by omega, by go_num, HF.out⟩
        case measure => simp [intOf]; omega
      · have zp : (off : Int) + 7 = (p : Int) := by omega
        have hlt' : (7 : Int) < (k : Int) := by omega
        have zd : (v : Int) / 72057594037927936 = (d : Int) := by
          rw [← hd]
          show (v : Int) / 72057594037927936 = ((v / 256 ^ 7 % 256 : Nat) : Int); simp only [Nat.reducePow]; omega
        clear hp hd hlt
        go_wp2
        go_roundw
        case rel => exact ⟨7 + 1, by omega, by go_num, HF.out⟩
        case measure => simp [intOf]; omega
    · have hlt' : ¬ (j : Int) < (k : Int) := by omega
      have e : j = k := by omega
      subst e
      have HF : Hid (OwnB wr B (.slice (some ⟨g, 0, none⟩) L cap) (pt O off v j) ∧ Only g w wr) := ⟨hOw, hOn⟩
      clear hOw hOn
      go_wp2
      go_ret
      exact ⟨rfl, HF.out⟩
end
end Go.Proofs.Qxb6500698aGreatDoor
