/-
  THE WALKS OF Digits AND Uint.
-/
import Derived.Test.Qxb6500698aGreatDoorZIntsA
namespace Go.Proofs.Qxb6500698aGreatDoor
open Go.RowKit

theorem dig_snoc (j v : Nat) : dig v (j + 1) = dig v j ++ [v / 256 ^ j % 256] := by
  induction j generalizing v with
  | zero => simp [dig]
  | succ j ih =>
    rw [dig, ih, dig, List.cons_append, Nat.div_div_eq_div_mul, Nat.pow_succ, Nat.mul_comm]

theorem dig_getD (k v i : Nat) (h : i < k) : (dig v k).getD i 0 = v / 256 ^ i % 256 := by
  induction k generalizing v i with
  | zero => omega
  | succ k ih =>
    cases i with
    | zero => simp [dig]
    | succ i =>
      rw [dig, List.getD_cons_succ, ih _ _ (by omega), Nat.div_div_eq_div_mul, Nat.pow_succ, Nat.mul_comm (256 ^ i)]

/-- Digits read back. -/
def undig : List Nat → Nat
  | [] => 0
  | d :: ds => d + 256 * undig ds

theorem undig_lt (l : List Nat) (h : ∀ x ∈ l, x < 256) : undig l < 256 ^ l.length := by
  induction l with
  | nil => simp [undig]
  | cons d ds ih =>
    have h1 := ih fun x hx => h x (List.mem_cons_of_mem _ hx)
    have h2 := h d List.mem_cons_self
    simp only [undig, List.length_cons, Nat.pow_succ]
    omega

theorem undig_dig (k v : Nat) (h : v < 256 ^ k) : undig (dig v k) = v := by
  induction k generalizing v with
  | zero => simp [dig, undig] at *; omega
  | succ k ih =>
    rw [dig, undig, ih (v / 256) (by rw [Nat.pow_succ] at h; omega)]
    omega

theorem undig_drop (l : List Nat) (j : Nat) (h : j < l.length) : undig (l.drop j) = l.getD j 0 + 256 * undig (l.drop (j + 1)) := by
  rw [List.drop_eq_getElem_cons h, undig]
  simp [List.getD_eq_getElem?_getD, h]

theorem or_dig (v d : Nat) (hv : v * 256 < 18446744073709551616) (hd : d < 256) : bits BinOp.or IntKind.u64 ((v : Int) * 256) (d : Int) = ((d + 256 * v : Nat) : Int) := by
  rw [show ((v : Int) * 256) = ((v * 256 : Nat) : Int) by omega, u64_or_nat (v * 256) d (by omega) (by omega)]
  congr 1
  have : v * 2 ^ 8 ||| d = d + 2 ^ 8 * v := by
    rw [Nat.mul_comm v, ← Nat.two_pow_add_eq_or_of_lt (by omega) v]; omega
  exact this

set_option maxRecDepth 100000 in
set_option maxHeartbeats 1000000 in
theorem digits_any (v k : Nat) (w : World) (hk : k ≤ 8) (hv : v < 18446744073709551616) :
    Calls Tryz.prog 43 #[.int .u64 v, .int .i64 k] w fun r w' => ∃ v', r = .returned (.tuple #[v', .bool (decide (v < 256 ^ k))]) ∧ OwnB w' w.heap.size v' (dig v k) ∧ Below w.heap.size w w' := by
  go_enter Tryz.func43, Tryz.ntmps43
  go_wp2
  go_loopw [0, 4, 6] (fun a v' i wr => ∃ j q : Nat, j ≤ k ∧ i = .int .i64 j ∧ a = .int .u64 q ∧ q = v / 256 ^ j ∧ OwnB wr w.heap.size v' (dig v j) ∧ Below w.heap.size w wr) (fun _ _ i _ => k - (intOf i).toNat)
  case atStart => exact ⟨0, v, Nat.zero_le _, rfl, rfl, by simp, by simpa [OwnB, dig] using World.ownsRow_nil w w.heap.size 5 1, Below.refl _ _⟩
  case round =>
    obtain ⟨j, q, hj, rfl, rfl, hq, hown, hbel⟩ := hrel
    have hqv : q ≤ v := by rw [hq]; exact Nat.div_le_self _ _
    by_cases hlt : j < k
    · obtain ⟨d, hd⟩ : ∃ d : Nat, (q : Int) % 256 = d := ⟨q % 256, rfl⟩
      obtain ⟨q2, hq2⟩ : ∃ d : Nat, (q : Int) / 256 = d := ⟨q / 256, rfl⟩
      have HD : Hid (dig v (j + 1) = dig v j ++ [d]) := by
        show dig v (j + 1) = _
        rw [dig_snoc, ← hq]; congr 2; omega
      have HQ : Hid (q2 = v / 256 ^ (j + 1)) := by
        show q2 = _
        rw [Nat.pow_succ, ← Nat.div_div_eq_div_mul, ← hq]; omega
      have hl : ∀ x ∈ [d], x < 256 := by intro x hx; simp at hx; omega
      have hdl : (dig v j).length = j := dig_length j v
      have hbase := hbel.size
      have HO : Hid (∀ o, OwnB (wr.alloc o) w.heap.size u4 (dig v j)) := fun o => hown.alloc o
      have HL : Hid (BRow (wr.alloc (.cells #[.int .u8 (d : Int)] 5)) (some ⟨wr.heap.size, 0, none⟩) [d]) := lit_row wr [d] hl
      have hsum : (dig v j).length + [d].length ≤ 140737488355328 := by simp; omega
      have hsz : ∀ o, w.heap.size ≤ (wr.alloc o).heap.size := by intro o; simp; omega
      have HB : Hid (∀ o, Below w.heap.size w (wr.alloc o)) := fun o => hbel.alloc hbase o
      have hblk : Hid (∀ g, u4.ownBlock = some g → w.heap.size ≤ g) := fun g hg => (hown.lt g hg).1
      have hlt' : (j : Int) < (k : Int) := by omega
      clear hown hbel hq hdl
      go_wp2_with (at_builtin; refine wpList_append_bytes _ rfl _ _ rfl w.heap.size u4 (dig v j) [d] rfl (HO.out _) (some ⟨wr.heap.size, 0, none⟩) 1 rfl HL.out hsum (hsz _) ?_; intro v' w' g1 g2 _; have G1 : Hid (OwnB w' w.heap.size v' (dig v j ++ [d])) := g1; have G2 : Hid (Below w.heap.size w w') := (HB.out _).grown g2 (hsz _) hblk.out; clear g1 g2)
      go_roundw
      case rel => exact ⟨j + 1, q2, by omega, by go_num, by go_num, HQ.out, by rw [HD.out]; exact G1.out, G2.out⟩
      case measure => simp [intOf]; omega
    · have hjk : j = k := by omega
      subst hjk
      have H : Hid (((q : Int) == 0) = decide (v < 256 ^ j)) := by
        show ((q : Int) == 0) = _
        rw [hq, Bool.eq_iff_iff, beq_iff_eq, decide_eq_true_eq]
        have := @Nat.div_eq_zero_iff v (256 ^ j)
        have hp : 0 < 256 ^ j := Nat.pow_pos (by decide)
        omega
      have HO : Hid _ := hown
      have HB : Hid _ := hbel
      clear hown hbel hq
      go_wp2
      go_ret2
      exact ⟨u4, by rw [← H.out]; rfl, HO.out, HB.out⟩

set_option maxRecDepth 100000 in
set_option maxHeartbeats 1000000 in
theorem uint_short (n k cap : Nat) (ao : Option Addr) (e : Nat → Addr) (w : World) (E : Errs w e) (hk : k = 1 ∨ k = 2 ∨ k = 4 ∨ k = 8) (hn : n < k) :
    Calls Tryz.prog 90 #[.slice ao n cap, .int .i64 k] w fun r w' => r = .returned (.tuple #[.int .u64 0, errV e (some 0)]) ∧ ∃ m, w' = w.drewN m := by
  have hok : okW (k : Int) = true := by rcases hk with rfl | rfl | rfl | rfl <;> rfl
  have HV : Hid _ := validWidth_any k w (by omega) (by omega)
  rw [hok] at HV
  have c0 := E.cell 0 (by omega)
  have hn' : (n : Int) < (k : Int) := by omega
  have hk8 : k ≤ 8 := by omega
  clear E hok hk
  go_enter Tryz.func90, Tryz.ntmps90
  go_wp2_with fail
  refine Calls.mono HV.out ?_
  rintro r w' ⟨rfl, hw⟩
  have hw := hw.symm; subst hw
  go_wp2
  go_quiet (fail)
  go_wp2
  go_ret2
  exact ⟨rfl, _, rfl⟩

set_option maxRecDepth 100000 in
set_option maxHeartbeats 1000000 in
theorem uint_ok (bs : List Nat) (k cap : Nat) (ao : Option Addr) (w : World) (hrow : BRow w ao bs) (hk : k = 1 ∨ k = 2 ∨ k = 4 ∨ k = 8) (hn : k ≤ bs.length) (hlen : bs.length ≤ 9223372036854775807) :
    Calls Tryz.prog 90 #[.slice ao bs.length cap, .int .i64 k] w fun r w' => r = .returned (.tuple #[.int .u64 ((undig (bs.take k) : Nat) : Int), .nilIface]) ∧ w' = w := by
  have hok : okW (k : Int) = true := by rcases hk with rfl | rfl | rfl | rfl <;> rfl
  have HV : Hid _ := validWidth_any k w (by omega) (by omega)
  rw [hok] at HV
  have hn' : ¬ (bs.length : Int) < (k : Int) := by omega
  have hk8 : k ≤ 8 := by omega
  have hk0 : 0 < k := by omega
  obtain ⟨b, o, rfl, hc⟩ := hrow.row (ne_nil_of_lt (i := 0) (by omega))
  have hlt := hrow.lt
  obtain ⟨L, hL⟩ : ∃ L, bs.take k = L := ⟨_, rfl⟩
  have hLl : L.length = k := by rw [← hL]; simp; omega
  have hLd : ∀ j, j < k → bs.getD j 0 = L.getD j 0 := by
    intro j hj
    rw [← hL]
    simp [List.getD_eq_getElem?_getD, hj]
  have hL256 : ∀ x ∈ L, x < 256 := by intro x hx; rw [← hL] at hx; exact hlt x (List.mem_of_mem_take hx)
  rw [hL]
  clear hok hk hL hrow hlt
  go_enter Tryz.func90, Tryz.ntmps90
  go_wp2_with fail
  refine Calls.mono HV.out ?_
  rintro r w' ⟨rfl, hw⟩
  have hw := hw.symm; subst hw
  clear HV
  go_wp2
  go_loop [6, 7] (fun a i => ∃ j : Nat, j ≤ k ∧ i = .int .i64 ((j : Int) - 1) ∧ a = .int .u64 ((undig (L.drop j) : Nat) : Int)) (fun _ i => (intOf i + 1).toNat)
  case atStart => exact ⟨k, Nat.le_refl _, by go_num, by rw [List.drop_of_length_le (by omega)]; rfl⟩
  case round =>
    obtain ⟨j, hj, rfl, rfl⟩ := hrel
    cases j with
    | zero =>
      have hge : ¬ (0 : Int) ≤ ((0 : Nat) : Int) - 1 := by omega
      rw [List.drop_zero]
      go_wp2
      go_ret2
      exact ⟨rfl, rfl⟩
    | succ j =>
      have hcj := hc j (by omega)
      rw [hLd j (by omega)] at hcj
      have hu := undig_drop L j (by omega)
      have hb := undig_lt (L.drop (j + 1)) (fun x hx => hL256 x (List.mem_of_mem_drop hx))
      have hd := hL256 (L.getD j 0) (getD_mem (by omega))
      rw [List.length_drop, hLl] at hb
      have hp : 256 ^ (k - (j + 1)) ≤ 256 ^ 7 := Nat.pow_le_pow_right (by decide) (by omega)
      have hv : undig (L.drop (j + 1)) * 256 < 18446744073709551616 := by
        have : 256 ^ 7 * 256 = 18446744073709551616 := by decide
        omega
      have HU : Hid _ := hu
      clear hu hb hp hc hLd hL256
      generalize undig (L.drop (j + 1)) = u at *
      generalize L.getD j 0 = d at *
      have hor := or_dig u d hv hd
      rw [show (((j + 1 : Nat) : Int) - 1) = (j : Int) by omega]
      have hjb : (j : Int) < (bs.length : Int) := by omega
      have hvi : (u : Int) * 256 < 18446744073709551616 := by omega
      go_wp2
      go_round
      case rel => exact ⟨j, by omega, by go_num, by rw [HU.out]; go_num⟩
      case measure => simp [intOf]
end Go.Proofs.Qxb6500698aGreatDoor
