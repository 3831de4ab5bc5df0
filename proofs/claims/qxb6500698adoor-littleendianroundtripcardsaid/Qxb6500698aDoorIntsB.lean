/-
  THE WALKS OF AppendUint, Digits, Uint.
-/
import Derived.Test.Qxb6500698aDoorIntsA
namespace Go.Proofs.Qxb6500698aDoor
open Go.RowKit

/-- What AppendUint leaves. -/
def encB (bs : List Nat) (v : Nat) (n : Int) : List Nat := if cf v n = none then bs ++ dig v n.toNat else bs

set_option maxRecDepth 100000 in
set_option maxHeartbeats 1000000 in
theorem appendUint_any (base : Nat) (vd : Value) (bs : List Nat) (v : Nat) (n : Int) (e : Nat → Addr) (w : World) (E : Errs w e) (hown : OwnB w base vd bs) (hbase : base ≤ w.heap.size) (hlen : bs.length ≤ 1099511627776)
    (h1 : -9223372036854775808 ≤ n) (h2 : n ≤ 9223372036854775807) (hv : v < 18446744073709551616) :
    Calls Tryd.prog 6 #[vd, .int .u64 v, .int .i64 n] w fun r w' => ∃ v', r = .returned (.tuple #[v', errV e (cf v n)]) ∧ OwnB w' base v' (encB bs v n) ∧ Below base w w' := by
  have hI : Tryd.prog.isIface 30 = true := by kernel_rfl
  have HC : Hid _ := checkField_any v n e w E h1 h2 hv
  have HO : Hid (OwnB w base vd bs) := hown
  have hvi : (v : Int) < 18446744073709551616 := by omega
  cases hc : cf v n with
  | some i =>
    rw [hc] at HC
    have HE : Hid (encB bs v n = bs) := by show encB bs v n = bs; unfold encB; rw [hc]; rfl
    have HX : Hid (errV e (some i) = .iface 89 (.pointer (some (e i)))) := rfl
    rw [HX.out] at HC ⊢
    clear E hown hc
    go_enter Tryd.func6, Tryd.ntmps6
    go_wp2_with fail
    refine Calls.mono HC.out ?_
    rintro r w' ⟨rfl, hw⟩
    have hw := hw.symm; subst hw
    go_wp2
    go_ret2
    exact ⟨vd, rfl, by rw [HE.out]; exact HO.out, Below.refl _ _⟩
  | none =>
    rw [hc] at HC
    have HX : Hid (errV e none = .nilIface) := rfl
    rw [HX.out] at HC ⊢
    have ho : okW n = true := by
      cases h : okW n with
      | true => rfl
      | false => unfold cf at hc; rw [h] at hc; cases hc
    have hlt : v < 256 ^ n.toNat := by
      unfold cf at hc
      rw [ho, if_pos rfl] at hc
      split at hc
      · assumption
      · cases hc
    have HE : Hid (encB bs v n = bs ++ dig v n.toNat) := by show encB bs v n = _; unfold encB; rw [hc]; rfl
    obtain ⟨k, rfl, hk⟩ := okW_nat ho
    rw [Int.toNat_natCast] at hlt HE
    clear E hc ho
    rcases hk with rfl | rfl | rfl | rfl
    · rw [show (((1 : Nat) : Int)) = 1 from rfl] at HC
      have HD : Hid (dig v 1 = [v]) := by show dig v 1 = _; simp only [dig]; congr 1; omega
      have hl : ∀ x ∈ [v], x < 256 := by intro x hx; simp at hx; omega
      have HOA : Hid (∀ o, OwnB (w.alloc o) base vd bs) := fun o => hown.alloc o
      have HL : Hid (BRow (w.alloc (.cells #[.int .u8 (v : Int)] 5)) (some ⟨w.heap.size, 0, none⟩) [v]) := lit_row w [v] hl
      have hsum : bs.length + [v].length ≤ 140737488355328 := by simp; omega
      have hsz : ∀ o, base ≤ (w.alloc o).heap.size := by intro o; simp; omega
      have HB : Hid (∀ o, Below base w (w.alloc o)) := fun o => (Below.refl _ _).alloc hbase o
      have hblk : Hid (∀ g, vd.ownBlock = some g → base ≤ g) := fun g hg => (hown.lt g hg).1
      have hlti : (v : Int) < 256 := by omega
      clear hown hlt
      go_enter Tryd.func6, Tryd.ntmps6
      go_wp2_with fail
      refine Calls.mono HC.out ?_
      rintro r w' ⟨rfl, hw⟩
      have hw := hw.symm; subst hw
      go_wp2_with (at_builtin; refine wpList_append_bytes _ rfl _ _ rfl base vd bs [v] rfl (HOA.out _) (some ⟨w.heap.size, 0, none⟩) 1 rfl HL.out hsum (hsz _) ?_; intro v' w' g1 g2 _; have G1 : Hid (OwnB w' base v' (bs ++ [v])) := g1; have G2 : Hid (Below base w w') := (HB.out _).grown g2 (hsz _) hblk.out; clear g1 g2)
      go_ret2
      exact ⟨v', rfl, by rw [HE.out, HD.out]; exact G1.out, G2.out⟩
    · rw [show (((2 : Nat) : Int)) = 2 from rfl] at HC
      have HA : Hid _ := appendU16_any base vd bs v w hown hbase hlen (by omega)
      have hlti : (v : Int) < 65536 := by omega
      clear hown hlt
      go_enter Tryd.func6, Tryd.ntmps6
      go_wp2_with fail
      refine Calls.mono HC.out ?_
      rintro r w' ⟨rfl, hw⟩
      have hw := hw.symm; subst hw
      go_wp2_with fail
      refine Calls.mono HA.out ?_
      rintro r w' ⟨v', rfl, g1, g2⟩
      go_wp2
      go_ret2
      exact ⟨v', rfl, by rw [HE.out]; exact g1, g2⟩
    · rw [show (((4 : Nat) : Int)) = 4 from rfl] at HC
      have HA : Hid _ := appendU32_any base vd bs v w hown hbase hlen (by omega)
      have hlti : (v : Int) < 4294967296 := by omega
      clear hown hlt
      go_enter Tryd.func6, Tryd.ntmps6
      go_wp2_with fail
      refine Calls.mono HC.out ?_
      rintro r w' ⟨rfl, hw⟩
      have hw := hw.symm; subst hw
      go_wp2_with fail
      refine Calls.mono HA.out ?_
      rintro r w' ⟨v', rfl, g1, g2⟩
      go_wp2
      go_ret2
      exact ⟨v', rfl, by rw [HE.out]; exact g1, g2⟩
    · rw [show (((8 : Nat) : Int)) = 8 from rfl] at HC
      have HA : Hid _ := appendU64_any base vd bs v w hown hbase hlen (by omega)
      clear hown hlt
      go_enter Tryd.func6, Tryd.ntmps6
      go_wp2_with fail
      refine Calls.mono HC.out ?_
      rintro r w' ⟨rfl, hw⟩
      have hw := hw.symm; subst hw
      go_wp2_with fail
      refine Calls.mono HA.out ?_
      rintro r w' ⟨v', rfl, g1, g2⟩
      go_wp2
      go_ret2
      exact ⟨v', rfl, by rw [HE.out]; exact g1, g2⟩

end Go.Proofs.Qxb6500698aDoor
