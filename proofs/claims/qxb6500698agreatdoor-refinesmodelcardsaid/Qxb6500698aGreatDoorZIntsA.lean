/-
  THE WALKS OF AppendU16, AppendU32, AppendU64, AppendUint, Digits, Uint.
-/
import Derived.Test.Qxb6500698aGreatDoorApp
import Derived.Test.Qxb6500698aGreatDoorInts
import Derived.Test.Qxb6500698aGreatDoorZChg
namespace Go.Proofs.Qxb6500698aGreatDoor
open Go.RowKit

/-- The value v is nil or an own row (its block from base on) that holds bs. -/
def OwnB (w : World) (base : Nat) (v : Value) (bs : List Nat) : Prop := w.ownsRow base 5 1 v bs.length (bs.map fun y => Value.int .u8 ((y : Nat) : Int))

theorem lit_row (w : World) (ds : List Nat) (h : ∀ x ∈ ds, x < 256) : BRow (w.alloc (.cells (ds.map fun y => Value.int .u8 ((y : Nat) : Int)).toArray 5)) (some ⟨w.heap.size, 0, none⟩) ds := by
  refine ⟨h, fun _ => ⟨_, _, rfl, ?_⟩⟩
  intro i hi
  have hb := heap_alloc_new w (.cells (ds.map fun y => Value.int .u8 ((y : Nat) : Int)).toArray 5)
  simp only [World.cell?]
  rw [hb]
  simp [hi, List.getD_eq_getElem?_getD]

theorem OwnB.lt {w : World} {base : Nat} {v : Value} {bs : List Nat} (h : OwnB w base v bs) (g : Nat) (hg : v.ownBlock = some g) : base ≤ g ∧ g < w.heap.size := World.ownsRow.lt h g hg
theorem OwnB.alloc {w : World} {base : Nat} {v : Value} {bs : List Nat} (h : OwnB w base v bs) (o : Obj) : OwnB (w.alloc o) base v bs := World.ownsRow.alloc h o

set_option maxRecDepth 100000 in
set_option maxHeartbeats 1000000 in
theorem appendU16_any (base : Nat) (vd : Value) (bs : List Nat) (v : Nat) (w : World) (hown : OwnB w base vd bs) (hbase : base ≤ w.heap.size) (hlen : bs.length ≤ 1099511627776) (hv : v < 65536) :
    Calls Tryz.prog 85 #[vd, .int .u16 v] w fun r w' => ∃ v', r = .returned v' ∧ OwnB w' base v' (bs ++ dig v 2) ∧ Gr vd v' w w' := by
  obtain ⟨d0, h0⟩ : ∃ d : Nat, (v : Int) % 256 = d := ⟨v % 256, rfl⟩
  obtain ⟨d1, h1⟩ : ∃ d : Nat, (v : Int) / 256 = d := ⟨v / 256, rfl⟩
  have HD : Hid (dig v 2 = [d0, d1]) := by
    show dig v 2 = _
    have e0 : v % 256 = d0 := by omega
    have e1 : v / 256 % 256 = d1 := by omega
    simp only [dig, e0, e1]
  have hl : ∀ x ∈ [d0, d1], x < 256 := by intro x hx; simp at hx; omega
  have HO : Hid (∀ o, OwnB (w.alloc o) base vd bs) := fun o => hown.alloc o
  have HL : Hid (BRow (w.alloc (.cells #[.int .u8 (d0 : Int), .int .u8 (d1 : Int)] 5)) (some ⟨w.heap.size, 0, none⟩) [d0, d1]) := lit_row w [d0, d1] hl
  have hsum : bs.length + [d0, d1].length ≤ 140737488355328 := by simp; omega
  have hsz : ∀ o, base ≤ (w.alloc o).heap.size := by intro o; simp; omega
  have HB : Hid (∀ o, Below base w (w.alloc o)) := fun o => (Below.refl _ _).alloc hbase o
  have hblk : Hid (∀ g, vd.ownBlock = some g → base ≤ g) := fun g hg => (hown.lt g hg).1
  clear hown
  go_enter Tryz.func85, Tryz.ntmps85
  go_wp2_with (at_builtin; refine wpList_append_bytes _ rfl _ _ rfl base vd bs [d0, d1] rfl (HO.out _) (some ⟨w.heap.size, 0, none⟩) 2 rfl HL.out hsum (hsz _) ?_; intro v' w' g1 g2 g3; have G1 : Hid (OwnB w' base v' (bs ++ [d0, d1])) := g1; have G2 : Hid (Gr vd v' w w') := Gr.mk1 g2 g3; clear g1 g2 g3)
  go_ret
  exact ⟨v', rfl, by rw [HD.out]; exact G1.out, G2.out⟩

set_option maxRecDepth 100000 in
set_option maxHeartbeats 1000000 in
theorem appendU32_any (base : Nat) (vd : Value) (bs : List Nat) (v : Nat) (w : World) (hown : OwnB w base vd bs) (hbase : base ≤ w.heap.size) (hlen : bs.length ≤ 1099511627776) (hv : v < 4294967296) :
    Calls Tryz.prog 86 #[vd, .int .u32 v] w fun r w' => ∃ v', r = .returned v' ∧ OwnB w' base v' (bs ++ dig v 4) ∧ Gr vd v' w w' := by
  obtain ⟨d0, h0⟩ : ∃ d : Nat, (v : Int) % 256 = d := ⟨v % 256, rfl⟩
  obtain ⟨d1, h1⟩ : ∃ d : Nat, (v : Int) / 256 % 256 = d := ⟨v / 256 % 256, rfl⟩
  obtain ⟨d2, h2⟩ : ∃ d : Nat, (v : Int) / 65536 % 256 = d := ⟨v / 65536 % 256, rfl⟩
  obtain ⟨d3, h3⟩ : ∃ d : Nat, (v : Int) / 16777216 = d := ⟨v / 16777216, rfl⟩
  have HD : Hid (dig v 4 = [d0, d1, d2, d3]) := by
    show dig v 4 = _
    have e0 : v % 256 = d0 := by omega
    have e1 : v / 256 % 256 = d1 := by omega
    have e2 : v / 65536 % 256 = d2 := by omega
    have e3 : v / 16777216 % 256 = d3 := by omega
    simp only [dig, Nat.div_div_eq_div_mul, Nat.reduceMul, e0, e1, e2, e3]
  have hl : ∀ x ∈ [d0, d1, d2, d3], x < 256 := by intro x hx; simp at hx; omega
  have HO : Hid (∀ o, OwnB (w.alloc o) base vd bs) := fun o => hown.alloc o
  have HL : Hid (BRow (w.alloc (.cells #[.int .u8 (d0 : Int), .int .u8 (d1 : Int), .int .u8 (d2 : Int), .int .u8 (d3 : Int)] 5)) (some ⟨w.heap.size, 0, none⟩) [d0, d1, d2, d3]) := lit_row w [d0, d1, d2, d3] hl
  have hsum : bs.length + [d0, d1, d2, d3].length ≤ 140737488355328 := by simp; omega
  have hsz : ∀ o, base ≤ (w.alloc o).heap.size := by intro o; simp; omega
  have HB : Hid (∀ o, Below base w (w.alloc o)) := fun o => (Below.refl _ _).alloc hbase o
  have hblk : Hid (∀ g, vd.ownBlock = some g → base ≤ g) := fun g hg => (hown.lt g hg).1
  clear hown
  go_enter Tryz.func86, Tryz.ntmps86
  go_wp2_with (at_builtin; refine wpList_append_bytes _ rfl _ _ rfl base vd bs [d0, d1, d2, d3] rfl (HO.out _) (some ⟨w.heap.size, 0, none⟩) 4 rfl HL.out hsum (hsz _) ?_; intro v' w' g1 g2 g3; have G1 : Hid (OwnB w' base v' (bs ++ [d0, d1, d2, d3])) := g1; have G2 : Hid (Gr vd v' w w') := Gr.mk1 g2 g3; clear g1 g2 g3)
  go_ret
  exact ⟨v', rfl, by rw [HD.out]; exact G1.out, G2.out⟩

set_option maxRecDepth 100000 in
set_option maxHeartbeats 1000000 in
theorem appendU64_any (base : Nat) (vd : Value) (bs : List Nat) (v : Nat) (w : World) (hown : OwnB w base vd bs) (hbase : base ≤ w.heap.size) (hlen : bs.length ≤ 1099511627776) (hv : v < 18446744073709551616) :
    Calls Tryz.prog 87 #[vd, .int .u64 v] w fun r w' => ∃ v', r = .returned v' ∧ OwnB w' base v' (bs ++ dig v 8) ∧ Gr vd v' w w' := by
  obtain ⟨d0, h0⟩ : ∃ d : Nat, (v : Int) % 256 = d := ⟨v % 256, rfl⟩
  obtain ⟨d1, h1⟩ : ∃ d : Nat, (v : Int) / 256 % 256 = d := ⟨v / 256 % 256, rfl⟩
  obtain ⟨d2, h2⟩ : ∃ d : Nat, (v : Int) / 65536 % 256 = d := ⟨v / 65536 % 256, rfl⟩
  obtain ⟨d3, h3⟩ : ∃ d : Nat, (v : Int) / 16777216 % 256 = d := ⟨v / 16777216 % 256, rfl⟩
  obtain ⟨d4, h4⟩ : ∃ d : Nat, (v : Int) / 4294967296 % 256 = d := ⟨v / 4294967296 % 256, rfl⟩
  obtain ⟨d5, h5⟩ : ∃ d : Nat, (v : Int) / 1099511627776 % 256 = d := ⟨v / 1099511627776 % 256, rfl⟩
  obtain ⟨d6, h6⟩ : ∃ d : Nat, (v : Int) / 281474976710656 % 256 = d := ⟨v / 281474976710656 % 256, rfl⟩
  obtain ⟨d7, h7⟩ : ∃ d : Nat, (v : Int) / 72057594037927936 = d := ⟨v / 72057594037927936, rfl⟩
  have HD : Hid (dig v 8 = [d0, d1, d2, d3, d4, d5, d6, d7]) := by
    show dig v 8 = _
    have e0 : v % 256 = d0 := by omega
    have e1 : v / 256 % 256 = d1 := by omega
    have e2 : v / 65536 % 256 = d2 := by omega
    have e3 : v / 16777216 % 256 = d3 := by omega
    have e4 : v / 4294967296 % 256 = d4 := by omega
    have e5 : v / 1099511627776 % 256 = d5 := by omega
    have e6 : v / 281474976710656 % 256 = d6 := by omega
    have e7 : v / 72057594037927936 % 256 = d7 := by omega
    simp only [dig, Nat.div_div_eq_div_mul, Nat.reduceMul, e0, e1, e2, e3, e4, e5, e6, e7]
  have hl : ∀ x ∈ [d0, d1, d2, d3, d4, d5, d6, d7], x < 256 := by intro x hx; simp at hx; omega
  have HO : Hid (∀ o, OwnB (w.alloc o) base vd bs) := fun o => hown.alloc o
  have HL : Hid (BRow (w.alloc (.cells #[.int .u8 (d0 : Int), .int .u8 (d1 : Int), .int .u8 (d2 : Int), .int .u8 (d3 : Int), .int .u8 (d4 : Int), .int .u8 (d5 : Int), .int .u8 (d6 : Int), .int .u8 (d7 : Int)] 5)) (some ⟨w.heap.size, 0, none⟩) [d0, d1, d2, d3, d4, d5, d6, d7]) := lit_row w [d0, d1, d2, d3, d4, d5, d6, d7] hl
  have hsum : bs.length + [d0, d1, d2, d3, d4, d5, d6, d7].length ≤ 140737488355328 := by simp; omega
  have hsz : ∀ o, base ≤ (w.alloc o).heap.size := by intro o; simp; omega
  have HB : Hid (∀ o, Below base w (w.alloc o)) := fun o => (Below.refl _ _).alloc hbase o
  have hblk : Hid (∀ g, vd.ownBlock = some g → base ≤ g) := fun g hg => (hown.lt g hg).1
  clear hown
  go_enter Tryz.func87, Tryz.ntmps87
  go_wp2_with (at_builtin; refine wpList_append_bytes _ rfl _ _ rfl base vd bs [d0, d1, d2, d3, d4, d5, d6, d7] rfl (HO.out _) (some ⟨w.heap.size, 0, none⟩) 8 rfl HL.out hsum (hsz _) ?_; intro v' w' g1 g2 g3; have G1 : Hid (OwnB w' base v' (bs ++ [d0, d1, d2, d3, d4, d5, d6, d7])) := g1; have G2 : Hid (Gr vd v' w w') := Gr.mk1 g2 g3; clear g1 g2 g3)
  go_ret
  exact ⟨v', rfl, by rw [HD.out]; exact G1.out, G2.out⟩

/-- What AppendUint leaves. -/
def encB (bs : List Nat) (v : Nat) (n : Int) : List Nat := if cf v n = none then bs ++ dig v n.toNat else bs

set_option maxRecDepth 100000 in
set_option maxHeartbeats 1000000 in
theorem appendUint_any (base : Nat) (vd : Value) (bs : List Nat) (v : Nat) (n : Int) (e : Nat → Addr) (w : World) (E : Errs w e) (hown : OwnB w base vd bs) (hbase : base ≤ w.heap.size) (hlen : bs.length ≤ 1099511627776)
    (h1 : -9223372036854775808 ≤ n) (h2 : n ≤ 9223372036854775807) (hv : v < 18446744073709551616) :
    Calls Tryz.prog 84 #[vd, .int .u64 v, .int .i64 n] w fun r w' => ∃ v', r = .returned (.tuple #[v', errV e (cf v n)]) ∧ OwnB w' base v' (encB bs v n) ∧ Gr vd v' w w' := by
  have hI : Tryz.prog.isIface 71 = true := by kernel_rfl
  have HC : Hid _ := checkField_any v n e w E h1 h2 hv
  have HO : Hid (OwnB w base vd bs) := hown
  have hvi : (v : Int) < 18446744073709551616 := by omega
  cases hc : cf v n with
  | some i =>
    rw [hc] at HC
    have HE : Hid (encB bs v n = bs) := by show encB bs v n = bs; unfold encB; rw [hc]; rfl
    have HX : Hid (errV e (some i) = .iface 146 (.pointer (some (e i)))) := rfl
    rw [HX.out] at HC ⊢
    clear E hown hc
    go_enter Tryz.func84, Tryz.ntmps84
    go_wp2_with fail
    refine Calls.mono HC.out ?_
    rintro r w' ⟨rfl, hw⟩
    have hw := hw.symm; subst hw
    go_wp2
    go_ret2
    exact ⟨vd, rfl, by rw [HE.out]; exact HO.out, Gr.refl _ _⟩
  | none =>
    rw [hc] at HC
    have HX : Hid (errV e none = .nilIface) := rfl
    rw [HX.out] at HC ⊢
    have ho : okW n = true := by
      cases h : okW n with
      | true => rfl
      | false => unfold cf at hc; rw [h] at hc; cases hc
    have hlt : v < 256 ^ n.toNat := by
      unfold cf at hc
      rw [ho, if_pos rfl] at hc
      split at hc
      · assumption
      · cases hc
    have HE : Hid (encB bs v n = bs ++ dig v n.toNat) := by show encB bs v n = _; unfold encB; rw [hc]; rfl
    obtain ⟨k, rfl, hk⟩ := okW_nat ho
    rw [Int.toNat_natCast] at hlt HE
    clear E hc ho
    rcases hk with rfl | rfl | rfl | rfl
    · rw [show (((1 : Nat) : Int)) = 1 from rfl] at HC
      have HD : Hid (dig v 1 = [v]) := by show dig v 1 = _; simp only [dig]; congr 1; omega
      have hl : ∀ x ∈ [v], x < 256 := by intro x hx; simp at hx; omega
      have HOA : Hid (∀ o, OwnB (w.alloc o) base vd bs) := fun o => hown.alloc o
      have HL : Hid (BRow (w.alloc (.cells #[.int .u8 (v : Int)] 5)) (some ⟨w.heap.size, 0, none⟩) [v]) := lit_row w [v] hl
      have hsum : bs.length + [v].length ≤ 140737488355328 := by simp; omega
      have hsz : ∀ o, base ≤ (w.alloc o).heap.size := by intro o; simp; omega
      have HB : Hid (∀ o, Below base w (w.alloc o)) := fun o => (Below.refl _ _).alloc hbase o
      have hblk : Hid (∀ g, vd.ownBlock = some g → base ≤ g) := fun g hg => (hown.lt g hg).1
      have hlti : (v : Int) < 256 := by omega
      clear hown hlt
      go_enter Tryz.func84, Tryz.ntmps84
      go_wp2_with fail
      refine Calls.mono HC.out ?_
      rintro r w' ⟨rfl, hw⟩
      have hw := hw.symm; subst hw
      go_wp2_with (at_builtin; refine wpList_append_bytes _ rfl _ _ rfl base vd bs [v] rfl (HOA.out _) (some ⟨w.heap.size, 0, none⟩) 1 rfl HL.out hsum (hsz _) ?_; intro v' w' g1 g2 g3; have G1 : Hid (OwnB w' base v' (bs ++ [v])) := g1; have G2 : Hid (Gr vd v' w w') := Gr.mk1 g2 g3; clear g1 g2 g3)
      go_ret2
      exact ⟨v', rfl, by rw [HE.out, HD.out]; exact G1.out, G2.out⟩
    · rw [show (((2 : Nat) : Int)) = 2 from rfl] at HC
      have HA : Hid _ := appendU16_any base vd bs v w hown hbase hlen (by omega)
      have hlti : (v : Int) < 65536 := by omega
      clear hown hlt
      go_enter Tryz.func84, Tryz.ntmps84
      go_wp2_with fail
      refine Calls.mono HC.out ?_
      rintro r w' ⟨rfl, hw⟩
      have hw := hw.symm; subst hw
      go_wp2_with fail
      refine Calls.mono HA.out ?_
      rintro r w' ⟨v', rfl, g1, g2⟩
      go_wp2
      go_ret2
      exact ⟨v', rfl, by rw [HE.out]; exact g1, g2⟩
    · rw [show (((4 : Nat) : Int)) = 4 from rfl] at HC
      have HA : Hid _ := appendU32_any base vd bs v w hown hbase hlen (by omega)
      have hlti : (v : Int) < 4294967296 := by omega
      clear hown hlt
      go_enter Tryz.func84, Tryz.ntmps84
      go_wp2_with fail
      refine Calls.mono HC.out ?_
      rintro r w' ⟨rfl, hw⟩
      have hw := hw.symm; subst hw
      go_wp2_with fail
      refine Calls.mono HA.out ?_
      rintro r w' ⟨v', rfl, g1, g2⟩
      go_wp2
      go_ret2
      exact ⟨v', rfl, by rw [HE.out]; exact g1, g2⟩
    · rw [show (((8 : Nat) : Int)) = 8 from rfl] at HC
      have HA : Hid _ := appendU64_any base vd bs v w hown hbase hlen (by omega)
      clear hown hlt
      go_enter Tryz.func84, Tryz.ntmps84
      go_wp2_with fail
      refine Calls.mono HC.out ?_
      rintro r w' ⟨rfl, hw⟩
      have hw := hw.symm; subst hw
      go_wp2_with fail
      refine Calls.mono HA.out ?_
      rintro r w' ⟨v', rfl, g1, g2⟩
      go_wp2
      go_ret2
      exact ⟨v', rfl, by rw [HE.out]; exact g1, g2⟩

end Go.Proofs.Qxb6500698aGreatDoor

