/-
  THE WALKS OF AppendU16, AppendU32, AppendU64, AppendUint, Digits, Uint.
-/
import Derived.Test.Qxb6500698aDoorApp
import Derived.Test.Qxb6500698aDoorInts
namespace Go.Proofs.Qxb6500698aDoor
open Go.RowKit

/-- The value v is nil or an own row (its block from base on) that holds bs. -/
def OwnB (w : World) (base : Nat) (v : Value) (bs : List Nat) : Prop := w.ownsRow base 5 1 v bs.length (bs.map fun y => Value.int .u8 ((y : Nat) : Int))

theorem lit_row (w : World) (ds : List Nat) (h : ∀ x ∈ ds, x < 256) : BRow (w.alloc (.cells (ds.map fun y => Value.int .u8 ((y : Nat) : Int)).toArray 5)) (some ⟨w.heap.size, 0, none⟩) ds := by
  refine ⟨h, fun _ => ⟨_, _, rfl, ?_⟩⟩
  intro i hi
  have hb := heap_alloc_new w (.cells (ds.map fun y => Value.int .u8 ((y : Nat) : Int)).toArray 5)
  simp only [World.cell?]
  rw [hb]
  simp [hi, List.getD_eq_getElem?_getD]

theorem OwnB.lt {w : World} {base : Nat} {v : Value} {bs : List Nat} (h : OwnB w base v bs) (g : Nat) (hg : v.ownBlock = some g) : base ≤ g ∧ g < w.heap.size := World.ownsRow.lt h g hg
theorem OwnB.alloc {w : World} {base : Nat} {v : Value} {bs : List Nat} (h : OwnB w base v bs) (o : Obj) : OwnB (w.alloc o) base v bs := World.ownsRow.alloc h o

set_option maxRecDepth 100000 in
set_option maxHeartbeats 1000000 in
theorem appendU16_any (base : Nat) (vd : Value) (bs : List Nat) (v : Nat) (w : World) (hown : OwnB w base vd bs) (hbase : base ≤ w.heap.size) (hlen : bs.length ≤ 1099511627776) (hv : v < 65536) :
    Calls Tryd.prog 19 #[vd, .int .u16 v] w fun r w' => ∃ v', r = .returned v' ∧ OwnB w' base v' (bs ++ dig v 2) ∧ Below base w w' := by
  obtain ⟨d0, h0⟩ : ∃ d : Nat, (v : Int) % 256 = d := ⟨v % 256, rfl⟩
  obtain ⟨d1, h1⟩ : ∃ d : Nat, (v : Int) / 256 = d := ⟨v / 256, rfl⟩
  have HD : Hid (dig v 2 = [d0, d1]) := by
    show dig v 2 = _
    have e0 : v % 256 = d0 := by omega
    have e1 : v / 256 % 256 = d1 := by omega
    simp only [dig, e0, e1]
  have hl : ∀ x ∈ [d0, d1], x < 256 := by intro x hx; simp at hx; omega
  have HO : Hid (∀ o, OwnB (w.alloc o) base vd bs) := fun o => hown.alloc o
  have HL : Hid (BRow (w.alloc (.cells #[.int .u8 (d0 : Int), .int .u8 (d1 : Int)] 5)) (some ⟨w.heap.size, 0, none⟩) [d0, d1]) := lit_row w [d0, d1] hl
  have hsum : bs.length + [d0, d1].length ≤ 140737488355328 := by simp; omega
  have hsz : ∀ o, base ≤ (w.alloc o).heap.size := by intro o; simp; omega
  have HB : Hid (∀ o, Below base w (w.alloc o)) := fun o => (Below.refl _ _).alloc hbase o
  have hblk : Hid (∀ g, vd.ownBlock = some g → base ≤ g) := fun g hg => (hown.lt g hg).1
  clear hown
  go_enter Tryd.func19, Tryd.ntmps19
  go_wp2_with (at_builtin; refine wpList_append_bytes _ rfl _ _ rfl base vd bs [d0, d1] rfl (HO.out _) (some ⟨w.heap.size, 0, none⟩) 2 rfl HL.out hsum (hsz _) ?_; intro v' w' g1 g2 _; have G1 : Hid (OwnB w' base v' (bs ++ [d0, d1])) := g1; have G2 : Hid (Below base w w') := (HB.out _).grown g2 (hsz _) hblk.out; clear g1 g2)
  go_ret
  exact ⟨v', rfl, by rw [HD.out]; exact G1.out, G2.out⟩

set_option maxRecDepth 100000 in
set_option maxHeartbeats 1000000 in
theorem appendU32_any (base : Nat) (vd : Value) (bs : List Nat) (v : Nat) (w : World) (hown : OwnB w base vd bs) (hbase : base ≤ w.heap.size) (hlen : bs.length ≤ 1099511627776) (hv : v < 4294967296) :
    Calls Tryd.prog 20 #[vd, .int .u32 v] w fun r w' => ∃ v', r = .returned v' ∧ OwnB w' base v' (bs ++ dig v 4) ∧ Below base w w' := by
  obtain ⟨d0, h0⟩ : ∃ d : Nat, (v : Int) % 256 = d := ⟨v % 256, rfl⟩
  obtain ⟨d1, h1⟩ : ∃ d : Nat, (v : Int) / 256 % 256 = d := ⟨v / 256 % 256, rfl⟩
  obtain ⟨d2, h2⟩ : ∃ d : Nat, (v : Int) / 65536 % 256 = d := ⟨v / 65536 % 256, rfl⟩
  obtain ⟨d3, h3⟩ : ∃ d : Nat, (v : Int) / 16777216 = d := ⟨v / 16777216, rfl⟩
  have HD : Hid (dig v 4 = [d0, d1, d2, d3]) := by
    show dig v 4 = _
    have e0 : v % 256 = d0 := by omega
    have e1 : v / 256 % 256 = d1 := by omega
    have e2 : v / 65536 % 256 = d2 := by omega
    have e3 : v / 16777216 % 256 = d3 := by omega
    simp only [dig, Nat.div_div_eq_div_mul, Nat.reduceMul, e0, e1, e2, e3]
  have hl : ∀ x ∈ [d0, d1, d2, d3], x < 256 := by intro x hx; simp at hx; omega
  have HO : Hid (∀ o, OwnB (w.alloc o) base vd bs) := fun o => hown.alloc o
  have HL : Hid (BRow (w.alloc (.cells #[.int .u8 (d0 : Int), .int .u8 (d1 : Int), .int .u8 (d2 : Int), .int .u8 (d3 : Int)] 5)) (some ⟨w.heap.size, 0, none⟩) [d0, d1, d2, d3]) := lit_row w [d0, d1, d2, d3] hl
  have hsum : bs.length + [d0, d1, d2, d3].length ≤ 140737488355328 := by simp; omega
  have hsz : ∀ o, base ≤ (w.alloc o).heap.size := by intro o; simp; omega
  have HB : Hid (∀ o, Below base w (w.alloc o)) := fun o => (Below.refl _ _).alloc hbase o
  have hblk : Hid (∀ g, vd.ownBlock = some g → base ≤ g) := fun g hg => (hown.lt g hg).1
  clear hown
  go_enter Tryd.func20, Tryd.ntmps20
  go_wp2_with (at_builtin; refine wpList_append_bytes _ rfl _ _ rfl base vd bs [d0, d1, d2, d3] rfl (HO.out _) (some ⟨w.heap.size, 0, none⟩) 4 rfl HL.out hsum (hsz _) ?_; intro v' w' g1 g2 _; have G1 : Hid (OwnB w' base v' (bs ++ [d0, d1, d2, d3])) := g1; have G2 : Hid (Below base w w') := (HB.out _).grown g2 (hsz _) hblk.out; clear g1 g2)
  go_ret
  exact ⟨v', rfl, by rw [HD.out]; exact G1.out, G2.out⟩

set_option maxRecDepth 100000 in
set_option maxHeartbeats 1000000 in
theorem appendU64_any (base : Nat) (vd : Value) (bs : List Nat) (v : Nat) (w : World) (hown : OwnB w base vd bs) (hbase : base ≤ w.heap.size) (hlen : bs.length ≤ 1099511627776) (hv : v < 18446744073709551616) :
    Calls Tryd.prog 21 #[vd, .int .u64 v] w fun r w' => ∃ v', r = .returned v' ∧ OwnB w' base v' (bs ++ dig v 8) ∧ Below base w w' := by
  obtain ⟨d0, h0⟩ : ∃ d : Nat, (v : Int) % 256 = d := ⟨v % 256, rfl⟩
  obtain ⟨d1, h1⟩ : ∃ d : Nat, (v : Int) / 256 % 256 = d := ⟨v / 256 % 256, rfl⟩
  obtain ⟨d2, h2⟩ : ∃ d : Nat, (v : Int) / 65536 % 256 = d := ⟨v / 65536 % 256, rfl⟩
  obtain ⟨d3, h3⟩ : ∃ d : Nat, (v : Int) / 16777216 % 256 = d := ⟨v / 16777216 % 256, rfl⟩
  obtain ⟨d4, h4⟩ : ∃ d : Nat, (v : Int) / 4294967296 % 256 = d := ⟨v / 4294967296 % 256, rfl⟩
  obtain ⟨d5, h5⟩ : ∃ d : Nat, (v : Int) / 1099511627776 % 256 = d := ⟨v / 1099511627776 % 256, rfl⟩
  obtain ⟨d6, h6⟩ : ∃ d : Nat, (v : Int) / 281474976710656 % 256 = d := ⟨v / 281474976710656 % 256, rfl⟩
  obtain ⟨d7, h7⟩ : ∃ d : Nat, (v : Int) / 72057594037927936 = d := ⟨v / 72057594037927936, rfl⟩
  have HD : Hid (dig v 8 = [d0, d1, d2, d3, d4, d5, d6, d7]) := by
    show dig v 8 = _
    have e0 : v % 256 = d0 := by omega
    have e1 : v / 256 % 256 = d1 := by omega
    have e2 : v / 65536 % 256 = d2 := by omega
    have e3 : v / 16777216 % 256 = d3 := by omega
    have e4 : v / 4294967296 % 256 = d4 := by omega
    have e5 : v / 1099511627776 % 256 = d5 := by omega
    have e6 : v / 281474976710656 % 256 = d6 := by omega
    have e7 : v / 72057594037927936 % 256 = d7 := by omega
    simp only [dig, Nat.div_div_eq_div_mul, Nat.reduceMul, e0, e1, e2, e3, e4, e5, e6, e7]
  have hl : ∀ x ∈ [d0, d1, d2, d3, d4, d5, d6, d7], x < 256 := by intro x hx; simp at hx; omega
  have HO : Hid (∀ o, OwnB (w.alloc o) base vd bs) := fun o => hown.alloc o
  have HL : Hid (BRow (w.alloc (.cells #[.int .u8 (d0 : Int), .int .u8 (d1 : Int), .int .u8 (d2 : Int), .int .u8 (d3 : Int), .int .u8 (d4 : Int), .int .u8 (d5 : Int), .int .u8 (d6 : Int), .int .u8 (d7 : Int)] 5)) (some ⟨w.heap.size, 0, none⟩) [d0, d1, d2, d3, d4, d5, d6, d7]) := lit_row w [d0, d1, d2, d3, d4, d5, d6, d7] hl
  have hsum : bs.length + [d0, d1, d2, d3, d4, d5, d6, d7].length ≤ 140737488355328 := by simp; omega
  have hsz : ∀ o, base ≤ (w.alloc o).heap.size := by intro o; simp; omega
  have HB : Hid (∀ o, Below base w (w.alloc o)) := fun o => (Below.refl _ _).alloc hbase o
  have hblk : Hid (∀ g, vd.ownBlock = some g → base ≤ g) := fun g hg => (hown.lt g hg).1
  clear hown
  go_enter Tryd.func21, Tryd.ntmps21
  go_wp2_with (at_builtin; refine wpList_append_bytes _ rfl _ _ rfl base vd bs [d0, d1, d2, d3, d4, d5, d6, d7] rfl (HO.out _) (some ⟨w.heap.size, 0, none⟩) 8 rfl HL.out hsum (hsz _) ?_; intro v' w' g1 g2 _; have G1 : Hid (OwnB w' base v' (bs ++ [d0, d1, d2, d3, d4, d5, d6, d7])) := g1; have G2 : Hid (Below base w w') := (HB.out _).grown g2 (hsz _) hblk.out; clear g1 g2)
  go_ret
  exact ⟨v', rfl, by rw [HD.out]; exact G1.out, G2.out⟩

end Go.Proofs.Qxb6500698aDoor
