/-
  ROWS AS FUNCTIONS; THE WALK OF MulAdd.
-/
import Derived.Test.Qxb6500697aDoorKGf
import Derived.Deep.RegionHeld3
import Derived.Deep.RegionWith
namespace Go.Proofs.Qxb6500697aDoor
open Go.RowKit

/-- Block d alone may have been written. -/
structure Only (d : Nat) (w w' : World) : Prop where
  os : w'.os = w.os
  tape : w'.tape = w.tape
  output : w'.output = w.output
  size : w'.heap.size = w.heap.size
  block : ∀ k, k ≠ d → w'.heap[k]? = w.heap[k]?
theorem Only.refl (d : Nat) (w : World) : Only d w w := ⟨rfl, rfl, rfl, rfl, fun _ _ => rfl⟩
theorem Only.setCell {d : Nat} {a w : World} (h : Only d a w) (i : Nat) (u : Value) : Only d a (w.setCell ⟨d, i, none⟩ u) :=
  ⟨h.os, h.tape, h.output, by rw [← h.size]; simp [World.setCell], fun k hk => by rw [← h.block k hk]; simp [World.setCell, Array.getElem?_modify, Ne.symm hk]⟩
theorem Only.drew {d : Nat} {a w : World} (h : Only d a w) : Only d a w.drew := ⟨h.os, h.tape, h.output, h.size, h.block⟩
theorem Only.drewN {d : Nat} {a w : World} (h : Only d a w) (m : Nat) : Only d a (w.drewN m) := ⟨h.os, (drewN_below w m 0).tape.trans h.tape, h.output, h.size, h.block⟩
theorem Only.trans {d : Nat} {a b c : World} (h : Only d a b) (k : Only d b c) : Only d a c := ⟨k.os.trans h.os, k.tape.trans h.tape, k.output.trans h.output, k.size.trans h.size, fun i hi => (k.block i hi).trans (h.block i hi)⟩
theorem Only.below {d B : Nat} {a w : World} (h : Only d a w) (hB : B ≤ d) : Below B a w := ⟨h.os, h.tape, h.output, Nat.le_of_eq h.size.symm, fun k hk => h.block k (by omega)⟩
theorem Only.cell {d : Nat} {a w : World} (h : Only d a w) {b o : Nat} (hb : b ≠ d) : w.cell? ⟨b, o, none⟩ = a.cell? ⟨b, o, none⟩ := by
  simp [World.cell?, h.block b hb]

/-- A row of bytes in a block of its own. -/
def Row (w : World) (g n : Nat) (f : Nat → Nat) : Prop := (∀ i, i < n → f i < 256) ∧ w.rowIs g 5 n (fun i => .int .u8 ((f i : Nat) : Int))

theorem Row.cell {w : World} {g n : Nat} {f : Nat → Nat} (h : Row w g n f) {i : Nat} (hi : i < n) : w.cell? ⟨g, i, none⟩ = some (.int .u8 ((f i : Nat) : Int)) := h.2.cell hi
theorem Row.lt {w : World} {g n : Nat} {f : Nat → Nat} (h : Row w g n f) : g < w.heap.size := h.2.lt
theorem Row.of_block {w w' : World} {g n : Nat} {f : Nat → Nat} (h : Row w g n f) (e : w'.heap[g]? = w.heap[g]?) : Row w' g n f := ⟨h.1, h.2.of_block e⟩
theorem Row.below {w w' : World} {g n : Nat} {f : Nat → Nat} (h : Row w g n f) (hb : Below w.heap.size w w') : Row w' g n f := h.of_block (hb.block g h.lt)
theorem Row.only {w w' : World} {d g n : Nat} {f : Nat → Nat} (h : Row w g n f) (ho : Only d w w') (hne : g ≠ d) : Row w' g n f := h.of_block (ho.block g hne)
theorem Row.congr {w : World} {g n : Nat} {f f' : Nat → Nat} (h : Row w g n f) (e : ∀ i, i < n → f i = f' i) : Row w g n f' :=
  ⟨fun i hi => by rw [← e i hi]; exact h.1 i hi, h.2.congr fun i hi => by rw [e i hi]⟩
theorem Row.set {w : World} {g n : Nat} {f : Nat → Nat} (h : Row w g n f) (i x : Nat) (hx : x < 256) : Row (w.setCell ⟨g, i, none⟩ (.int .u8 (x : Int))) g n (fun j => if j = i then x else f j) := by
  refine ⟨fun j hj => ?_, (h.2.set i _).congr fun j _ => ?_⟩
  · show (if j = i then x else f j) < 256
    split
    · exact hx
    · exact h.1 j hj
  · show (if j = i then _ else _) = Value.int .u8 (((if j = i then x else f j : Nat)) : Int)
    split <;> rfl

/-- Bytes behind a slice, as a function. -/
def FRow (w : World) (ao : Option Addr) (m : Nat) (s : Nat → Nat) : Prop :=
  (∀ i, i < m → s i < 256) ∧ (0 < m → ∃ b o, ao = some ⟨b, o, none⟩ ∧ ∀ i, i < m → w.cell? ⟨b, o + i, none⟩ = some (.int .u8 ((s i : Nat) : Int)))

theorem Row.frow {w : World} {g n : Nat} {f : Nat → Nat} (h : Row w g n f) : FRow w (some ⟨g, 0, none⟩) n f :=
  ⟨h.1, fun _ => ⟨g, 0, rfl, fun i hi => by rw [Nat.zero_add]; exact h.cell hi⟩⟩
theorem FRow.same {w w' : World} {ao : Option Addr} {m : Nat} {s : Nat → Nat} (h : FRow w ao m s) (hs : ∀ b o, ao = some ⟨b, o, none⟩ → b < w.heap.size → w'.heap[b]? = w.heap[b]?) : FRow w' ao m s := by
  refine ⟨h.1, fun h0 => ?_⟩
  obtain ⟨b, o, ha, hc⟩ := h.2 h0
  exact ⟨b, o, ha, fun i hi => (World.cell?_of_block (a := ⟨b, o + i, none⟩) (hs b o ha (cell_lt (hc i hi)))).trans (hc i hi)⟩
theorem FRow.below {w w' : World} {ao : Option Addr} {m : Nat} {s : Nat → Nat} (h : FRow w ao m s) (hb : Below w.heap.size w w') : FRow w' ao m s := h.same fun b _ _ hlt => hb.block b hlt
theorem FRow.only {w w' : World} {d : Nat} {ao : Option Addr} {m : Nat} {s : Nat → Nat} (h : FRow w ao m s) (ho : Only d w w') (hne : 0 < m → ∀ b o, ao = some ⟨b, o, none⟩ → b ≠ d) : FRow w' ao m s := by
  rcases Nat.eq_zero_or_pos m with h0 | h0
  · exact ⟨h.1, fun h1 => by omega⟩
  · exact h.same fun b o ha _ => ho.block b (hne h0 b o ha)

theorem xor8n (a b : Nat) (ha : a < 256) (hb : b < 256) : a ^^^ b < 256 := Nat.xor_lt_two_pow (n := 8) ha hb

/-- What MulAdd leaves. -/
def madd (n m : Nat) (f s : Nat → Nat) (c : Nat) : Nat → Nat := fun i => if i < m ∧ i < n then f i ^^^ gmul c (s i) else f i

set_option maxRecDepth 100000 in
set_option maxHeartbeats 1000000 in
theorem mulAdd_any (g n cap : Nat) (f : Nat → Nat) (so : Option Addr) (m sc : Nat) (s : Nat → Nat) (c : Nat) (w : World) (hd : Row w g n f) (hs : FRow w so m s) (hne : 0 < m → ∀ b o, so = some ⟨b, o, none⟩ → b ≠ g) (hc : c < 256) (hn : n ≤ 65536) (hm : m ≤ 65536) :
    Calls Tryd.prog 67 #[.slice (some ⟨g, 0, none⟩) n cap, .slice so m sc, .int .u8 c] w fun r w' => r = .returned (.tuple #[]) ∧ Row w' g n (madd n m f s c) ∧ Only g w w' := by
  have HD : Hid (Row w g n f) := hd
  have HS : Hid (FRow w so m s) := hs
  clear hd hs
  go_enter Tryd.func67, Tryd.ntmps67
  go_wp2
  go_loopw [6] (fun i wr => ∃ k : Nat, k ≤ n ∧ k ≤ m ∧ i = .int .i64 k ∧ Row wr g n (madd n k f s c) ∧ Only g w wr) (fun i _ => n - (intOf i).toNat)
  case atStart => exact ⟨0, Nat.zero_le _, Nat.zero_le _, rfl, HD.out.congr (fun i _ => by simp [madd]), Only.refl _ _⟩
  case round =>
    obtain ⟨k, hk, hkm, rfl, hrow, ho⟩ := hrel
    by_cases h1 : k < n
    · by_cases h2 : k < m
      · obtain ⟨b, o, rfl, hcs⟩ := HS.out.2 (by omega)
        have hbg := hne (by omega) b o rfl
        have e2 : wr.cell? ⟨b, o + k, none⟩ = some (.int .u8 ((s k : Nat) : Int)) := (ho.cell hbg).trans (hcs k h2)
        have e1 := hrow.cell h1
        have hfk : madd n k f s c k = f k := by simp [madd]
        rw [hfk] at e1
        have hf8 : f k < 256 := HD.out.1 k h1
        have hs8 : s k < 256 := HS.out.1 k h2
        have hg8 := gmul_lt c (s k)
        have hset := (hrow.set k (f k ^^^ gmul c (s k)) (xor8n _ _ hf8 hg8)).congr (f' := madd n (k + 1) f s c) (by
          intro i hi
          show (if i = k then _ else madd n k f s c i) = madd n (k + 1) f s c i
          by_cases e : i = k
          · subst e; simp [madd, h1]
          · simp only [madd, if_neg e]
            by_cases h : i < k
            · simp [h, hi, show i < k + 1 by omega]
            · simp [h, show ¬ i < k + 1 by omega])
        have HR : Hid (Row (wr.setCell ⟨g, k, none⟩ (.int .u8 ((f k ^^^ gmul c (s k) : Nat) : Int))) g n (madd n (k + 1) f s c)) := hset
        have HO : Hid (Only g w (wr.setCell ⟨g, k, none⟩ (.int .u8 ((f k ^^^ gmul c (s k) : Nat) : Int)))) := ho.setCell _ _
        have hfr : wr.frozen? ⟨g, k, none⟩ = false := hrow.2.frozen k
        have hx := u8_xor_nat (f k) (gmul c (s k)) hf8 hg8
        have HM : Hid (∀ W, Calls Tryd.prog 62 #[.int .u8 c, .int .u8 ((s k : Nat) : Int)] W fun r w' => r = .returned (.int .u8 ((gmul c (s k) : Nat) : Int)) ∧ w' = W) := fun W => mul_any c (s k) W hc hs8
        have h1' : (k : Int) < (n : Int) := by omega
        have h2' : (k : Int) < (m : Int) := by omega
        clear hset hrow ho hcs hfk
        generalize f k ^^^ gmul c (s k) = z at *
        generalize gmul c (s k) = y at *
        generalize s k = sk at *
        generalize f k = fk at *
        go_wp2
        go_region_with (go_at_call 62; refine (HM.out _).mono ?_; rintro r w1 ⟨rfl, hw⟩; subst hw)
        all_goals
          go_wp2
          go_roundw
          case rel => exact ⟨k + 1, by omega, by omega, by go_num, HR.out, HO.out.drew⟩
          case measure => simp [intOf]; omega
      · have hkk : k = m := by omega
        subst hkk
        have HR : Hid _ := hrow
        have HO : Hid _ := ho
        clear hrow ho
        have h1' : (k : Int) < (n : Int) := by omega
        go_wp2
        go_end0
        exact ⟨rfl, HR.out, HO.out⟩
    · have hkk : k = n := by omega
      subst hkk
      have HR : Hid (Row wr g k (madd k m f s c)) := hrow.congr (by
        intro i hi
        simp [madd, hi, show i < m by omega])
      have HO : Hid _ := ho
      clear hrow ho
      go_wp2
      go_end0
      exact ⟨rfl, HR.out, HO.out⟩
end Go.Proofs.Qxb6500697aDoor
