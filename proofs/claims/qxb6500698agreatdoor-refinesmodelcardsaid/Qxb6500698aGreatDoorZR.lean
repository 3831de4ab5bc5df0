/-
  THE WALKS OF THE READER: next.
-/
import Derived.Test.Qxb6500698aGreatDoorZWr2
namespace Go.Proofs.Qxb6500698aGreatDoor
open Go.RowKit

/-- The reader in block b. -/
def RdAt (w : World) (b : Nat) (ao : Option Addr) (n cap off : Nat) (x : Value) : Prop := w.heap[b]? = some (.cells #[.slice ao n cap, .int .i64 (off : Int), x] 92 (0, 0))
section
variable {w : World} {b n cap off : Nat} {ao : Option Addr} {x : Value}
theorem RdAt.c0 (h : RdAt w b ao n cap off x) : w.cell? ⟨b, 0, none⟩ = some (.slice ao n cap) := by unfold RdAt at h; simp [World.cell?, h]
theorem RdAt.c1 (h : RdAt w b ao n cap off x) : w.cell? ⟨b, 1, none⟩ = some (.int .i64 (off : Int)) := by unfold RdAt at h; simp [World.cell?, h]
theorem RdAt.c2 (h : RdAt w b ao n cap off x) : w.cell? ⟨b, 2, none⟩ = some x := by unfold RdAt at h; simp [World.cell?, h]
theorem RdAt.fr (h : RdAt w b ao n cap off x) (i : Nat) : w.frozen? ⟨b, i, none⟩ = false := by unfold RdAt at h; simp [World.frozen?, h]
theorem RdAt.lt (h : RdAt w b ao n cap off x) : b < w.heap.size := heap_lt h
theorem RdAt.of_block {w' : World} (h : RdAt w b ao n cap off x) (e : w'.heap[b]? = w.heap[b]?) : RdAt w' b ao n cap off x := e.trans h
theorem RdAt.set1 (h : RdAt w b ao n cap off x) (k : Nat) : RdAt (w.setCell ⟨b, 1, none⟩ (.int .i64 (k : Int))) b ao n cap k x := by unfold RdAt at *; simp [World.setCell, Array.getElem?_modify, h]
theorem RdAt.set2 (h : RdAt w b ao n cap off x) (u : Value) : RdAt (w.setCell ⟨b, 2, none⟩ u) b ao n cap off u := by unfold RdAt at *; simp [World.setCell, Array.getElem?_modify, h]
theorem RdAt.drewN (h : RdAt w b ao n cap off x) (m : Nat) : RdAt (w.drewN m) b ao n cap off x := h
end

/-- The reader and what it reads. -/
structure RdS (B : Nat) (w : World) (e : Nat → Addr) (rb : Nat) (ao : Option Addr) (bs : List Nat) (cap off : Nat) (ie : Option Nat) : Prop where
  at_ : RdAt w rb ao bs.length cap off (errV e ie)
  row : BRow w ao bs
  hoff : off ≤ bs.length
  cap1 : bs.length ≤ cap
  cap2 : cap ≤ 9223372036854775807
  len : bs.length ≤ 65536
  ie6 : ∀ i, ie = some i → i < 6
  ne : bs ≠ [] → ∀ b o, ao = some ⟨b, o, none⟩ → b ≠ rb
  hB : B ≤ rb
section
variable {B : Nat} {w w' : World} {e : Nat → Addr} {rb : Nat} {ao : Option Addr} {bs : List Nat} {cap off : Nat} {ie : Option Nat}
theorem RdS.err (h : RdS B w e rb ao bs cap off ie) (i : Option Nat) (hi : ∀ j, i = some j → j < 6) : RdS B (w.setCell ⟨rb, 2, none⟩ (errV e i)) e rb ao bs cap off i ∧ Only rb w (w.setCell ⟨rb, 2, none⟩ (errV e i)) := by
  have hO : Only rb w (w.setCell ⟨rb, 2, none⟩ (errV e i)) := (Only.refl _ _).setCell _ _
  exact ⟨{ h with at_ := h.at_.set2 _, row := h.row.only hO h.ne, ie6 := hi }, hO⟩
theorem RdS.drewN (h : RdS B w e rb ao bs cap off ie) (m : Nat) : RdS B (w.drewN m) e rb ao bs cap off ie := { h with at_ := h.at_.drewN m, row := h.row.drewN m }
theorem RdS.move (h : RdS B w e rb ao bs cap off ie) {k : Nat} (hk : k ≤ bs.length) : RdS B (w.setCell ⟨rb, 1, none⟩ (.int .i64 (k : Int))) e rb ao bs cap k ie ∧ Only rb w (w.setCell ⟨rb, 1, none⟩ (.int .i64 (k : Int))) := by
  have hO : Only rb w (w.setCell ⟨rb, 1, none⟩ (.int .i64 (k : Int))) := (Only.refl _ _).setCell _ _
  exact ⟨{ h with at_ := h.at_.set1 k, row := h.row.only hO h.ne, hoff := hk }, hO⟩
theorem RdS.keep (h : RdS B w e rb ao bs cap off ie) (e1 : w'.heap[rb]? = w.heap[rb]?) (e2 : BRow w' ao bs) : RdS B w' e rb ao bs cap off ie := { h with at_ := h.at_.of_block e1, row := e2 }
end

/-- What next gives: bytes, the new offset, the refusal. -/
def znext (bs : List Nat) (off : Nat) (ie : Option Nat) (n : Int) : List Nat × Nat × Option Nat :=
  if ie = none then (if n < 0 then ([], off, some 2) else if ((bs.length - off : Nat) : Int) < n then ([], off, some 0) else ((bs.drop off).take n.toNat, off + n.toNat, none)) else ([], off, ie)
/-- What a method of the reader that hands out bytes leaves. -/
def RdPost (B : Nat) (w : World) (e : Nat → Addr) (rb : Nat) (ao : Option Addr) (bs : List Nat) (cap : Nat) (n : Int) (z : List Nat × Nat × Option Nat) (r : Ending) (w' : World) : Prop :=
  ∃ a c, r = .returned (.slice a z.1.length c) ∧ (0 < n → z.1 = [] → a = none) ∧ BRow w' a z.1 ∧ z.1.length ≤ c ∧ c ≤ 9223372036854775807 ∧ (z.1 ≠ [] → ∀ b o, a = some ⟨b, o, none⟩ → ∃ o', ao = some ⟨b, o', none⟩ ∧ bs ≠ []) ∧ (a = none → z.1 = []) ∧ RdS B w' e rb ao bs cap z.2.1 z.2.2 ∧ Only rb w w'

section
variable {B : Nat} {w : World} {e : Nat → Addr} {rb : Nat} {ao : Option Addr} {bs : List Nat} {cap off : Nat} {ie : Option Nat}
theorem RdPost.nil {n : Int} {k : Nat} {i : Option Nat} {w' : World} (h : RdS B w' e rb ao bs cap k i) (hO : Only rb w w') : RdPost B w e rb ao bs cap n ([], k, i) (.returned (.slice none 0 0)) w' :=
  ⟨none, 0, rfl, fun _ _ => rfl, BRow.nil _ _, Nat.le_refl _, by omega, fun h0 => absurd rfl h0, fun _ => rfl, h, hO⟩

set_option maxRecDepth 100000 in
set_option maxHeartbeats 2000000 in
theorem next_any (n : Int) (_hn1 : -9223372036854775808 ≤ n) (_hn2 : n ≤ 9223372036854775807) (E : Errs w e) (h : RdS B w e rb ao bs cap off ie) :
    Calls Tryz.prog 75 #[.pointer (some ⟨rb, 0, none⟩), .int .i64 n] w (RdPost B w e rb ao bs cap n (znext bs off ie n)) := by
  have hI : Tryz.prog.isIface 71 = true := by kernel_rfl
  have c0 := h.at_.c0
  have c1 := h.at_.c1
  have c2 := h.at_.c2
  have f1 := h.at_.fr 1
  have f2 := h.at_.fr 2
  have hoff := h.hoff
  have hcap1 := h.cap1
  have hcap2 := h.cap2
  have hlen := h.len
  have g2 := E.cell 2 (by omega)
  have g0 := E.cell 0 (by omega)
  cases ie with
  | some i =>
    have hz : znext bs off (some i) n = ([], off, some i) := by unfold znext; rw [if_neg (by simp)]
    rw [hz]
    have HF : Hid (RdPost B w e rb ao bs cap n ([], off, some i) (.returned (.slice none 0 0)) w) := RdPost.nil h (Only.refl _ _)
    unfold errV at c2
    clear h E hz
    go_enter Tryz.func75, Tryz.ntmps75
    go_wp2
    go_ret
    exact HF.out
  | none =>
    by_cases hneg : n < 0
    · have hz : znext bs off none n = ([], off, some 2) := by unfold znext; rw [if_pos rfl, if_pos hneg]
      rw [hz]
      obtain ⟨h1, h2⟩ := h.err (some 2) (fun j hj => by cases hj; omega)
      have HF : Hid (RdPost B w e rb ao bs cap n ([], off, some 2) (.returned (.slice none 0 0)) (w.setCell ⟨rb, 2, none⟩ (errV e (some 2)))) := RdPost.nil h1 h2
      unfold errV at c2 HF
      clear h E hz h1 h2
      go_enter Tryz.func75, Tryz.ntmps75
      go_wp2
      go_ret
      exact HF.out
    · obtain ⟨k, rfl⟩ : ∃ k : Nat, n = (k : Int) := ⟨n.toNat, by omega⟩
      have hneg' : ¬ (k : Int) < 0 := by omega
      obtain ⟨L, hL⟩ : ∃ L, bs.length = L := ⟨_, rfl⟩
      by_cases hbig : ((bs.length - off : Nat) : Int) < (k : Int)
      · have hz : znext bs off none (k : Int) = ([], off, some 0) := by unfold znext; rw [if_pos rfl, if_neg hneg, if_pos hbig]
        rw [hz]
        have HF : Hid (∀ m, RdPost B w e rb ao bs cap (k : Int) ([], off, some 0) (.returned (.slice none 0 0)) ((w.drewN m).setCell ⟨rb, 2, none⟩ (errV e (some 0)))) := fun m => by
          obtain ⟨h1, h2⟩ := (h.drewN m).err (some 0) (fun j hj => by cases hj; omega)
          exact RdPost.nil h1 (Only.trans ((Only.refl _ _).drewN m) h2)
        unfold errV at c2 HF
        rw [hL] at c0 hoff hcap1 hlen
        have hbig' : ((L : Int) - (off : Int)) < (k : Int) := by omega
        clear h E hz hbig hL
        go_enter Tryz.func75, Tryz.ntmps75
        go_wp2
        go_quiet (fail)
        go_wp2
        go_ret
        exact HF.out _
      · have hz : znext bs off none (k : Int) = ((bs.drop off).take k, off + k, none) := by unfold znext; rw [if_pos rfl, if_neg hneg, if_neg hbig]; rfl
        rw [hz]
        by_cases hk0 : k = 0
        · subst hk0
          have HF : Hid (∀ m, RdPost B w e rb ao bs cap ((0 : Nat) : Int) ((bs.drop off).take 0, off + 0, none) (.returned (.slice ao 0 0)) ((w.drewN m).setCell ⟨rb, 1, none⟩ (.int .i64 (off : Int)))) := fun m => by
            obtain ⟨h1, h2⟩ := (h.drewN m).move h.hoff
            exact ⟨ao, 0, rfl, fun h0 => absurd h0 (by simp), BRow.nil _ _, Nat.le_refl _, by omega, fun h0 => absurd rfl h0, fun _ => rfl, h1, Only.trans ((Only.refl _ _).drewN m) h2⟩
          unfold errV at c2
          rw [hL] at c0 hoff hcap1 hlen
          have hbig' : ¬ ((L : Int) - (off : Int)) < 0 := by omega
          have hoc : (off : Int) ≤ (cap : Int) := by omega
          clear h E hz hbig hL hneg hneg'
          go_enter Tryz.func75, Tryz.ntmps75
          go_wp2
          go_quiet (fail)
          go_wp2
          go_quiet (fail)
          go_wp2
          go_ret
          exact HF.out _
        · have hne : bs ≠ [] := by intro h0; rw [h0] at hbig; simp at hbig; omega
          obtain ⟨b, o, rfl, hcell⟩ := h.row.row hne
          obtain ⟨p, hp⟩ : ∃ p, off + k = p := ⟨_, rfl⟩
          have HF : Hid (∀ m, RdPost B w e rb (some ⟨b, o, none⟩) bs cap (k : Int) ((bs.drop off).take k, off + k, none) (.returned (.slice (some ⟨b, o + off, none⟩) k k)) ((w.drewN m).setCell ⟨rb, 1, none⟩ (.int .i64 (p : Int)))) := fun m => by
            obtain ⟨h1, h2⟩ := (h.drewN m).move (k := p) (by omega)
            have hl : ((bs.drop off).take k).length = k := by rw [List.length_take, List.length_drop]; omega
            refine ⟨some ⟨b, o + off, none⟩, k, by rw [hl], fun _ h0 => (by have h0 : (bs.drop off).take k = [] := h0; rw [h0] at hl; simp at hl; omega), (h1.row.drop off).take k, by rw [hl]; exact Nat.le_refl _, by omega, fun _ b' o' he => ⟨o, ?_, hne⟩, (fun he => (by cases he)), (by show RdS B _ e rb (some ⟨b, o, none⟩) bs cap (off + k) none; rw [hp]; exact h1), Only.trans ((Only.refl _ _).drewN m) h2⟩
            have e1 : b = b' := congrArg (fun x : Option Addr => (x.getD ⟨0, 0, none⟩).block) he
            rw [e1]
          unfold errV at c2
          rw [hL] at c0 hoff hcap1 hlen
          have hbig' : ¬ ((L : Int) - (off : Int)) < (k : Int) := by omega
          have zp : (off : Int) + (k : Int) = (p : Int) := by omega
          have hpL : p ≤ L := by omega
          have hwp : IntKind.i64.wrap (p : Int) = (p : Int) := by simp [IntKind.wrap, IntKind.bits, IntKind.signed]; omega
          have hpc : (p : Int) ≤ (cap : Int) := by omega
          have hop : (off : Int) ≤ (p : Int) := by omega
          have hpo : p - off = k := by omega
          have hpne : ¬ p = off := by omega
          clear h E hz hbig hL hcell hne
          go_enter Tryz.func75, Tryz.ntmps75
          go_wp2
          go_quiet (fail)
          go_wp2
          go_quiet (fail)
          go_wp2
          go_ret
          exact HF.out _
end
end Go.Proofs.Qxb6500698aGreatDoor
