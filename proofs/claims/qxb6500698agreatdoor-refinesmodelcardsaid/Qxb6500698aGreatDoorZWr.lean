/-
  THE WALKS OF THE WRITER's METHODS: U8, U16, U32, U64, Raw, SealCRC, SealFletcher; NewWriter, Len, Err, Bytes.
-/
import Derived.Test.Qxb6500698aGreatDoorZW
namespace Go.Proofs.Qxb6500698aGreatDoor
open Go.RowKit

section
variable {B : Nat} {w w1 : World} {e : Nat → Addr} {wb : Nat} {v v' : Value} {O : List Nat} {lim : Nat} {oe : Option Nat}
theorem WrPost.same (h : WrS B w e wb v O lim oe) : WrPost B w e wb v O lim oe w := ⟨v, h, Chg.refl _ _, fun _ hb => .inl hb⟩
theorem WrPost.full (h : WrS B w e wb v O lim none) (m : Nat) : WrPost B w e wb v O lim (some 3) ((w.drewN m).setCell ⟨wb, 2, none⟩ (errV e (some 3))) := by
  obtain ⟨h1, h2⟩ := (h.drewN m).err (some 3) (fun j hj => by cases hj; omega)
  exact ⟨v, h1, (drewN_chg w m _).trans (Only.chg h2 (.inl rfl)), fun _ hb => .inl hb⟩
theorem WrPost.drewN {O' : List Nat} {oe' : Option Nat} {m : Nat} {w' : World} (h : WrPost B (w.drewN m) e wb v O' lim oe' w') : WrPost B w e wb v O' lim oe' w' := by
  obtain ⟨u, h1, h2, h3⟩ := h
  have hs : (w.drewN m).heap.size = w.heap.size := by rw [(World.drewN_alike w m).1]
  exact ⟨u, h1, (drewN_chg w m _).trans h2, fun b hb => by have := h3 b hb; rw [hs] at this; exact this⟩
theorem WrS.after (h : WrS B w e wb v O lim oe) (hg : Gr v v' w w1) : w1.cell? ⟨wb, 0, none⟩ = some v ∧ w1.frozen? ⟨wb, 0, none⟩ = false := by
  have h1 : WrAt w1 wb v lim (errV e oe) := h.at_.of_block (hg.chg.block wb h.at_.lt h.ne)
  exact ⟨h1.c0, h1.fr 0⟩
theorem wwrite_err (O : List Nat) (lim i : Nat) (p : List Nat) : wwrite O lim (some i) p = (O, some i) := by unfold wwrite; rw [if_neg (by simp)]
theorem wwrite_yes {O : List Nat} {lim : Nat} {p : List Nat} (h : O.length + p.length ≤ lim) : wwrite O lim none p = (O ++ p, none) := by unfold wwrite; rw [if_pos rfl, if_pos h]
theorem wwrite_no {O : List Nat} {lim : Nat} {p : List Nat} (h : ¬ O.length + p.length ≤ lim) : wwrite O lim none p = (O, some 3) := by unfold wwrite; rw [if_pos rfl, if_neg h]
theorem errs_drewN {m : Nat} (E : Errs w e) : Errs (w.drewN m) e := by
  refine ⟨fun i hi => by rw [drewN_cell]; exact E.cell i hi, fun i hi => ?_, E.apart⟩
  obtain ⟨c, t, h⟩ := E.row i hi
  exact ⟨c, t, by rw [(World.drewN_alike w m).1]; exact h⟩
end

theorem OwnB.form {w : World} {B : Nat} {v : Value} {O : List Nat} (h : OwnB w B v O) : ∃ ao cap, v = .slice ao O.length cap := by
  have hg : w.ownsRow B 5 1 v O.length (O.map fun y => Value.int .u8 ((y : Nat) : Int)) := h
  rcases hg.2 with ⟨hv, h0⟩ | ⟨g, cap, cur, hv, _⟩
  · exact ⟨none, 0, by rw [hv, h0]⟩
  · exact ⟨_, cap, hv⟩
/-- What a method that writes p leaves. -/
def WP (B : Nat) (w : World) (e : Nat → Addr) (wb : Nat) (v : Value) (O : List Nat) (lim : Nat) (oe : Option Nat) (p : List Nat) (r : Ending) (w' : World) : Prop := r = .returned (.tuple #[]) ∧ WrPost B w e wb v (wwrite O lim oe p).1 lim (wwrite O lim oe p).2 w'


set_option maxRecDepth 100000 in
set_option maxHeartbeats 1000000 in
theorem wu16_any {B : Nat} {w : World} {e : Nat → Addr} {wb : Nat} {v : Value} {O : List Nat} {lim : Nat} {oe : Option Nat} (E : Errs w e) (h : WrS B w e wb v O lim oe) (hBw : B ≤ w.heap.size) (x0 : Nat) (hx0 : x0 < 65536) :
    Calls Tryz.prog 58 #[.pointer (some ⟨wb, 0, none⟩), .int .u16 (x0 : Int)] w (WP B w e wb v O lim oe (dig x0 2)) := by
  have hlen := h.len
  have hlim := h.hlim
  cases oe with
  | some i =>
    have HR : Hid (Calls Tryz.prog 61 #[.pointer (some ⟨wb, 0, none⟩), .int .i64 2] w fun r w' => r = .returned (.bool false) ∧ w' = w) := room_err 2 h
    have HF : Hid (WP B w e wb v O lim (some i) (dig x0 2) (.returned (.tuple #[])) w) := ⟨rfl, by rw [wwrite_err]; exact WrPost.same h⟩
    clear h E
    go_enter Tryz.func58, Tryz.ntmps58
    go_wp2_with fail
    refine Calls.mono HR.out ?_
    rintro r w' ⟨rfl, hw⟩
    rw [hw]
    go_wp2
    go_end0
    exact HF.out
  | none =>
    by_cases hfit : O.length + (dig x0 2).length ≤ lim
    · have hpl : (dig x0 2).length = 2 := by rw [dig_length]
      have HR : Hid (Calls Tryz.prog 61 #[.pointer (some ⟨wb, 0, none⟩), .int .i64 2] w fun r w' => r = .returned (.bool true) ∧ ∃ m, w' = w.drewN m) := room_yes 2 h (by rw [← hpl]; exact hfit)
      have HA : Hid (∀ m, Calls Tryz.prog 85 #[v, .int .u16 (x0 : Int)] (w.drewN m) fun r w' => ∃ v', r = .returned v' ∧ OwnB w' B v' (O ++ dig x0 2) ∧ Gr v v' (w.drewN m) w') := fun m => appendU16_any B v O x0 (w.drewN m) (ownB_drewN h.own m) (by rw [(World.drewN_alike w m).1]; exact hBw) (by omega) hx0
      have HF : Hid (∀ m v' w1, OwnB w1 B v' (O ++ dig x0 2) → Gr v v' (w.drewN m) w1 → WP B w e wb v O lim none (dig x0 2) (.returned (.tuple #[])) (w1.setCell ⟨wb, 0, none⟩ v')) := fun m v' w1 h1 h2 => ⟨rfl, by
        rw [wwrite_yes hfit]
        exact WrPost.drewN ((h.drewN m).buf h2 h1 (fun x hx => by
          rcases List.mem_append.1 hx with hx | hx
          · exact h.byt x hx
          · exact dig_lt _ _ x hx) (by rw [List.length_append]; exact hfit))⟩
      have HAf : Hid (∀ m v' w1, Gr v v' (w.drewN m) w1 → w1.cell? ⟨wb, 0, none⟩ = some v ∧ w1.frozen? ⟨wb, 0, none⟩ = false) := fun m v' w1 h2 => (h.drewN m).after h2
      have c0 := h.at_.c0
      clear h E hpl hfit hlen
      go_enter Tryz.func58, Tryz.ntmps58
      go_wp2_with fail
      refine Calls.mono HR.out ?_
      rintro r w' ⟨rfl, m, rfl⟩
      go_wp2_with fail
      refine Calls.mono (HA.out m) ?_
      rintro r w1 ⟨v', rfl, h1, h2⟩
      obtain ⟨ya, yc, hy⟩ := h1.form
      obtain ⟨yl, hyl⟩ : ∃ yl, (O ++ dig x0 2).length = yl := ⟨_, rfl⟩
      rw [hyl] at hy
      clear hyl
      subst hy
      have HF2 := HF.out m _ w1 h1 h2
      have HF3 : Hid (WP B w e wb v O lim none (dig x0 2) (.returned (.tuple #[])) (w1.setCell ⟨wb, 0, none⟩ (.slice ya yl yc))) := HF2
      obtain ⟨d0, df⟩ := HAf.out m _ w1 h2
      clear h1 h2 HF HF2 HA HAf HR
      go_wp2
      go_end0
      exact HF3.out
    · have hpl : (dig x0 2).length = 2 := by rw [dig_length]
      have HR : Hid (Calls Tryz.prog 61 #[.pointer (some ⟨wb, 0, none⟩), .int .i64 2] w fun r w' => r = .returned (.bool false) ∧ ∃ m, w' = (w.drewN m).setCell ⟨wb, 2, none⟩ (errV e (some 3))) := room_no 2 E h (by rw [← hpl]; exact hfit) (by omega)
      have HF : Hid (∀ m, WP B w e wb v O lim none (dig x0 2) (.returned (.tuple #[])) ((w.drewN m).setCell ⟨wb, 2, none⟩ (errV e (some 3)))) := fun m => ⟨rfl, by rw [wwrite_no hfit]; exact WrPost.full h m⟩
      clear h E hpl hfit hlen
      go_enter Tryz.func58, Tryz.ntmps58
      go_wp2_with fail
      refine Calls.mono HR.out ?_
      rintro r w' ⟨rfl, m, hw⟩
      have HF3 := HF.out m
      rw [← hw] at HF3
      have HF4 : Hid (WP B w e wb v O lim none (dig x0 2) (.returned (.tuple #[])) w') := HF3
      clear HF3 HF HR hw
      go_wp2
      go_end0
      exact HF4.out

set_option maxRecDepth 100000 in
set_option maxHeartbeats 1000000 in
theorem wu32_any {B : Nat} {w : World} {e : Nat → Addr} {wb : Nat} {v : Value} {O : List Nat} {lim : Nat} {oe : Option Nat} (E : Errs w e) (h : WrS B w e wb v O lim oe) (hBw : B ≤ w.heap.size) (x0 : Nat) (hx0 : x0 < 4294967296) :
    Calls Tryz.prog 59 #[.pointer (some ⟨wb, 0, none⟩), .int .u32 (x0 : Int)] w (WP B w e wb v O lim oe (dig x0 4)) := by
  have hlen := h.len
  have hlim := h.hlim
  cases oe with
  | some i =>
    have HR : Hid (Calls Tryz.prog 61 #[.pointer (some ⟨wb, 0, none⟩), .int .i64 4] w fun r w' => r = .returned (.bool false) ∧ w' = w) := room_err 4 h
    have HF : Hid (WP B w e wb v O lim (some i) (dig x0 4) (.returned (.tuple #[])) w) := ⟨rfl, by rw [wwrite_err]; exact WrPost.same h⟩
    clear h E
    go_enter Tryz.func59, Tryz.ntmps59
    go_wp2_with fail
    refine Calls.mono HR.out ?_
    rintro r w' ⟨rfl, hw⟩
    rw [hw]
    go_wp2
    go_end0
    exact HF.out
  | none =>
    by_cases hfit : O.length + (dig x0 4).length ≤ lim
    · have hpl : (dig x0 4).length = 4 := by rw [dig_length]
      have HR : Hid (Calls Tryz.prog 61 #[.pointer (some ⟨wb, 0, none⟩), .int .i64 4] w fun r w' => r = .returned (.bool true) ∧ ∃ m, w' = w.drewN m) := room_yes 4 h (by rw [← hpl]; exact hfit)
      have HA : Hid (∀ m, Calls Tryz.prog 86 #[v, .int .u32 (x0 : Int)] (w.drewN m) fun r w' => ∃ v', r = .returned v' ∧ OwnB w' B v' (O ++ dig x0 4) ∧ Gr v v' (w.drewN m) w') := fun m => appendU32_any B v O x0 (w.drewN m) (ownB_drewN h.own m) (by rw [(World.drewN_alike w m).1]; exact hBw) (by omega) hx0
      have HF : Hid (∀ m v' w1, OwnB w1 B v' (O ++ dig x0 4) → Gr v v' (w.drewN m) w1 → WP B w e wb v O lim none (dig x0 4) (.returned (.tuple #[])) (w1.setCell ⟨wb, 0, none⟩ v')) := fun m v' w1 h1 h2 => ⟨rfl, by
        rw [wwrite_yes hfit]
        exact WrPost.drewN ((h.drewN m).buf h2 h1 (fun x hx => by
          rcases List.mem_append.1 hx with hx | hx
          · exact h.byt x hx
          · exact dig_lt _ _ x hx) (by rw [List.length_append]; exact hfit))⟩
      have HAf : Hid (∀ m v' w1, Gr v v' (w.drewN m) w1 → w1.cell? ⟨wb, 0, none⟩ = some v ∧ w1.frozen? ⟨wb, 0, none⟩ = false) := fun m v' w1 h2 => (h.drewN m).after h2
      have c0 := h.at_.c0
      clear h E hpl hfit hlen
      go_enter Tryz.func59, Tryz.ntmps59
      go_wp2_with fail
      refine Calls.mono HR.out ?_
      rintro r w' ⟨rfl, m, rfl⟩
      go_wp2_with fail
      refine Calls.mono (HA.out m) ?_
      rintro r w1 ⟨v', rfl, h1, h2⟩
      obtain ⟨ya, yc, hy⟩ := h1.form
      obtain ⟨yl, hyl⟩ : ∃ yl, (O ++ dig x0 4).length = yl := ⟨_, rfl⟩
      rw [hyl] at hy
      clear hyl
      subst hy
      have HF2 := HF.out m _ w1 h1 h2
      have HF3 : Hid (WP B w e wb v O lim none (dig x0 4) (.returned (.tuple #[])) (w1.setCell ⟨wb, 0, none⟩ (.slice ya yl yc))) := HF2
      obtain ⟨d0, df⟩ := HAf.out m _ w1 h2
      clear h1 h2 HF HF2 HA HAf HR
      go_wp2
      go_end0
      exact HF3.out
    · have hpl : (dig x0 4).length = 4 := by rw [dig_length]
      have HR : Hid (Calls Tryz.prog 61 #[.pointer (some ⟨wb, 0, none⟩), .int .i64 4] w fun r w' => r = .returned (.bool false) ∧ ∃ m, w' = (w.drewN m).setCell ⟨wb, 2, none⟩ (errV e (some 3))) := room_no 4 E h (by rw [← hpl]; exact hfit) (by omega)
      have HF : Hid (∀ m, WP B w e wb v O lim none (dig x0 4) (.returned (.tuple #[])) ((w.drewN m).setCell ⟨wb, 2, none⟩ (errV e (some 3)))) := fun m => ⟨rfl, by rw [wwrite_no hfit]; exact WrPost.full h m⟩
      clear h E hpl hfit hlen
      go_enter Tryz.func59, Tryz.ntmps59
      go_wp2_with fail
      refine Calls.mono HR.out ?_
      rintro r w' ⟨rfl, m, hw⟩
      have HF3 := HF.out m
      rw [← hw] at HF3
      have HF4 : Hid (WP B w e wb v O lim none (dig x0 4) (.returned (.tuple #[])) w') := HF3
      clear HF3 HF HR hw
      go_wp2
      go_end0
      exact HF4.out

set_option maxRecDepth 100000 in
set_option maxHeartbeats 1000000 in
theorem wu64_any {B : Nat} {w : World} {e : Nat → Addr} {wb : Nat} {v : Value} {O : List Nat} {lim : Nat} {oe : Option Nat} (E : Errs w e) (h : WrS B w e wb v O lim oe) (hBw : B ≤ w.heap.size) (x0 : Nat) (hx0 : x0 < 18446744073709551616) :
    Calls Tryz.prog 60 #[.pointer (some ⟨wb, 0, none⟩), .int .u64 (x0 : Int)] w (WP B w e wb v O lim oe (dig x0 8)) := by
  have hlen := h.len
  have hlim := h.hlim
  cases oe with
  | some i =>
    have HR : Hid (Calls Tryz.prog 61 #[.pointer (some ⟨wb, 0, none⟩), .int .i64 8] w fun r w' => r = .returned (.bool false) ∧ w' = w) := room_err 8 h
    have HF : Hid (WP B w e wb v O lim (some i) (dig x0 8) (.returned (.tuple #[])) w) := ⟨rfl, by rw [wwrite_err]; exact WrPost.same h⟩
    clear h E
    go_enter Tryz.func60, Tryz.ntmps60
    go_wp2_with fail
    refine Calls.mono HR.out ?_
    rintro r w' ⟨rfl, hw⟩
    rw [hw]
    go_wp2
    go_end0
    exact HF.out
  | none =>
    by_cases hfit : O.length + (dig x0 8).length ≤ lim
    · have hpl : (dig x0 8).length = 8 := by rw [dig_length]
      have HR : Hid (Calls Tryz.prog 61 #[.pointer (some ⟨wb, 0, none⟩), .int .i64 8] w fun r w' => r = .returned (.bool true) ∧ ∃ m, w' = w.drewN m) := room_yes 8 h (by rw [← hpl]; exact hfit)
      have HA : Hid (∀ m, Calls Tryz.prog 87 #[v, .int .u64 (x0 : Int)] (w.drewN m) fun r w' => ∃ v', r = .returned v' ∧ OwnB w' B v' (O ++ dig x0 8) ∧ Gr v v' (w.drewN m) w') := fun m => appendU64_any B v O x0 (w.drewN m) (ownB_drewN h.own m) (by rw [(World.drewN_alike w m).1]; exact hBw) (by omega) hx0
      have HF : Hid (∀ m v' w1, OwnB w1 B v' (O ++ dig x0 8) → Gr v v' (w.drewN m) w1 → WP B w e wb v O lim none (dig x0 8) (.returned (.tuple #[])) (w1.setCell ⟨wb, 0, none⟩ v')) := fun m v' w1 h1 h2 => ⟨rfl, by
        rw [wwrite_yes hfit]
        exact WrPost.drewN ((h.drewN m).buf h2 h1 (fun x hx => by
          rcases List.mem_append.1 hx with hx | hx
          · exact h.byt x hx
          · exact dig_lt _ _ x hx) (by rw [List.length_append]; exact hfit))⟩
      have HAf : Hid (∀ m v' w1, Gr v v' (w.drewN m) w1 → w1.cell? ⟨wb, 0, none⟩ = some v ∧ w1.frozen? ⟨wb, 0, none⟩ = false) := fun m v' w1 h2 => (h.drewN m).after h2
      have c0 := h.at_.c0
      clear h E hpl hfit hlen
      go_enter Tryz.func60, Tryz.ntmps60
      go_wp2_with fail
      refine Calls.mono HR.out ?_
      rintro r w' ⟨rfl, m, rfl⟩
      go_wp2_with fail
      refine Calls.mono (HA.out m) ?_
      rintro r w1 ⟨v', rfl, h1, h2⟩
      obtain ⟨ya, yc, hy⟩ := h1.form
      obtain ⟨yl, hyl⟩ : ∃ yl, (O ++ dig x0 8).length = yl := ⟨_, rfl⟩
      rw [hyl] at hy
      clear hyl
      subst hy
      have HF2 := HF.out m _ w1 h1 h2
      have HF3 : Hid (WP B w e wb v O lim none (dig x0 8) (.returned (.tuple #[])) (w1.setCell ⟨wb, 0, none⟩ (.slice ya yl yc))) := HF2
      obtain ⟨d0, df⟩ := HAf.out m _ w1 h2
      clear h1 h2 HF HF2 HA HAf HR
      go_wp2
      go_end0
      exact HF3.out
    · have hpl : (dig x0 8).length = 8 := by rw [dig_length]
      have HR : Hid (Calls Tryz.prog 61 #[.pointer (some ⟨wb, 0, none⟩), .int .i64 8] w fun r w' => r = .returned (.bool false) ∧ ∃ m, w' = (w.drewN m).setCell ⟨wb, 2, none⟩ (errV e (some 3))) := room_no 8 E h (by rw [← hpl]; exact hfit) (by omega)
      have HF : Hid (∀ m, WP B w e wb v O lim none (dig x0 8) (.returned (.tuple #[])) ((w.drewN m).setCell ⟨wb, 2, none⟩ (errV e (some 3)))) := fun m => ⟨rfl, by rw [wwrite_no hfit]; exact WrPost.full h m⟩
      clear h E hpl hfit hlen
      go_enter Tryz.func60, Tryz.ntmps60
      go_wp2_with fail
      refine Calls.mono HR.out ?_
      rintro r w' ⟨rfl, m, hw⟩
      have HF3 := HF.out m
      rw [← hw] at HF3
      have HF4 : Hid (WP B w e wb v O lim none (dig x0 8) (.returned (.tuple #[])) w') := HF3
      clear HF3 HF HR hw
      go_wp2
      go_end0
      exact HF4.out

set_option maxRecDepth 100000 in
set_option maxHeartbeats 1000000 in
theorem wsealC_any {B : Nat} {w : World} {e : Nat → Addr} {wb : Nat} {v : Value} {O : List Nat} {lim : Nat} {oe : Option Nat} (E : Errs w e) (h : WrS B w e wb v O lim oe) (hBw : B ≤ w.heap.size) (tb : Nat) (hT : Tabs w tb) :
    Calls Tryz.prog 27 #[.pointer (some ⟨wb, 0, none⟩), .pointer (some ⟨tb, 0, none⟩)] w (WP B w e wb v O lim oe (dig (Crc.crc O) 4)) := by
  have hlen := h.len
  have hlim := h.hlim
  cases oe with
  | some i =>
    have HR : Hid (Calls Tryz.prog 61 #[.pointer (some ⟨wb, 0, none⟩), .int .i64 4] w fun r w' => r = .returned (.bool false) ∧ w' = w) := room_err 4 h
    have HF : Hid (WP B w e wb v O lim (some i) (dig (Crc.crc O) 4) (.returned (.tuple #[])) w) := ⟨rfl, by rw [wwrite_err]; exact WrPost.same h⟩
    clear h E
    go_enter Tryz.func27, Tryz.ntmps27
    go_wp2_with fail
    refine Calls.mono HR.out ?_
    rintro r w' ⟨rfl, hw⟩
    rw [hw]
    go_wp2
    go_end0
    exact HF.out
  | none =>
    by_cases hfit : O.length + (dig (Crc.crc O) 4).length ≤ lim
    · have hpl : (dig (Crc.crc O) 4).length = 4 := by rw [dig_length]
      have HR : Hid (Calls Tryz.prog 61 #[.pointer (some ⟨wb, 0, none⟩), .int .i64 4] w fun r w' => r = .returned (.bool true) ∧ ∃ m, w' = w.drewN m) := room_yes 4 h (by rw [← hpl]; exact hfit)
      have HA : Hid (∀ m, Calls Tryz.prog 63 #[.pointer (some ⟨tb, 0, none⟩), v] (w.drewN m) fun r w' => ∃ v', r = .returned v' ∧ OwnB w' B v' (O ++ dig (Crc.crc O) 4) ∧ Gr v v' (w.drewN m) w') := fun m => seal_any B tb v O (w.drewN m) (hT.below (drewN_below _ _ _)) (ownB_drewN h.own m) h.byt (by rw [(World.drewN_alike w m).1]; exact hBw) (by omega)
      have HF : Hid (∀ m v' w1, OwnB w1 B v' (O ++ dig (Crc.crc O) 4) → Gr v v' (w.drewN m) w1 → WP B w e wb v O lim none (dig (Crc.crc O) 4) (.returned (.tuple #[])) (w1.setCell ⟨wb, 0, none⟩ v')) := fun m v' w1 h1 h2 => ⟨rfl, by
        rw [wwrite_yes hfit]
        exact WrPost.drewN ((h.drewN m).buf h2 h1 (fun x hx => by
          rcases List.mem_append.1 hx with hx | hx
          · exact h.byt x hx
          · exact dig_lt _ _ x hx) (by rw [List.length_append]; exact hfit))⟩
      have HAf : Hid (∀ m v' w1, Gr v v' (w.drewN m) w1 → w1.cell? ⟨wb, 0, none⟩ = some v ∧ w1.frozen? ⟨wb, 0, none⟩ = false) := fun m v' w1 h2 => (h.drewN m).after h2
      have c0 := h.at_.c0
      clear h E hpl hfit hlen
      go_enter Tryz.func27, Tryz.ntmps27
      go_wp2_with fail
      refine Calls.mono HR.out ?_
      rintro r w' ⟨rfl, m, rfl⟩
      go_wp2_with fail
      refine Calls.mono (HA.out m) ?_
      rintro r w1 ⟨v', rfl, h1, h2⟩
      obtain ⟨ya, yc, hy⟩ := h1.form
      obtain ⟨yl, hyl⟩ : ∃ yl, (O ++ dig (Crc.crc O) 4).length = yl := ⟨_, rfl⟩
      rw [hyl] at hy
      clear hyl
      subst hy
      have HF2 := HF.out m _ w1 h1 h2
      have HF3 : Hid (WP B w e wb v O lim none (dig (Crc.crc O) 4) (.returned (.tuple #[])) (w1.setCell ⟨wb, 0, none⟩ (.slice ya yl yc))) := HF2
      obtain ⟨d0, df⟩ := HAf.out m _ w1 h2
      clear h1 h2 HF HF2 HA HAf HR
      go_wp2
      go_end0
      exact HF3.out
    · have hpl : (dig (Crc.crc O) 4).length = 4 := by rw [dig_length]
      have HR : Hid (Calls Tryz.prog 61 #[.pointer (some ⟨wb, 0, none⟩), .int .i64 4] w fun r w' => r = .returned (.bool false) ∧ ∃ m, w' = (w.drewN m).setCell ⟨wb, 2, none⟩ (errV e (some 3))) := room_no 4 E h (by rw [← hpl]; exact hfit) (by omega)
      have HF : Hid (∀ m, WP B w e wb v O lim none (dig (Crc.crc O) 4) (.returned (.tuple #[])) ((w.drewN m).setCell ⟨wb, 2, none⟩ (errV e (some 3)))) := fun m => ⟨rfl, by rw [wwrite_no hfit]; exact WrPost.full h m⟩
      clear h E hpl hfit hlen
      go_enter Tryz.func27, Tryz.ntmps27
      go_wp2_with fail
      refine Calls.mono HR.out ?_
      rintro r w' ⟨rfl, m, hw⟩
      have HF3 := HF.out m
      rw [← hw] at HF3
      have HF4 : Hid (WP B w e wb v O lim none (dig (Crc.crc O) 4) (.returned (.tuple #[])) w') := HF3
      clear HF3 HF HR hw
      go_wp2
      go_end0
      exact HF4.out

set_option maxRecDepth 100000 in
set_option maxHeartbeats 1000000 in
theorem wsealF_any {B : Nat} {w : World} {e : Nat → Addr} {wb : Nat} {v : Value} {O : List Nat} {lim : Nat} {oe : Option Nat} (E : Errs w e) (h : WrS B w e wb v O lim oe) (hBw : B ≤ w.heap.size) :
    Calls Tryz.prog 28 #[.pointer (some ⟨wb, 0, none⟩)] w (WP B w e wb v O lim oe (dig (Flt.fl O) 4)) := by
  have hlen := h.len
  have hlim := h.hlim
  cases oe with
  | some i =>
    have HR : Hid (Calls Tryz.prog 61 #[.pointer (some ⟨wb, 0, none⟩), .int .i64 4] w fun r w' => r = .returned (.bool false) ∧ w' = w) := room_err 4 h
    have HF : Hid (WP B w e wb v O lim (some i) (dig (Flt.fl O) 4) (.returned (.tuple #[])) w) := ⟨rfl, by rw [wwrite_err]; exact WrPost.same h⟩
    clear h E
    go_enter Tryz.func28, Tryz.ntmps28
    go_wp2_with fail
    refine Calls.mono HR.out ?_
    rintro r w' ⟨rfl, hw⟩
    rw [hw]
    go_wp2
    go_end0
    exact HF.out
  | none =>
    by_cases hfit : O.length + (dig (Flt.fl O) 4).length ≤ lim
    · have hpl : (dig (Flt.fl O) 4).length = 4 := by rw [dig_length]
      have HR : Hid (Calls Tryz.prog 61 #[.pointer (some ⟨wb, 0, none⟩), .int .i64 4] w fun r w' => r = .returned (.bool true) ∧ ∃ m, w' = w.drewN m) := room_yes 4 h (by rw [← hpl]; exact hfit)
      have HA : Hid (∀ m, Calls Tryz.prog 64 #[v] (w.drewN m) fun r w' => ∃ v', r = .returned v' ∧ OwnB w' B v' (O ++ dig (Flt.fl O) 4) ∧ Gr v v' (w.drewN m) w') := fun m => sealF_any B v O (w.drewN m) (ownB_drewN h.own m) h.byt (by rw [(World.drewN_alike w m).1]; exact hBw) (by omega)
      have HF : Hid (∀ m v' w1, OwnB w1 B v' (O ++ dig (Flt.fl O) 4) → Gr v v' (w.drewN m) w1 → WP B w e wb v O lim none (dig (Flt.fl O) 4) (.returned (.tuple #[])) (w1.setCell ⟨wb, 0, none⟩ v')) := fun m v' w1 h1 h2 => ⟨rfl, by
        rw [wwrite_yes hfit]
        exact WrPost.drewN ((h.drewN m).buf h2 h1 (fun x hx => by
          rcases List.mem_append.1 hx with hx | hx
          · exact h.byt x hx
          · exact dig_lt _ _ x hx) (by rw [List.length_append]; exact hfit))⟩
      have HAf : Hid (∀ m v' w1, Gr v v' (w.drewN m) w1 → w1.cell? ⟨wb, 0, none⟩ = some v ∧ w1.frozen? ⟨wb, 0, none⟩ = false) := fun m v' w1 h2 => (h.drewN m).after h2
      have c0 := h.at_.c0
      clear h E hpl hfit hlen
      go_enter Tryz.func28, Tryz.ntmps28
      go_wp2_with fail
      refine Calls.mono HR.out ?_
      rintro r w' ⟨rfl, m, rfl⟩
      go_wp2_with fail
      refine Calls.mono (HA.out m) ?_
      rintro r w1 ⟨v', rfl, h1, h2⟩
      obtain ⟨ya, yc, hy⟩ := h1.form
      obtain ⟨yl, hyl⟩ : ∃ yl, (O ++ dig (Flt.fl O) 4).length = yl := ⟨_, rfl⟩
      rw [hyl] at hy
      clear hyl
      subst hy
      have HF2 := HF.out m _ w1 h1 h2
      have HF3 : Hid (WP B w e wb v O lim none (dig (Flt.fl O) 4) (.returned (.tuple #[])) (w1.setCell ⟨wb, 0, none⟩ (.slice ya yl yc))) := HF2
      obtain ⟨d0, df⟩ := HAf.out m _ w1 h2
      clear h1 h2 HF HF2 HA HAf HR
      go_wp2
      go_end0
      exact HF3.out
    · have hpl : (dig (Flt.fl O) 4).length = 4 := by rw [dig_length]
      have HR : Hid (Calls Tryz.prog 61 #[.pointer (some ⟨wb, 0, none⟩), .int .i64 4] w fun r w' => r = .returned (.bool false) ∧ ∃ m, w' = (w.drewN m).setCell ⟨wb, 2, none⟩ (errV e (some 3))) := room_no 4 E h (by rw [← hpl]; exact hfit) (by omega)
      have HF : Hid (∀ m, WP B w e wb v O lim none (dig (Flt.fl O) 4) (.returned (.tuple #[])) ((w.drewN m).setCell ⟨wb, 2, none⟩ (errV e (some 3)))) := fun m => ⟨rfl, by rw [wwrite_no hfit]; exact WrPost.full h m⟩
      clear h E hpl hfit hlen
      go_enter Tryz.func28, Tryz.ntmps28
      go_wp2_with fail
      refine Calls.mono HR.out ?_
      rintro r w' ⟨rfl, m, hw⟩
      have HF3 := HF.out m
      rw [← hw] at HF3
      have HF4 : Hid (WP B w e wb v O lim none (dig (Flt.fl O) 4) (.returned (.tuple #[])) w') := HF3
      clear HF3 HF HR hw
      go_wp2
      go_end0
      exact HF4.out

set_option maxRecDepth 100000 in
set_option maxHeartbeats 1000000 in
theorem wraw_any {B : Nat} {w : World} {e : Nat → Addr} {wb : Nat} {v : Value} {O : List Nat} {lim : Nat} {oe : Option Nat} (E : Errs w e) (h : WrS B w e wb v O lim oe) (hBw : B ≤ w.heap.size) (ao : Option Addr) (bs : List Nat) (cap : Nat) (hrow : BRow w ao bs) (hbl : bs.length ≤ 70368744177664) :
    Calls Tryz.prog 25 #[.pointer (some ⟨wb, 0, none⟩), .slice ao bs.length cap] w (WP B w e wb v O lim oe (bs)) := by
  have hlen := h.len
  have hlim := h.hlim
  cases oe with
  | some i =>
    have HR : Hid (Calls Tryz.prog 61 #[.pointer (some ⟨wb, 0, none⟩), .int .i64 (bs.length : Int)] w fun r w' => r = .returned (.bool false) ∧ w' = w) := room_err (bs.length : Int) h
    have HF : Hid (WP B w e wb v O lim (some i) (bs) (.returned (.tuple #[])) w) := ⟨rfl, by rw [wwrite_err]; exact WrPost.same h⟩
    clear h E
    go_enter Tryz.func25, Tryz.ntmps25
    go_wp2_with fail
    refine Calls.mono HR.out ?_
    rintro r w' ⟨rfl, hw⟩
    rw [hw]
    go_wp2
    go_end0
    exact HF.out
  | none =>
    by_cases hfit : O.length + (bs).length ≤ lim
    · have HR : Hid (Calls Tryz.prog 61 #[.pointer (some ⟨wb, 0, none⟩), .int .i64 (bs.length : Int)] w fun r w' => r = .returned (.bool true) ∧ ∃ m, w' = w.drewN m) := room_yes bs.length h hfit
      have HOw : Hid (∀ m, OwnB (w.drewN m) B v O ∧ BRow (w.drewN m) ao bs ∧ B ≤ (w.drewN m).heap.size) := fun m => ⟨ownB_drewN h.own m, hrow.drewN m, by rw [(World.drewN_alike w m).1]; exact hBw⟩
      have hsum : O.length + bs.length ≤ 140737488355328 := by omega
      have HF : Hid (∀ m v' w1, OwnB w1 B v' (O ++ bs) → Gr v v' (w.drewN m) w1 → WP B w e wb v O lim none (bs) (.returned (.tuple #[])) (w1.setCell ⟨wb, 0, none⟩ v')) := fun m v' w1 h1 h2 => ⟨rfl, by
        rw [wwrite_yes hfit]
        exact WrPost.drewN ((h.drewN m).buf h2 h1 (fun x hx => by
          rcases List.mem_append.1 hx with hx | hx
          · exact h.byt x hx
          · exact hrow.lt x hx) (by rw [List.length_append]; exact hfit))⟩
      have HAf : Hid (∀ m v' w1, Gr v v' (w.drewN m) w1 → w1.cell? ⟨wb, 0, none⟩ = some v ∧ w1.frozen? ⟨wb, 0, none⟩ = false) := fun m v' w1 h2 => (h.drewN m).after h2
      have c0 := h.at_.c0
      clear h E hfit hlen hrow
      go_enter Tryz.func25, Tryz.ntmps25
      go_wp2_with fail
      refine Calls.mono HR.out ?_
      rintro r w' ⟨rfl, m, rfl⟩
      go_wp2_with (at_builtin; refine wpList_append_bytes _ rfl _ _ rfl B v O bs rfl (HOw.out m).1 ao cap rfl (HOw.out m).2.1 hsum (HOw.out m).2.2 ?_; intro v' w1 h1 g2 g3; have h2 : Gr v v' (w.drewN m) w1 := Gr.mk0 g2 g3; clear g2 g3; obtain ⟨ya, yc, hy⟩ := OwnB.form h1; obtain ⟨yl, hyl⟩ : ∃ yl, (O ++ bs).length = yl := ⟨_, rfl⟩; rw [hyl] at hy; clear hyl; subst hy; have HF2 := HF.out m _ w1 h1 h2; have HF3 : Hid (WP B w e wb v O lim none bs (.returned (.tuple #[])) (w1.setCell ⟨wb, 0, none⟩ (.slice ya yl yc))) := HF2; obtain ⟨d0, df⟩ := HAf.out m _ w1 h2; clear h1 h2 HF2)
      go_end0
      exact HF3.out
    · have HR : Hid (Calls Tryz.prog 61 #[.pointer (some ⟨wb, 0, none⟩), .int .i64 (bs.length : Int)] w fun r w' => r = .returned (.bool false) ∧ ∃ m, w' = (w.drewN m).setCell ⟨wb, 2, none⟩ (errV e (some 3))) := room_no bs.length E h hfit (by omega)
      have HF : Hid (∀ m, WP B w e wb v O lim none (bs) (.returned (.tuple #[])) ((w.drewN m).setCell ⟨wb, 2, none⟩ (errV e (some 3)))) := fun m => ⟨rfl, by rw [wwrite_no hfit]; exact WrPost.full h m⟩
      clear h E hfit hlen hrow
      go_enter Tryz.func25, Tryz.ntmps25
      go_wp2_with fail
      refine Calls.mono HR.out ?_
      rintro r w' ⟨rfl, m, hw⟩
      have HF3 := HF.out m
      rw [← hw] at HF3
      have HF4 : Hid (WP B w e wb v O lim none (bs) (.returned (.tuple #[])) w') := HF3
      clear HF3 HF HR hw
      go_wp2
      go_end0
      exact HF4.out
end Go.Proofs.Qxb6500698aGreatDoor
