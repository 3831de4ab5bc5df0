/-
  MATRICES IN MEMORY; THE WALKS OF Zero AND Identity.
-/
import Derived.Test.Qxb6500697aDoorKMulAdd
namespace Go.Proofs.Qxb6500697aDoor
open Go.RowKit

theorem Tryd.info5 : (Tryd.prog.info? 5).map (fun i => (i.zero, i.size, i.bytes)) = some (some (.int .u8 0), 1, 1) := by kernel_rfl
theorem Tryd.info30 : (Tryd.prog.info? 30).map (fun i => (i.zero, i.size, i.bytes)) = some (some (.slice none 0 0), 1, 24) := by kernel_rfl

/-- The matrix A of n rows and m columns: block H holds the rows' headers, row r lies alone in block gs r. -/
structure MatAt (w : World) (H n m : Nat) (gs : Nat → Nat) (A : Nat → Nat → Nat) : Prop where
  hdr : w.rowIs H 30 n (fun r => .slice (some ⟨gs r, 0, none⟩) m m)
  row : ∀ r, r < n → Row w (gs r) m (A r)
  inj : ∀ r r', r < n → r' < n → gs r = gs r' → r = r'
  off : ∀ r, r < n → gs r ≠ H

theorem MatAt.lt {w : World} {H n m : Nat} {gs : Nat → Nat} {A : Nat → Nat → Nat} (h : MatAt w H n m gs A) : H < w.heap.size := h.hdr.lt
theorem MatAt.of_blocks {w w' : World} {H n m : Nat} {gs : Nat → Nat} {A : Nat → Nat → Nat} (h : MatAt w H n m gs A) (e0 : w'.heap[H]? = w.heap[H]?) (e : ∀ r, r < n → w'.heap[gs r]? = w.heap[gs r]?) : MatAt w' H n m gs A :=
  ⟨h.hdr.of_block e0, fun r hr => (h.row r hr).of_block (e r hr), h.inj, h.off⟩
theorem MatAt.below {w w' : World} {H n m : Nat} {gs : Nat → Nat} {A : Nat → Nat → Nat} (h : MatAt w H n m gs A) (hb : Below w.heap.size w w') : MatAt w' H n m gs A :=
  h.of_blocks (hb.block H h.lt) fun r hr => hb.block _ (h.row r hr).lt
theorem MatAt.only {w w' : World} {d H n m : Nat} {gs : Nat → Nat} {A : Nat → Nat → Nat} (h : MatAt w H n m gs A) (ho : Only d w w') (h0 : H ≠ d) (h1 : ∀ r, r < n → gs r ≠ d) : MatAt w' H n m gs A :=
  h.of_blocks (ho.block H h0) fun r hr => ho.block _ (h1 r hr)
theorem MatAt.congr {w : World} {H n m : Nat} {gs : Nat → Nat} {A B : Nat → Nat → Nat} (h : MatAt w H n m gs A) (e : ∀ r, r < n → ∀ c, c < m → A r c = B r c) : MatAt w H n m gs B :=
  ⟨h.hdr, fun r hr => (h.row r hr).congr (e r hr), h.inj, h.off⟩
/-- One row written anew. -/
theorem MatAt.rowSet {w w' : World} {H n m r : Nat} {gs : Nat → Nat} {A : Nat → Nat → Nat} {f : Nat → Nat} (h : MatAt w H n m gs A) (hr : r < n) (ho : Only (gs r) w w') (hrow : Row w' (gs r) m f) : MatAt w' H n m gs (fun i => if i = r then f else A i) := by
  refine ⟨h.hdr.of_block (ho.block H (fun e => h.off r hr e.symm)), fun i hi => ?_, h.inj, h.off⟩
  by_cases e : i = r
  · subst e; simpa using hrow
  · simp only [if_neg e]
    exact (h.row i hi).only ho (fun e2 => e (h.inj i r hi hr e2))

set_option maxRecDepth 100000 in
set_option maxHeartbeats 1000000 in
theorem zero_any (n m : Nat) (w : World) (hn : n ≤ 4096) (hm : m ≤ 65536) :
    Calls Tryd.prog 75 #[.int .i64 n, .int .i64 m] w fun e w' => e = .returned (.slice (some ⟨w.heap.size, 0, none⟩) n n) ∧
      MatAt w' w.heap.size n m (fun r => w.heap.size + 1 + r) (fun _ _ => 0) ∧ Below w.heap.size w w' ∧ w'.heap.size = w.heap.size + 1 + n := by
  have hmk := run_make_row' (P := Tryd.prog) 100 30 (.slice none 0 0) 24 Tryd.underlying100 Tryd.info30 rfl .i64 .i64 n (by omega) (by omega)
  go_enter Tryd.func75, Tryd.ntmps75
  go_wp2
  clear hmk
  go_loopw [11] (fun i wr => ∃ k : Nat, k ≤ n ∧ i = .int .i64 k ∧ wr.rowIs w.heap.size 30 n (fun r => if r < k then .slice (some ⟨w.heap.size + 1 + r, 0, none⟩) m m else .slice none 0 0) ∧ (∀ r, r < k → Row wr (w.heap.size + 1 + r) m (fun _ => 0)) ∧ Below w.heap.size w wr ∧ wr.heap.size = w.heap.size + 1 + k) (fun i _ => n - (intOf i).toNat)
  case atStart =>
    refine ⟨0, Nat.zero_le _, rfl, ?_, fun r hr => by omega, (Below.refl _ _).alloc (Nat.le_refl _) _, by simp⟩
    exact (World.rowIs_made w (.slice none 0 0) n 30).congr (by intro i _; simp)
  case round =>
    obtain ⟨k, hk, rfl, hrow, hrs, hbel, hsz⟩ := hrel
    have hmk := run_make_row' (P := Tryd.prog) 30 5 (.int .u8 0) 1 Tryd.underlying30 Tryd.info5 rfl .i64 .i64 m (by omega) (by omega)
    by_cases hlt : k < n
    · obtain ⟨W, hW⟩ : ∃ W, wr.alloc (.cells (madeCells #[.int .u8 0] m) 5) = W := ⟨_, rfl⟩
      have hrowW : W.rowIs w.heap.size 30 n (fun r => if r < k then .slice (some ⟨w.heap.size + 1 + r, 0, none⟩) m m else .slice none 0 0) := by rw [← hW]; exact hrow.alloc _
      have hnew : Row W (w.heap.size + 1 + k) m (fun _ => 0) := by
        refine ⟨fun _ _ => (by decide : (0 : Nat) < 256), ?_⟩
        have h := World.rowIs_made wr (.int .u8 0) m 5
        rw [hW, hsz] at h
        exact h
      have hWs : W.heap.size = w.heap.size + 1 + (k + 1) := by rw [← hW]; simp; omega
      have hWb : Below w.heap.size w W := by rw [← hW]; exact hbel.alloc hbel.size _
      have hWr : ∀ r, r < k → Row W (w.heap.size + 1 + r) m (fun _ => 0) := fun r hr => (hrs r hr).of_block (by rw [← hW]; exact Below.heap_alloc _ _ _ (hrs r hr).lt)
      have hc := hrowW.cell hlt
      simp only [if_neg (Nat.lt_irrefl k)] at hc
      have hf := hrowW.frozen k
      have hs := (hrowW.set k (.slice (some ⟨w.heap.size + 1 + k, 0, none⟩) m m)).congr (g := fun r => if r < k + 1 then .slice (some ⟨w.heap.size + 1 + r, 0, none⟩) m m else .slice none 0 0) (by
        intro j _
        by_cases e : j = k
        · subst e; simp
        · simp only [if_neg e]
          by_cases h2 : j < k
          · rw [if_pos h2, if_pos (by omega)]
          · rw [if_neg h2, if_neg (by omega)])
      have hO : Only w.heap.size W (W.setCell ⟨w.heap.size, k, none⟩ (.slice (some ⟨w.heap.size + 1 + k, 0, none⟩) m m)) := (Only.refl _ _).setCell _ _
      have HF : Hid ((W.setCell ⟨w.heap.size, k, none⟩ (.slice (some ⟨w.heap.size + 1 + k, 0, none⟩) m m)).rowIs w.heap.size 30 n (fun r => if r < k + 1 then .slice (some ⟨w.heap.size + 1 + r, 0, none⟩) m m else .slice none 0 0) ∧
          (∀ r, r < k + 1 → Row (W.setCell ⟨w.heap.size, k, none⟩ (.slice (some ⟨w.heap.size + 1 + k, 0, none⟩) m m)) (w.heap.size + 1 + r) m (fun _ => 0)) ∧
          Below w.heap.size w (W.setCell ⟨w.heap.size, k, none⟩ (.slice (some ⟨w.heap.size + 1 + k, 0, none⟩) m m)) ∧ (W.setCell ⟨w.heap.size, k, none⟩ (.slice (some ⟨w.heap.size + 1 + k, 0, none⟩) m m)).heap.size = w.heap.size + 1 + (k + 1)) := by
        refine ⟨hs, fun r hr => ?_, hWb.trans (hO.below (Nat.le_refl _)), hO.size.trans hWs⟩
        by_cases e : r = k
        · subst e; exact hnew.only hO (by omega)
        · exact (hWr r (by omega)).only hO (by omega)
      have hlt' : (k : Int) < (n : Int) := by omega
      clear hs hO hWr hWb hnew hrow hrs hbel hrowW
      go_wp2
      go_roundw
      case rel => exact ⟨k + 1, by omega, by go_num, HF.out⟩
      case measure => simp [intOf]; omega
    · have hkk : k = n := by omega
      subst hkk
      have HF : Hid (MatAt wr w.heap.size k m (fun r => w.heap.size + 1 + r) (fun _ _ => 0) ∧ Below w.heap.size w wr ∧ wr.heap.size = w.heap.size + 1 + k) :=
        ⟨⟨hrow.congr (by intro i hi; rw [if_pos hi]), hrs, fun r r' _ _ h => by omega, fun r _ => by omega⟩, hbel, hsz⟩
      clear hrow hrs hbel hsz hmk
      go_wp2
      go_ret
      exact ⟨rfl, HF.out⟩

/-- The unit matrix. -/
def gone (i j : Nat) : Nat := if i = j then 1 else 0

set_option maxRecDepth 100000 in
set_option maxHeartbeats 1000000 in
theorem identity_any (n : Nat) (w : World) (hn : n ≤ 4096) :
    Calls Tryd.prog 76 #[.int .i64 n] w fun e w' => e = .returned (.slice (some ⟨w.heap.size, 0, none⟩) n n) ∧
      MatAt w' w.heap.size n n (fun r => w.heap.size + 1 + r) gone ∧ Below w.heap.size w w' ∧ w'.heap.size = w.heap.size + 1 + n := by
  go_enter Tryd.func76, Tryd.ntmps76
  go_wp2_with fail
  refine Calls.mono (zero_any n n w hn (by omega)) ?_
  rintro r w1 ⟨rfl, hM, hb, hsz⟩
  have HM : Hid _ := hM
  have HB : Hid _ := hb
  have HZ : Hid _ := hsz
  clear hM hb hsz
  go_wp2
  go_loopw [10] (fun i wr => ∃ k : Nat, k ≤ n ∧ i = .int .i64 k ∧ MatAt wr w.heap.size n n (fun r => w.heap.size + 1 + r) (fun r c => if r < k then gone r c else 0) ∧ Below w.heap.size w wr ∧ wr.heap.size = w.heap.size + 1 + n) (fun i _ => n - (intOf i).toNat)
  case atStart => exact ⟨0, Nat.zero_le _, rfl, MatAt.congr HM.out (fun r _ c _ => by simp), HB.out, HZ.out⟩
  case round =>
    obtain ⟨k, hk, rfl, hM, hb, hsz⟩ := hrel
    clear HM HB HZ
    by_cases hlt : k < n
    · have c1 := hM.hdr.cell hlt
      have hrk := hM.row k hlt
      have c2 := hrk.cell hlt
      simp only [if_neg (Nat.lt_irrefl k)] at c2
      have hf := hrk.2.frozen k
      have hset := hrk.set k 1 (by omega)
      have hO : Only (w.heap.size + 1 + k) wr (wr.setCell ⟨w.heap.size + 1 + k, k, none⟩ (.int .u8 1)) := (Only.refl _ _).setCell _ _
      have HF : Hid (MatAt (wr.setCell ⟨w.heap.size + 1 + k, k, none⟩ (.int .u8 1)) w.heap.size n n (fun r => w.heap.size + 1 + r) (fun r c => if r < k + 1 then gone r c else 0) ∧ Below w.heap.size w (wr.setCell ⟨w.heap.size + 1 + k, k, none⟩ (.int .u8 1)) ∧ (wr.setCell ⟨w.heap.size + 1 + k, k, none⟩ (.int .u8 1)).heap.size = w.heap.size + 1 + n) := by
        refine ⟨(hM.rowSet hlt hO hset).congr fun r hr c hc => ?_, hb.trans (hO.below (by omega)), hO.size.trans hsz⟩
        by_cases e : r = k
        · subst e
          simp [gone, eq_comm]
        · simp only [if_neg e]
          by_cases h2 : r < k
          · rw [if_pos h2, if_pos (by omega)]
          · rw [if_neg h2, if_neg (by omega)]
      have hlt' : (k : Int) < (n : Int) := by omega
      clear hset hO hrk hM hb
      go_wp2
      go_roundw
      case rel => exact ⟨k + 1, by omega, by go_num, HF.out⟩
      case measure => simp [intOf]; omega
    · have hkk : k = n := by omega
      subst hkk
      have HF : Hid (MatAt wr w.heap.size k k (fun r => w.heap.size + 1 + r) gone ∧ Below w.heap.size w wr ∧ wr.heap.size = w.heap.size + 1 + k) :=
        ⟨hM.congr (fun r hr c _ => by rw [if_pos hr]), hb, hsz⟩
      clear hM hb hsz
      go_wp2
      go_ret
      exact ⟨rfl, HF.out⟩
end Go.Proofs.Qxb6500697aDoor
