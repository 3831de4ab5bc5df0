/-
  MEMORY OF ONE's OWN: A SHARD CLONED, A TRAY OF SHARDS.
-/
import Derived.Test.Qxb6500697aDoorMAbs
import Derived.Test.Qxb6500697aDoorKAppL
namespace Go.Proofs.Qxb6500697aDoor
open Go.RowKit

/-- Bytes as cells. -/
def bytV (n : Nat) (s : Nat → Nat) : List Value := ((List.range n).map s).map fun y => Value.int .u8 ((y : Nat) : Int)
theorem own_same {w w' : World} {base : Nat} {e : TypeId} {s : Nat} {v : Value} {n : Nat} {xs : List Value} (h : w.ownsRow base e s v n xs) (hk : ∀ b, base ≤ b → w'.heap[b]? = w.heap[b]?) : w'.ownsRow base e s v n xs := by
  refine ⟨h.1, ?_⟩
  rcases h.2 with h1 | ⟨g, cap, cur, hv, hb, hg, hr⟩
  · exact .inl h1
  · exact .inr ⟨g, cap, cur, hv, hb, (hk g hb).trans hg, hr⟩
theorem _root_.Go.World.ownsRow.base {w : World} {base base' : Nat} {e : TypeId} {s : Nat} {v : Value} {n : Nat} {xs : List Value} (h : w.ownsRow base e s v n xs) (hb : base' ≤ base) : w.ownsRow base' e s v n xs := by
  refine ⟨h.1, ?_⟩
  rcases h.2 with h1 | ⟨g, cap, cur, hv, hg0, hg, hr⟩
  · exact .inl h1
  · exact .inr ⟨g, cap, cur, hv, Nat.le_trans hb hg0, hg, hr⟩
/-- Only the block itself matters. -/
theorem own_block {w w' : World} {base : Nat} {e : TypeId} {s : Nat} {v : Value} {n : Nat} {xs : List Value} (h : w.ownsRow base e s v n xs) (hk : ∀ b, v.ownBlock = some b → w'.heap[b]? = w.heap[b]?) : w'.ownsRow base e s v n xs := by
  refine ⟨h.1, ?_⟩
  rcases h.2 with h1 | ⟨g, cap, cur, hv, hb, hg, hr⟩
  · exact .inl h1
  · exact .inr ⟨g, cap, cur, hv, hb, (hk g (by rw [hv]; rfl)).trans hg, hr⟩

/-- The payload lies in memory of its own. -/
def OwnP (B : Nat) (w : World) (x : Sd) : Prop := w.ownsRow B 5 1 x.pv x.pl (bytV x.pl x.P)
/-- The numbers of a shard are in their ranges. -/
structure RngS (x : Sd) : Prop where
  hg : x.g < 256
  hix : -9223372036854775808 ≤ x.ix ∧ x.ix ≤ 9223372036854775807
  hol : -9223372036854775808 ≤ x.ol ∧ x.ol ≤ 9223372036854775807
  byt : ∀ i, i < x.pl → x.P i < 256
theorem OwnP.ok {B : Nat} {w : World} {x : Sd} (h : OwnP B w x) (hr : RngS x) : SdOk w x := by
  obtain ⟨ao, c, h1, h2, h3, h4⟩ := fresh_of_owns (w := { w with heap := #[] }) (base := B) (n := x.pl) (m := x.pl) (s := x.P) (v := x.pv) h hr.byt (Nat.zero_le _)
  unfold Sd.pv at h1
  cases h1
  exact ⟨hr.hg, hr.hix, hr.hol, h4.1, h2, h3⟩

/-- What Clone answers, the payload in memory of its own. -/
def CnOwn (w : World) (x : Sd) (r : Ending) (w' : World) : Prop := Below w.heap.size w w' ∧ ∃ pa pc, r = .returned (.agg #[.int .u8 x.g, .int .i64 x.ix, .int .i64 x.ol, .slice pa x.pl pc]) ∧ OwnP w.heap.size w' (x.with pa pc)

set_option maxRecDepth 100000 in
set_option maxHeartbeats 2000000 in
theorem sclone_own (x : Sd) (w : World) (hx : SdOk w x) (hn : x.pl ≤ 140737488355328) :
    Calls Tryd.prog 52 #[.agg #[.int .u8 x.g, .int .i64 x.ix, .int .i64 x.ol, .slice x.pa x.pl x.pc]] w (CnOwn w x) := by
  obtain ⟨W, hW⟩ : ∃ W, (w.alloc (.cells #[.int .u8 x.g, .int .i64 x.ix, .int .i64 x.ol, .slice x.pa x.pl x.pc] 60)).alloc (.cells #[.int .u8 0, .int .i64 0, .int .i64 0, .slice none 0 0] 60) = W := ⟨_, rfl⟩
  have hB : Below w.heap.size w W := by rw [← hW]; exact ((Below.refl _ _).alloc (Nat.le_refl _) _).alloc (by simp) _
  have hWs : W.heap.size = w.heap.size + 2 := by rw [← hW]; simp
  have HR : Hid (BRow W x.pa ((List.range x.pl).map x.P)) := (hx.pay.below hB).brow'
  have hlt := hx.pay.1
  have hx0 : W.heap[w.heap.size]? = some (.cells #[.int .u8 x.g, .int .i64 x.ix, .int .i64 x.ol, .slice x.pa x.pl x.pc] 60 (0, 0)) := by
    rw [← hW, Below.heap_alloc _ _ _ (by simp)]; exact heap_alloc_new w _
  have hx1 : W.heap[w.heap.size + 1]? = some (.cells #[.int .u8 0, .int .i64 0, .int .i64 0, .slice none 0 0] 60 (0, 0)) := by
    have h := heap_alloc_new (w.alloc (.cells #[.int .u8 x.g, .int .i64 x.ix, .int .i64 x.ol, .slice x.pa x.pl x.pc] 60)) (.cells #[.int .u8 0, .int .i64 0, .int .i64 0, .slice none 0 0] 60)
    rw [hW] at h
    simpa using h
  have p3 : W.cell? ⟨w.heap.size, 3, none⟩ = some (.slice x.pa x.pl x.pc) := by simp [World.cell?, hx0]
  have HO : Hid (W.ownsRow (w.heap.size + 2) 5 1 (.slice none 0 0) ([] : List Nat).length (([] : List Nat).map fun y => Value.int .u8 ((y : Nat) : Int))) := by
    have h := World.ownsRow_nil W (w.heap.size + 2) 5 1
    exact h
  have hll : ((List.range x.pl).map x.P).length = x.pl := by simp
  have hlb : ([] : List Nat).length + ((List.range x.pl).map x.P).length ≤ 140737488355328 := by rw [hll]; simpa using hn
  have HFin : Hid (∀ v' w', w'.ownsRow (w.heap.size + 2) 5 1 v' ([] ++ (List.range x.pl).map x.P).length (([] ++ (List.range x.pl).map x.P).map fun y => Value.int .u8 ((y : Nat) : Int)) → W.grownBy w' none → ∃ pa pc, v' = .slice pa x.pl pc ∧ x.pl ≤ pc ∧ pc ≤ 9223372036854775807 ∧ w'.ownsRow (w.heap.size + 2) 5 1 (.slice pa x.pl pc) x.pl (bytV x.pl x.P) ∧ Below w.heap.size w w' ∧ w'.heap[w.heap.size]? = some (.cells #[.int .u8 x.g, .int .i64 x.ix, .int .i64 x.ol, .slice x.pa x.pl x.pc] 60 (0, 0)) ∧ w'.heap[w.heap.size + 1]? = some (.cells #[.int .u8 0, .int .i64 0, .int .i64 0, .slice none 0 0] 60 (0, 0))) := by
    intro v' w' h1 h2
    rw [List.nil_append] at h1
    obtain ⟨ao', c', q1, q2, q3, q4⟩ := fresh_of_owns (w := W) h1 hlt (by omega)
    have q4' : w'.ownsRow (w.heap.size + 2) 5 1 (.slice ao' x.pl c') x.pl (bytV x.pl x.P) := by rw [← q1]; simpa [bytV] using h1
    exact ⟨ao', c', q1, q2, q3, q4', hB.grown h2 hB.size (fun k hk => by cases hk), (h2.block _ (by omega) (by simp)).trans hx0, (h2.block _ (by omega) (by simp)).trans hx1⟩
  have hbase : w.heap.size + 2 ≤ W.heap.size := by omega
  clear hx hB hx0 hx1
  go_enter Tryd.func52, Tryd.ntmps52
  go_wp2_with (at_builtin; refine wpList_append_bytes W (by rfl) _ _ (by rfl) (w.heap.size + 2) (.slice none 0 0) [] ((List.range x.pl).map x.P) (by rfl) HO.out x.pa x.pc (by rw [hll]; rfl) HR.out hlb hbase ?_; intro v' w' h1 h2 h3; obtain ⟨pa, pc, hv, hq⟩ := HFin.out v' w' h1 h2; subst hv; have HQ : Hid _ := hq; have y0 := hq.2.2.2.2.1; have y1 := hq.2.2.2.2.2; have a0 : w'.cell? ⟨w.heap.size, 0, none⟩ = some (.int .u8 x.g) := (by simp [World.cell?, y0]); have a1 : w'.cell? ⟨w.heap.size, 1, none⟩ = some (.int .i64 x.ix) := (by simp [World.cell?, y0]); have a2 : w'.cell? ⟨w.heap.size, 2, none⟩ = some (.int .i64 x.ol) := (by simp [World.cell?, y0]); have a3 : w'.cell? ⟨w.heap.size, 3, none⟩ = some (.slice x.pa x.pl x.pc) := (by simp [World.cell?, y0]); have af : ∀ i, w'.frozen? ⟨w.heap.size, i, none⟩ = false := (fun i => by simp [World.frozen?, y0]); have b0 : w'.cell? ⟨w.heap.size + 1, 0, none⟩ = some (.int .u8 0) := (by simp [World.cell?, y1]); have b1 : w'.cell? ⟨w.heap.size + 1, 1, none⟩ = some (.int .i64 0) := (by simp [World.cell?, y1]); have b2 : w'.cell? ⟨w.heap.size + 1, 2, none⟩ = some (.int .i64 0) := (by simp [World.cell?, y1]); have b3 : w'.cell? ⟨w.heap.size + 1, 3, none⟩ = some (.slice none 0 0) := (by simp [World.cell?, y1]); have bf : ∀ i, w'.frozen? ⟨w.heap.size + 1, i, none⟩ = false := (fun i => by simp [World.frozen?, y1]); clear h1 h2 h3 hq y0 y1)
  obtain ⟨Wf, hWf⟩ : ∃ Wf, ((((w'.setCell ⟨w.heap.size, 3, none⟩ (.slice pa x.pl pc)).setCell ⟨w.heap.size + 1, 0, none⟩ (.int .u8 (x.g : Int))).setCell ⟨w.heap.size + 1, 1, none⟩ (.int .i64 x.ix)).setCell ⟨w.heap.size + 1, 2, none⟩ (.int .i64 x.ol)).setCell ⟨w.heap.size + 1, 3, none⟩ (.slice pa x.pl pc) = Wf := ⟨_, rfl⟩
  rw [hWf]
  obtain ⟨q1, q2, q3, q4, q5, q6⟩ := HQ.out
  have hfin : Wf.heap[w.heap.size + 1]? = some (.cells #[.int .u8 (x.g : Int), .int .i64 x.ix, .int .i64 x.ol, .slice pa x.pl pc] 60 (0, 0)) := by
    rw [← hWf]; simp [World.setCell, Array.getElem?_modify, q6]
  have hoth : ∀ b, w.heap.size + 2 ≤ b → Wf.heap[b]? = w'.heap[b]? := by
    intro b hb
    rw [← hWf]
    have e0 : w.heap.size ≠ b := by omega
    have e1 : w.heap.size + 1 ≠ b := by omega
    simp [World.setCell, Array.getElem?_modify, e0, e1]
  have hbel : Below w.heap.size w Wf := by
    rw [← hWf]
    exact ((((q4.setCell (p := ⟨w.heap.size, 3, none⟩) (Nat.le_refl _) _).setCell (p := ⟨w.heap.size + 1, 0, none⟩) (Nat.le_succ _) _).setCell (p := ⟨w.heap.size + 1, 1, none⟩) (Nat.le_succ _) _).setCell (p := ⟨w.heap.size + 1, 2, none⟩) (Nat.le_succ _) _).setCell (p := ⟨w.heap.size + 1, 3, none⟩) (Nat.le_succ _) _
  have HF : Hid (CnOwn w x (.returned (.agg #[.int .u8 (x.g : Int), .int .i64 x.ix, .int .i64 x.ol, .slice pa x.pl pc])) Wf) := ⟨hbel, pa, pc, rfl, (own_same q3 hoth).base (by omega)⟩
  have z0 : Wf.cell? ⟨w.heap.size + 1, 0, none⟩ = some (.int .u8 (x.g : Int)) := by simp [World.cell?, hfin]
  have z1 : Wf.cell? ⟨w.heap.size + 1, 1, none⟩ = some (.int .i64 x.ix) := by simp [World.cell?, hfin]
  have z2 : Wf.cell? ⟨w.heap.size + 1, 2, none⟩ = some (.int .i64 x.ol) := by simp [World.cell?, hfin]
  have z3 : Wf.cell? ⟨w.heap.size + 1, 3, none⟩ = some (.slice pa x.pl pc) := by simp [World.cell?, hfin]
  refine bodyPost_ret (v := .agg #[.int .u8 (x.g : Int), .int .i64 x.ix, .int .i64 x.ol, .slice pa x.pl pc]) (by simp [results, Tryd.results52, go_sem, z0, z1, z2, z3]) rfl HF.out

end Go.Proofs.Qxb6500697aDoor
