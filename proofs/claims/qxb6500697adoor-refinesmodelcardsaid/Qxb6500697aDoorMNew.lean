/-
  THE TWO MACHINES AT THE START; Answer.Same OF TWO ANSWERS IN MEMORY.
-/
import Derived.Test.Qxb6500697aDoorMRAll
namespace Go.Proofs.Qxb6500697aDoor
open Go.RowKit

/-- A new bench. -/
structure NB (w w1 : World) (bb cb mb : Nat) : Prop where
  blk : w1.heap[bb]? = some (.cells #[.pointer (some ⟨cb, 0, none⟩), .slice none 0 0] 81 (0, 0))
  codec : CodecAt w1 (fun b => w.heap.size ≤ b ∧ b ≠ bb) cb mb 4 2
  map : w1.heap[mb]? = some (.map #[] 0)
  hmb : w.heap.size ≤ mb
  hbb : w.heap.size ≤ bb
  ne : mb ≠ bb
  bel : Below w.heap.size w w1

set_option maxRecDepth 100000 in
set_option maxHeartbeats 1000000 in
theorem newBench_any (w : World) : Calls Tryd.prog 12 #[] w fun r w' => ∃ bb cb mb, r = .returned (.pointer (some ⟨bb, 0, none⟩)) ∧ NB w w' bb cb mb := by
  have HNe : Hid (Calls Tryd.prog 38 #[.int .i64 4, .int .i64 2] w fun r w' => Below w.heap.size w w' ∧ r = .returned (.tuple #[.pointer (some ⟨w.heap.size + 1, 0, none⟩), .nilIface]) ∧ CodecAt w' (fun b => w.heap.size ≤ b) (w.heap.size + 1) w.heap.size 4 2 ∧ w'.heap[w.heap.size]? = some (.map #[] 0)) := new_ok 4 2 w (by omega) (by omega) (by omega)
  go_enter Tryd.func12, Tryd.ntmps12
  go_wp2_with fail
  refine Calls.mono HNe.out ?_
  rintro r w1 ⟨hb1, rfl, hC1, hm1⟩
  have HF : Hid (NB w (w1.alloc (.cells #[.pointer (some ⟨w.heap.size + 1, 0, none⟩), .slice none 0 0] 81)) w1.heap.size (w.heap.size + 1) w.heap.size) := by
    have hba : Below w1.heap.size w1 (w1.alloc (.cells #[.pointer (some ⟨w.heap.size + 1, 0, none⟩), .slice none 0 0] 81)) := (Below.refl _ _).alloc (Nat.le_refl _) _
    have hlt := heap_lt hm1
    exact ⟨heap_alloc_new w1 _, (hC1.mono (F' := fun b => w.heap.size ≤ b ∧ b ≠ w1.heap.size) (fun b hb hF => ⟨hF, by omega⟩)).below hba, (hba.block _ hlt).trans hm1, Nat.le_refl _, by omega, by omega, hb1.trans (hba.mono hb1.size)⟩
  clear hb1 hC1 hm1 HNe
  go_wp2
  go_ret
  exact ⟨_, _, _, rfl, HF.out⟩

set_option maxRecDepth 100000 in
theorem mnew_any (w : World) : Calls Tryd.prog 13 #[] w fun r w' => r = .returned (.pointer (some ⟨w.heap.size, 0, none⟩)) ∧ w' = w.alloc (.cells #[.int .i64 4, .int .i64 2, .slice none 0 0] 83) := by
  go_enter Tryd.func13, Tryd.ntmps13
  go_wp2
  go_ret
  exact ⟨rfl, rfl⟩

/-- The two machines at the start. -/
theorem NB.start {w w1 w2 : World} {bb cb mb sb : Nat} (h : NB w w1 bb cb mb) (hb : Below w1.heap.size w1 w2) (hsb : w1.heap.size ≤ sb) (hs : w2.heap[sb]? = some (.cells #[.int .i64 4, .int .i64 2, .slice none 0 0] 83 (0, 0))) :
    RS w.heap.size w2 bb sb cb mb 4 2 4 2 (.slice none 0 0) [] (.slice none 0 0) [] 4096 NoZ := by
  have hbl := heap_lt h.blk
  have hml := heap_lt h.map
  have hx : ∀ b, XS bb sb (.slice none 0 0) [] (.slice none 0 0) [] NoZ b → b = bb ∨ b = sb := fun b hb => by
    rcases hb with h3 | h3 | h3 | h3 | h3
    · exact .inl h3
    · exact .inr h3
    · exact (tblk_nil b h3).elim
    · exact (tblk_nil b h3).elim
    · exact (h3 : False).elim
  have h1 := h.hbb
  have h2 := h.hmb
  have h3 := h.ne
  refine ⟨(hb.block bb hbl).trans h.blk, hs, Tray.nil _ _, Tray.nil _ _, by simp, by simp, by simp, by simp, ?_, Cache.empty _ _ ((hb.block mb hml).trans h.map), fun hm => ?_, ⟨h1, by omega, h2⟩, by omega, ⟨tblk_nil _, tblk_nil _⟩, ⟨tblk_nil _, tblk_nil _⟩, fun b hb => (tblk_nil b hb).elim, fun b hb => (hb : False).elim, by omega⟩
  · refine (h.codec.mono (fun b hlt hF => ⟨hF.1, fun hq => ?_⟩)).below hb
    rcases hx b hq with rfl | rfl
    · exact hF.2 rfl
    · omega
  · rcases hx mb hm with h4 | h4 <;> omega

/-- Two answers in memory that show the same. -/
theorem same_ans {w : World} {u v : Value} {A A' : Ans} (h1 : AnsOk w u A) (h2 : AnsOk w v A') (he : AnsEq A A') : Calls Tryd.prog 15 #[u, v] w fun r w' => r = .returned (.bool true) ∧ Below w.heap.size w w' := by
  obtain ⟨da, dca, ao, ca, la, lca, rfl, f1, s1, z1, l1, l2, l3, p1⟩ := h1
  obtain ⟨db, dcb, bo, cb, lb, lcb, rfl, f2, s2, z2, _, _, _, _⟩ := h2
  rw [← he.er, ← he.D, ← he.sh.len, ← he.M, ← he.n]
  rw [← he.D] at f2
  rw [← he.M] at z2
  exact asame_eq w A.er A.n da db A.D dca dcb A.df A'.df ao bo ca cb A.sh.length A.sh A'.sh la lb A.M lca lcb A.lf A'.lf f1 f2 (by omega) he.df s1 s2 rfl he.sh.len.symm (by omega) (fun i hi => he.sh.eq i hi) (fun i hi => by have := p1 _ (getD_mem (d := Sd.zero) hi); omega) z1 z2 (by omega) he.lf
end Go.Proofs.Qxb6500697aDoor
