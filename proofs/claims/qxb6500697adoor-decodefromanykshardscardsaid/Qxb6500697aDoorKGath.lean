/-
  LISTS OF SHARDS IN MEMORY; THE STRIPE; THE WALK OF gather.
-/
import Derived.Test.Qxb6500697aDoorKPlan2
import Derived.Test.Qxb6500697aDoorKHas
import Derived.Deep.RegionHeld3
import Derived.Deep.RegionWith
namespace Go.Proofs.Qxb6500697aDoor
open Go.RowKit

/-- What is read stays. -/
def Keeps (w w' : World) : Prop := ∀ b o v, w.cell? ⟨b, o, none⟩ = some v → w'.cell? ⟨b, o, none⟩ = some v
theorem Keeps.refl (w : World) : Keeps w w := fun _ _ _ h => h
theorem Keeps.trans {a b c : World} (h : Keeps a b) (k : Keeps b c) : Keeps a c := fun x y v hv => k x y v (h x y v hv)
theorem Below.keeps {w w' : World} (h : Below w.heap.size w w') : Keeps w w' := fun b o _ hv => (h.cell (p := ⟨b, o, none⟩) (cell_lt hv)).trans hv
theorem FRow.keeps {w w' : World} {ao : Option Addr} {m : Nat} {s : Nat → Nat} (h : FRow w ao m s) (k : Keeps w w') : FRow w' ao m s := by
  refine ⟨h.1, fun h0 => ?_⟩
  obtain ⟨b, o, ha, hc⟩ := h.2 h0
  exact ⟨b, o, ha, fun i hi => k b _ _ (hc i hi)⟩
theorem RMat.keeps {w w' : World} {ao : Option Addr} {n m : Nat} {A : Nat → Nat → Nat} (h : RMat w ao n m A) (k : Keeps w w') : RMat w' ao n m A := fun h0 => by
  obtain ⟨b, o, ha, hr⟩ := h h0
  refine ⟨b, o, ha, fun r hrn => ?_⟩
  obtain ⟨so, c, h1, h2, h3, h4⟩ := hr r hrn
  exact ⟨so, c, k _ _ _ h1, h2, h3, h4.keeps k⟩
theorem RMatF.keeps {w w' : World} {F : Nat → Prop} {ao : Option Addr} {n m : Nat} {A : Nat → Nat → Nat} (h : RMatF w F ao n m A) (k : Keeps w w') : RMatF w' F ao n m A := fun h0 => by
  obtain ⟨b, o, ha, hF, hr⟩ := h h0
  refine ⟨b, o, ha, hF, fun r hrn => ?_⟩
  obtain ⟨so, c, h1, h2, h3, h4, h5⟩ := hr r hrn
  exact ⟨so, c, k _ _ _ h1, h2, h3, h4.keeps k, h5⟩
theorem CodecAt.keeps {w w' : World} {F : Nat → Prop} {cb mb k m : Nat} (h : CodecAt w F cb mb k m) (kp : Keeps w w') : CodecAt w' F cb mb k m := by
  obtain ⟨H, c, h1, h2, h3, h4⟩ := h.g0
  obtain ⟨H', c', h1', h2', h3', h4'⟩ := h.g1
  exact ⟨kp _ _ _ h.c0, kp _ _ _ h.c1, ⟨H, c, kp _ _ _ h1, h2, h3, h4.keeps kp⟩, ⟨H', c', kp _ _ _ h1', h2', h3', h4'.keeps kp⟩, kp _ _ _ h.c4, h.hk, h.hm, h.hn, h.fc⟩

/-- A shard, as data. -/
structure Sd where
  g : Nat
  ix : Int
  ol : Int
  pa : Option Addr
  pl : Nat
  pc : Nat
  P : Nat → Nat
def Sd.pv (s : Sd) : Value := .slice s.pa s.pl s.pc
def Sd.cells (s : Sd) : List Value := [.int .u8 s.g, .int .i64 s.ix, .int .i64 s.ol, .slice s.pa s.pl s.pc]

structure SdOk (w : World) (s : Sd) : Prop where
  hg : s.g < 256
  hix : -9223372036854775808 ≤ s.ix ∧ s.ix ≤ 9223372036854775807
  hol : -9223372036854775808 ≤ s.ol ∧ s.ol ≤ 9223372036854775807
  pay : FRow w s.pa s.pl s.P
  cap : s.pl ≤ s.pc
  cap2 : s.pc ≤ 9223372036854775807
theorem SdOk.keeps {w w' : World} {s : Sd} (h : SdOk w s) (k : Keeps w w') : SdOk w' s := ⟨h.hg, h.hix, h.hol, h.pay.keeps k, h.cap, h.cap2⟩

/-- The shards lie behind a slice that begins at ao. -/
structure SdRow (w : World) (ao : Option Addr) (ss : List Sd) : Prop where
  row : 0 < ss.length → ∃ b, ao = some ⟨b, 0, none⟩ ∧ ∀ j (hj : j < ss.length), w.cell? ⟨b, j * 4, none⟩ = some (.int .u8 (ss[j]).g) ∧ w.cell? ⟨b, j * 4 + 1, none⟩ = some (.int .i64 (ss[j]).ix) ∧ w.cell? ⟨b, j * 4 + 2, none⟩ = some (.int .i64 (ss[j]).ol) ∧ w.cell? ⟨b, j * 4 + 3, none⟩ = some (.slice (ss[j]).pa (ss[j]).pl (ss[j]).pc)
  ok : ∀ s ∈ ss, SdOk w s
theorem SdRow.keeps {w w' : World} {ao : Option Addr} {ss : List Sd} (h : SdRow w ao ss) (k : Keeps w w') : SdRow w' ao ss := by
  refine ⟨fun h0 => ?_, fun s hs => (h.ok s hs).keeps k⟩
  obtain ⟨b, ha, hr⟩ := h.row h0
  refine ⟨b, ha, fun j hj => ?_⟩
  obtain ⟨h1, h2, h3, h4⟩ := hr j hj
  exact ⟨k _ _ _ h1, k _ _ _ h2, k _ _ _ h3, k _ _ _ h4⟩

/-! ### The stripe -/
/-- What the first loop of gather has found. -/
structure Gs where
  bg : Bool
  bi : Bool
  mx : Bool
  tw : Bool
  h : Nat
  rv : Nat → Value
def Gs.zero : Gs := ⟨false, false, false, false, 0, fun _ => .slice none 0 0⟩
def gstep (N g0 : Nat) (s : Gs) (x : Sd) : Gs :=
  if ¬ (x.g = 1 ∨ x.g = 2 ∨ x.g = 3) then { s with bg := true }
  else if x.ix < 0 ∨ (N : Int) ≤ x.ix then { s with bi := true }
  else if x.g ≠ g0 then { s with mx := true }
  else if s.h.testBit x.ix.toNat then { s with tw := true }
  else { s with h := s.h ||| 2 ^ x.ix.toNat, rv := fun i => if i = x.ix.toNat then x.pv else s.rv i }
def gfold (N g0 : Nat) (ss : List Sd) : Gs := ss.foldl (gstep N g0) Gs.zero
theorem gfold_snoc (N g0 : Nat) (ss : List Sd) (x : Sd) : gfold N g0 (ss ++ [x]) = gstep N g0 (gfold N g0 ss) x := by
  unfold gfold; rw [List.foldl_append]; rfl
theorem gfold_take (N g0 : Nat) (ss : List Sd) (j : Nat) (hj : j < ss.length) : gfold N g0 (ss.take (j + 1)) = gstep N g0 (gfold N g0 (ss.take j)) ss[j] := by
  rw [← gfold_snoc, List.take_succ_eq_append_getElem hj]
theorem gfold_h (N g0 : Nat) (ss : List Sd) (hN : N ≤ 16) : (gfold N g0 ss).h < 65536 := by
  have : ∀ (l : List Sd) (s : Gs), s.h < 65536 → (l.foldl (gstep N g0) s).h < 65536 := by
    intro l
    induction l with
    | nil => intro s h; exact h
    | cons x l ih =>
      intro s h
      refine ih _ ?_
      unfold gstep
      split
      · exact h
      · split
        · exact h
        · split
          · exact h
          · split
            · exact h
            · exact with_lt h (by omega)
  exact this ss Gs.zero (by show (0 : Nat) < 65536; decide)

def g0of (ss : List Sd) : Nat := match ss with | [] => 0 | x :: _ => x.g
def ol0of (ss : List Sd) : Int := match ss with | [] => 0 | x :: _ => x.ol
def goodG (g : Nat) : Prop := g = 1 ∨ g = 2 ∨ g = 3
theorem gfold_bg (N g0 : Nat) (ss : List Sd) (h : (gfold N g0 ss).bg = false) : ∀ x ∈ ss, goodG x.g := by
  have : ∀ (l : List Sd) (s : Gs), (l.foldl (gstep N g0) s).bg = false → s.bg = false ∧ ∀ x ∈ l, goodG x.g := by
    intro l
    induction l with
    | nil => intro s h; exact ⟨h, by simp⟩
    | cons x l ih =>
      intro s h
      obtain ⟨h1, h2⟩ := ih _ h
      by_cases hg : goodG x.g
      · refine ⟨?_, fun y hy => ?_⟩
        · unfold gstep at h1
          rw [if_neg (fun h => h hg)] at h1
          split at h1
          · exact h1
          · split at h1
            · exact h1
            · split at h1
              · exact h1
              · exact h1
        · rcases List.mem_cons.1 hy with rfl | hy
          · exact hg
          · exact h2 y hy
      · have hg' : ¬ (x.g = 1 ∨ x.g = 2 ∨ x.g = 3) := hg
        unfold gstep at h1
        rw [if_pos hg'] at h1
        simp at h1
  exact (this ss Gs.zero h).2
theorem goodG_g0 {ss : List Sd} (h : ∀ x ∈ ss, goodG x.g) (hne : ss ≠ []) : goodG (g0of ss) := by
  cases ss with
  | nil => exact absurd rfl hne
  | cons x l => exact h x List.mem_cons_self
theorem ol0_mem {ss : List Sd} (hne : ss ≠ []) : ∃ x ∈ ss, x.ol = ol0of ss := by
  cases ss with
  | nil => exact absurd rfl hne
  | cons x l => exact ⟨x, List.mem_cons_self, rfl⟩

/-- The stripe's cells. -/
def stc (fam size unit g : Nat) (ol : Int) (h : Nat) (rv : Nat → Value) (i : Nat) : Value :=
  if i = 0 then .int .u8 fam else if i = 1 then .int .i64 size else if i = 2 then .int .i64 unit else if i = 3 then .int .u8 g else if i = 4 then .int .i64 ol else if i = 5 then .int .u16 h else rv (i - 6)
theorem stc_row (fam size unit g : Nat) (ol : Int) (h : Nat) (rv : Nat → Value) (i : Nat) : stc fam size unit g ol h rv (6 + i) = rv i := by
  unfold stc
  rw [if_neg (by omega), if_neg (by omega), if_neg (by omega), if_neg (by omega), if_neg (by omega), if_neg (by omega), Nat.add_sub_cancel_left]

def shapeBad (k : Nat) (ss : List Sd) : Prop := ol0of ss < 0 ∨ 256 < ol0of ss ∨ ∃ x ∈ ss, x.ol ≠ ol0of ss ∨ x.pl ≠ psize (g0of ss) k (ol0of ss).toNat
open Classical in
/-- The refusal of a list whose shards are fit one by one. -/
noncomputable def gcls2 (k : Nat) (ss : List Sd) : Option Nat := if ss = [] then some 7 else if shapeBad k ss then some 6 else if ss.length < k then some 7 else none
theorem gcls2_nil (k : Nat) {ss : List Sd} (h : ss = []) : gcls2 k ss = some 7 := by unfold gcls2; rw [if_pos h]
theorem gcls2_shape {k : Nat} {ss : List Sd} (h : ss ≠ []) (hs : shapeBad k ss) : gcls2 k ss = some 6 := by unfold gcls2; rw [if_neg h, if_pos hs]
theorem gcls2_few {k : Nat} {ss : List Sd} (h : ss ≠ []) (hs : ¬ shapeBad k ss) (hl : ss.length < k) : gcls2 k ss = some 7 := by unfold gcls2; rw [if_neg h, if_neg hs, if_pos hl]
theorem gcls2_ok {k : Nat} {ss : List Sd} (h : ss ≠ []) (hs : ¬ shapeBad k ss) (hl : ¬ ss.length < k) : gcls2 k ss = none := by unfold gcls2; rw [if_neg h, if_neg hs, if_neg hl]
/-- The refusal that the shards' fields give rise to. -/
noncomputable def gcls (k N : Nat) (ss : List Sd) : Option Nat :=
  if (gfold N (g0of ss) ss).bg then some 1
  else if (gfold N (g0of ss) ss).bi then some 3
  else if (gfold N (g0of ss) ss).mx then some 4
  else if (gfold N (g0of ss) ss).tw then some 5
  else gcls2 k ss

/-- The stripe of a good list. -/
def StOk (w : World) (sb k N : Nat) (ss : List Sd) : Prop :=
  w.rowIs sb 120 22 (stc (pfam (g0of ss)) (psize (g0of ss) k (ol0of ss).toNat) (punit (g0of ss) k (ol0of ss).toNat) (g0of ss) (ol0of ss) (gfold N (g0of ss) ss).h (gfold N (g0of ss) ss).rv)

def GPost (e : Nat → Addr) (w : World) (k N : Nat) (ss : List Sd) (r : Ending) (w' : World) : Prop :=
  Below w.heap.size w w' ∧ match gcls k N ss with
  | some i => r = .returned (.tuple #[.pointer none, errV e (some i)])
  | none => r = .returned (.tuple #[.pointer (some ⟨w.heap.size, 0, none⟩), .nilIface]) ∧ StOk w' w.heap.size k N ss

theorem GPost.bad {e : Nat → Addr} {w w' : World} {k N i : Nat} {ss : List Sd} (h : gcls k N ss = some i) (hb : Below w.heap.size w w') : GPost e w k N ss (.returned (.tuple #[.pointer none, errV e (some i)])) w' := by
  unfold GPost; rw [h]; exact ⟨hb, rfl⟩
theorem GPost.good {e : Nat → Addr} {w w' : World} {k N : Nat} {ss : List Sd} (h : gcls k N ss = none) (hb : Below w.heap.size w w') (hs : StOk w' w.heap.size k N ss) : GPost e w k N ss (.returned (.tuple #[.pointer (some ⟨w.heap.size, 0, none⟩), .nilIface])) w' := by
  unfold GPost; rw [h]; exact ⟨hb, rfl, hs⟩

/-- In the midst of gather. -/
structure Mid (w wq : World) (h : Nat) (rv : Nat → Value) : Prop where
  row : wq.rowIs w.heap.size 120 22 (stc 0 0 0 0 0 h rv)
  bel : Below w.heap.size w wq
theorem Mid.sz {w wq : World} {h : Nat} {rv : Nat → Value} (m : Mid w wq h rv) : w.heap.size < wq.heap.size := m.row.lt
theorem Mid.alloc {w wq : World} {h : Nat} {rv : Nat → Value} (m : Mid w wq h rv) (o : Obj) : Mid w (wq.alloc o) h rv := ⟨m.row.alloc o, m.bel.alloc m.bel.size o⟩
theorem Mid.drewN {w wq : World} {h : Nat} {rv : Nat → Value} (m : Mid w wq h rv) (q : Nat) : Mid w (wq.drewN q) h rv := ⟨m.row.of_block (by rw [(World.drewN_alike _ _).1]), m.bel.trans (drewN_below _ _ _)⟩
theorem Mid.c5 {w wq : World} {h : Nat} {rv : Nat → Value} (m : Mid w wq h rv) : wq.cell? ⟨w.heap.size, 5, none⟩ = some (.int .u16 h) := m.row.cell (i := 5) (by decide)
theorem Mid.setH {w wq : World} {h : Nat} {rv : Nat → Value} (m : Mid w wq h rv) (h' : Nat) : Mid w (wq.setCell ⟨w.heap.size, 5, none⟩ (.int .u16 h')) h' rv := by
  refine ⟨(m.row.set 5 _).congr (fun i _ => ?_), m.bel.setCell (p := ⟨w.heap.size, 5, none⟩) (Nat.le_refl _) _⟩
  by_cases e : i = 5
  · subst e; rw [if_pos rfl]; rfl
  · rw [if_neg e]
    unfold stc
    simp only [if_neg e]
theorem Mid.setR {w wq : World} {h : Nat} {rv : Nat → Value} (m : Mid w wq h rv) (n : Nat) (v : Value) : Mid w (wq.setCell ⟨w.heap.size, 6 + n, none⟩ v) h (fun i => if i = n then v else rv i) := by
  refine ⟨(m.row.set (6 + n) v).congr (fun i _ => ?_), m.bel.setCell (p := ⟨w.heap.size, 6 + n, none⟩) (Nat.le_refl _) _⟩
  by_cases e : i = 6 + n
  · subst e; rw [if_pos rfl, stc_row, if_pos rfl]
  · rw [if_neg e]
    unfold stc
    by_cases h0 : i = 0
    · simp only [if_pos h0]
    · by_cases h1 : i = 1
      · simp only [if_neg h0, if_pos h1]
      · by_cases h2 : i = 2
        · simp only [if_neg h0, if_neg h1, if_pos h2]
        · by_cases h3 : i = 3
          · simp only [if_neg h0, if_neg h1, if_neg h2, if_pos h3]
          · by_cases h4 : i = 4
            · simp only [if_neg h0, if_neg h1, if_neg h2, if_neg h3, if_pos h4]
            · by_cases h5 : i = 5
              · simp only [if_neg h0, if_neg h1, if_neg h2, if_neg h3, if_neg h4, if_pos h5]
              · simp only [if_neg h0, if_neg h1, if_neg h2, if_neg h3, if_neg h4, if_neg h5]
                rw [if_neg (by omega)]

theorem stc_34 (g : Nat) (ol : Int) (h : Nat) (rv : Nat → Value) (i : Nat) : (if i = 4 then Value.int .i64 ol else if i = 3 then Value.int .u8 g else stc 0 0 0 0 0 h rv i) = stc 0 0 0 g ol h rv i := by
  by_cases h4 : i = 4
  · subst h4; rfl
  · rw [if_neg h4]
    by_cases h3 : i = 3
    · subst h3; rfl
    · rw [if_neg h3]; unfold stc; simp only [if_neg h4, if_neg h3]
theorem stc_43 (g : Nat) (ol : Int) (h : Nat) (rv : Nat → Value) (i : Nat) : (if i = 3 then Value.int .u8 g else if i = 4 then Value.int .i64 ol else stc 0 0 0 0 0 h rv i) = stc 0 0 0 g ol h rv i := by
  by_cases h4 : i = 4
  · subst h4; rfl
  · rw [if_neg h4]
    by_cases h3 : i = 3
    · subst h3; rfl
    · rw [if_neg h3]; unfold stc; simp only [if_neg h4, if_neg h3]
theorem stc_012 (fam size unit g : Nat) (ol : Int) (h : Nat) (rv : Nat → Value) (i : Nat) : (if i = 2 then Value.int .i64 unit else if i = 1 then Value.int .i64 size else if i = 0 then Value.int .u8 fam else stc 0 0 0 g ol h rv i) = stc fam size unit g ol h rv i := by
  by_cases h2 : i = 2
  · subst h2; rfl
  · rw [if_neg h2]
    by_cases h1 : i = 1
    · subst h1; rfl
    · rw [if_neg h1]
      by_cases h0 : i = 0
      · subst h0; rfl
      · rw [if_neg h0]; unfold stc; simp only [if_neg h2, if_neg h1, if_neg h0]

theorem g0of_cell {w : World} {ao : Option Addr} {ss : List Sd} (h : SdRow w ao ss) (h0 : 0 < ss.length) : ∃ b, ao = some ⟨b, 0, none⟩ ∧ w.cell? ⟨b, 0, none⟩ = some (.int .u8 (g0of ss)) ∧ w.cell? ⟨b, 2, none⟩ = some (.int .i64 (ol0of ss)) := by
  obtain ⟨b, ha, hr⟩ := h.row h0
  obtain ⟨h1, h2, h3, h4⟩ := hr 0 h0
  refine ⟨b, ha, ?_⟩
  cases ss with
  | nil => simp at h0
  | cons x l => exact ⟨h1, h3⟩
end Go.Proofs.Qxb6500697aDoor
