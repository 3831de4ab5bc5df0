/-
  THE WALKS OF THE RUNNING FLETCHER-32 (Write, Sum32, Len, Reset) AND OF THE MODEL'S FLETCHER-32.
-/
import Derived.Test.Qxb6500698aGreatDoorFltW
import Derived.Test.Qxb6500698aGreatDoorSplit
import Derived.Deep.RegionWith
import Derived.Deep.DrawnRows
import Derived.Deep.Cut
import Derived.Deep.CutRange
namespace Go.Proofs.Qxb6500698aGreatDoor
open Go.RowKit
attribute [local go_sem ↓] Go.wp_at_zero Go.wp_at_succ

/-- What the block holds besides. -/
structure MQ where
  eng : Value
  crc : Value
  wr : Value
  rd : Value
/-- The running checksum in block d, behind two other cells. -/
def FdAt (p : MQ) (w : World) (d s1 s2 low : Nat) (sp : Bool) (n : Nat) : Prop := w.heap[d]? = some (.cells #[p.eng, p.crc, .int .u32 s1, .int .u32 s2, .int .u8 low, .bool sp, .int .u64 n, p.wr, p.rd] 50 (0, 0))
variable {p : MQ}

section
variable {w : World} {d s1 s2 low n : Nat} {sp : Bool}
theorem FdAt.c0 (h : FdAt p w d s1 s2 low sp n) : w.cell? ⟨d, 2, none⟩ = some (.int .u32 s1) := by unfold FdAt at h; simp [World.cell?, h]
theorem FdAt.c1 (h : FdAt p w d s1 s2 low sp n) : w.cell? ⟨d, 3, none⟩ = some (.int .u32 s2) := by unfold FdAt at h; simp [World.cell?, h]
theorem FdAt.c2 (h : FdAt p w d s1 s2 low sp n) : w.cell? ⟨d, 4, none⟩ = some (.int .u8 low) := by unfold FdAt at h; simp [World.cell?, h]
theorem FdAt.c3 (h : FdAt p w d s1 s2 low sp n) : w.cell? ⟨d, 5, none⟩ = some (.bool sp) := by unfold FdAt at h; simp [World.cell?, h]
theorem FdAt.c4 (h : FdAt p w d s1 s2 low sp n) : w.cell? ⟨d, 6, none⟩ = some (.int .u64 n) := by unfold FdAt at h; simp [World.cell?, h]
theorem FdAt.fr (h : FdAt p w d s1 s2 low sp n) (i : Nat) : w.frozen? ⟨d, i, none⟩ = false := by unfold FdAt at h; simp [World.frozen?, h]
theorem FdAt.lt (h : FdAt p w d s1 s2 low sp n) : d < w.heap.size := cell_lt h.c0
theorem FdAt.of_block {w' : World} (h : FdAt p w d s1 s2 low sp n) (e : w'.heap[d]? = w.heap[d]?) : FdAt p w' d s1 s2 low sp n := e.trans h
theorem FdAt.drewN (h : FdAt p w d s1 s2 low sp n) (m : Nat) : FdAt p (w.drewN m) d s1 s2 low sp n := h
theorem FdAt.set0 (h : FdAt p w d s1 s2 low sp n) (x : Nat) : FdAt p (w.setCell ⟨d, 2, none⟩ (.int .u32 (x : Int))) d x s2 low sp n := by
  unfold FdAt at *; simp [World.setCell, Array.getElem?_modify, h]
theorem FdAt.set1 (h : FdAt p w d s1 s2 low sp n) (x : Nat) : FdAt p (w.setCell ⟨d, 3, none⟩ (.int .u32 (x : Int))) d s1 x low sp n := by
  unfold FdAt at *; simp [World.setCell, Array.getElem?_modify, h]
theorem FdAt.set2 (h : FdAt p w d s1 s2 low sp n) (x : Nat) : FdAt p (w.setCell ⟨d, 4, none⟩ (.int .u8 (x : Int))) d s1 s2 x sp n := by
  unfold FdAt at *; simp [World.setCell, Array.getElem?_modify, h]
theorem FdAt.set3 (h : FdAt p w d s1 s2 low sp n) (x : Bool) : FdAt p (w.setCell ⟨d, 5, none⟩ (.bool x)) d s1 s2 low x n := by
  unfold FdAt at *; simp [World.setCell, Array.getElem?_modify, h]
theorem FdAt.set4 (h : FdAt p w d s1 s2 low sp n) (x : Nat) : FdAt p (w.setCell ⟨d, 6, none⟩ (.int .u64 (x : Int))) d s1 s2 low sp x := by
  unfold FdAt at *; simp [World.setCell, Array.getElem?_modify, h]
end

/-- Block d alone may have been written. -/
structure Only (d : Nat) (w w' : World) : Prop where
  os : w'.os = w.os
  tape : w'.tape = w.tape
  output : w'.output = w.output
  size : w'.heap.size = w.heap.size
  block : ∀ k, k ≠ d → w'.heap[k]? = w.heap[k]?
theorem Only.refl (d : Nat) (w : World) : Only d w w := ⟨rfl, rfl, rfl, rfl, fun _ _ => rfl⟩
theorem Only.setCell {d : Nat} {a w : World} (h : Only d a w) (i : Nat) (u : Value) : Only d a (w.setCell ⟨d, i, none⟩ u) :=
  ⟨h.os, h.tape, h.output, by rw [← h.size]; simp [World.setCell], fun k hk => by rw [← h.block k hk]; simp [World.setCell, Array.getElem?_modify, Ne.symm hk]⟩
theorem Only.drewN {d : Nat} {a w : World} (h : Only d a w) (m : Nat) : Only d a (w.drewN m) := ⟨h.os, (drewN_below w m 0).tape.trans h.tape, h.output, h.size, h.block⟩
theorem Only.trans {d : Nat} {a b c : World} (h : Only d a b) (k : Only d b c) : Only d a c := ⟨k.os.trans h.os, k.tape.trans h.tape, k.output.trans h.output, k.size.trans h.size, fun i hi => (k.block i hi).trans (h.block i hi)⟩
theorem Only.below {d B : Nat} {a w : World} (h : Only d a w) (hB : B ≤ d) : Below B a w := ⟨h.os, h.tape, h.output, Nat.le_of_eq h.size.symm, fun k hk => h.block k (by omega)⟩
theorem Only.cell {d : Nat} {a w : World} (h : Only d a w) {b o : Nat} (hb : b ≠ d) : w.cell? ⟨b, o, none⟩ = a.cell? ⟨b, o, none⟩ := by
  simp [World.cell?, h.block b hb]

theorem BRow.only {d : Nat} {a w : World} {ao : Option Addr} {bs : List Nat} (h : BRow a ao bs) (ho : Only d a w) (hne : bs ≠ [] → ∀ b o, ao = some ⟨b, o, none⟩ → b ≠ d) : BRow w ao bs :=
  ⟨h.lt, fun hn => by
    obtain ⟨b, o, rfl, hc⟩ := h.row hn
    exact ⟨b, o, rfl, fun i hi => (ho.cell (hne hn b o rfl)).trans (hc i hi)⟩⟩

theorem BRow.apart {w : World} {ao : Option Addr} {bs : List Nat} (h : BRow w ao bs) {d : Nat} (hd : w.heap.size ≤ d) : bs ≠ [] → ∀ b o, ao = some ⟨b, o, none⟩ → b ≠ d := by
  intro hn b o e
  obtain ⟨b', o', e', hc⟩ := h.row hn
  rw [e] at e'
  cases e'
  have := cell_lt (hc 0 (List.length_pos_iff.2 hn))
  omega

def ev (bs : List Nat) : List Nat := bs.take (bs.length - bs.length % 2)
theorem ev_len (bs : List Nat) : (ev bs).length = bs.length - bs.length % 2 := by unfold ev; simp

set_option maxHeartbeats 400000 in
theorem flen_any (d s1 s2 low n : Nat) (sp : Bool) (w : World) (h : FdAt p w d s1 s2 low sp n) :
    Calls Tryz.prog 20 #[.pointer (some ⟨d, 2, none⟩)] w fun e w' => e = .returned (.int .u64 n) ∧ w' = w := by
  have h1 := h.c4
  clear h
  go_enter Tryz.func20, Tryz.ntmps20
  go_wp2
  go_ret
  exact ⟨rfl, rfl⟩

set_option maxHeartbeats 400000 in
theorem freset_any (d s1 s2 low n : Nat) (sp : Bool) (w : World) (h : FdAt p w d s1 s2 low sp n) :
    Calls Tryz.prog 15 #[.pointer (some ⟨d, 2, none⟩)] w fun e w' => e = .returned (.tuple #[]) ∧ Only d w w' ∧ FdAt p w' d 0 0 0 false 0 := by
  have c0 := h.c0
  have c1 := h.c1
  have c2 := h.c2
  have c3 := h.c3
  have c4 := h.c4
  have f0 := h.fr 2
  have f1 := h.fr 3
  have f2 := h.fr 4
  have f3 := h.fr 5
  have f4 := h.fr 6
  have HH : Hid (FdAt p w d s1 s2 low sp n) := h
  clear h
  go_enter Tryz.func15, Tryz.ntmps15
  go_wp2
  go_end0
  exact ⟨rfl, ((((Only.refl d w).setCell _ _).setCell _ _).setCell _ _).setCell _ _ |>.setCell _ _, ((((HH.out.set0 0).set1 0).set2 0).set3 false).set4 0⟩

set_option maxHeartbeats 1000000 in
theorem fsum32_any (d s1 s2 low n : Nat) (sp : Bool) (w : World) (h : FdAt p w d s1 s2 low sp n) (h1 : s1 < 65535) (h2 : s2 < 65535) (hl : low < 256) :
    Calls Tryz.prog 22 #[.pointer (some ⟨d, 2, none⟩)] w fun e w' => e = .returned (.int .u32 ((if sp then Flt.word2 s1 s2 low * 65536 + Flt.word1 s1 low else s2 * 65536 + s1 : Nat) : Int)) ∧ ∃ n, w' = w.drewN n := by
  have c0 := h.c0
  have c1 := h.c1
  have c2 := h.c2
  have c3 := h.c3
  clear h
  cases sp with
  | false =>
    have hor := or_sums s1 s2 h1 h2
    go_enter Tryz.func22, Tryz.ntmps22
    go_wp2
    go_quiet (fail)
    go_wp2
    go_ret
    exact ⟨ret_int (by simp), _, rfl⟩
  | true =>
    rw [if_pos rfl]
    go_enter Tryz.func22, Tryz.ntmps22
    go_wp2
    go_quiet (fail)
    go_wp2_with fail
    refine Calls.mono (addWord_any s1 s2 low _ h1 h2 (by omega)) ?_
    rintro e w' ⟨rfl, hw⟩
    subst hw
    have hw1 : Flt.word1 s1 low < 65535 := Nat.mod_lt _ (by decide)
    have hw2 : Flt.word2 s1 s2 low < 65535 := Nat.mod_lt _ (by decide)
    obtain ⟨q1, hq1⟩ : ∃ q1, Flt.word1 s1 low = q1 := ⟨_, rfl⟩
    obtain ⟨q2, hq2⟩ : ∃ q2, Flt.word2 s1 s2 low = q2 := ⟨_, rfl⟩
    have HQ : Hid (Flt.word1 s1 low = q1 ∧ Flt.word2 s1 s2 low = q2) := ⟨hq1, hq2⟩
    rw [hq1] at hw1 ⊢
    rw [hq2] at hw2 ⊢
    clear hq1 hq2
    have hor := or_sums q1 q2 hw1 hw2
    go_wp2
    go_ret
    exact ⟨ret_int (by rw [HQ.out.1, HQ.out.2]; omega), _, rfl⟩

/-- What one Write does to the sums: t1, t2, q, sp' are what stands behind the pending byte. -/
def Took (s1 s2 low : Nat) (sp : Bool) (bs : List Nat) (t1 t2 : Nat) (sp' : Bool) (q : List Nat) : Prop :=
  (sp = true ∧ sp' = false ∧ ∃ x, bs = x :: q ∧ t1 = Flt.word1 s1 (low + 256 * x) ∧ t2 = Flt.word2 s1 s2 (low + 256 * x)) ∨
  ((sp = false ∨ bs = []) ∧ q = bs ∧ t1 = s1 ∧ t2 = s2 ∧ sp' = sp)

set_option maxRecDepth 100000 in
set_option maxHeartbeats 4000000 in
theorem fwrite_raw (bs : List Nat) (d s1 s2 low n cap : Nat) (sp : Bool) (ao : Option Addr) (w : World) (t1 t2 : Nat) (sp' : Bool) (q : List Nat) (hk : Took s1 s2 low sp bs t1 t2 sp' q)
    (h : FdAt p w d s1 s2 low sp n) (h1 : s1 < 65535) (h2 : s2 < 65535) (hl : low < 256) (hrow : BRow w ao bs) (hne : bs ≠ [] → ∀ b o, ao = some ⟨b, o, none⟩ → b ≠ d) (hcap : bs.length ≤ cap) (hcap2 : cap ≤ 9223372036854775807) (hn : n + bs.length < 18446744073709551616) :
    Calls Tryz.prog 51 #[.pointer (some ⟨d, 2, none⟩), .slice ao bs.length cap] w fun e w' => e = .returned (.tuple #[.int .i64 bs.length, .nilIface]) ∧ Only d w w' ∧
      ∃ low', low' < 256 ∧ FdAt p w' d (Flt.sums t1 t2 (ev q)).1 (Flt.sums t1 t2 (ev q)).2 low' (sp' || decide (q.length % 2 = 1)) (n + bs.length) ∧ (q.length % 2 = 1 → q = ev q ++ [low']) ∧ (q.length % 2 = 0 → low' = low) := by
  have c4 := h.c4
  have f4 := h.fr 6
  have HH : Hid (FdAt p (w.setCell ⟨d, 6, none⟩ (.int .u64 ((n : Int) + (bs.length : Int)))) d s1 s2 low sp (n + bs.length)) := by
    have := h.set4 (n + bs.length); rw [Int.natCast_add] at this; exact this
  have HO : Hid (Only d w (w.setCell ⟨d, 6, none⟩ (.int .u64 ((n : Int) + (bs.length : Int))))) := (Only.refl d w).setCell _ _
  have HR : Hid (BRow w ao bs) := hrow
  have HNe : Hid (bs ≠ [] → ∀ b o, ao = some ⟨b, o, none⟩ → b ≠ d) := hne
  have ht : t1 < 65535 ∧ t2 < 65535 := by
    rcases hk with ⟨_, _, x, _, rfl, rfl⟩ | ⟨_, _, rfl, rfl, _⟩
    · exact ⟨Nat.mod_lt _ (by decide), Nat.mod_lt _ (by decide)⟩
    · exact ⟨h1, h2⟩
  have HK : Hid _ := hk
  have c3 := HH.out.c3
  clear h hrow hne hk
  go_enter Tryz.func51, Tryz.ntmps51
  go_upto_region 3 with fail
  go_cut [27] from 19 to 27 (fun s27 wx => s27 = .bool (sp && decide (0 < bs.length)) ∧ wx = w.setCell ⟨d, 6, none⟩ (.int .u64 ((n : Int) + (bs.length : Int))))
  case first =>
    cases sp with
    | false =>
      go_wp2_with fail
      go_meet
      exact ⟨rfl, rfl⟩
    | true =>
      go_wp2_with fail
      go_meet
      exact ⟨rfl, rfl⟩
  case rest =>
    obtain ⟨rfl, rfl⟩ := hcut
    go_upto_if 27 with fail
    go_cut [1] from 27 to 61 (fun ps wc => ∃ a c, ps = .slice a q.length c ∧ BRow wc a q ∧ (q ≠ [] → ∀ b o, a = some ⟨b, o, none⟩ → b ≠ d) ∧ q.length ≤ c ∧ c ≤ 9223372036854775807 ∧ FdAt p wc d t1 t2 low sp' (n + bs.length) ∧ Only d w wc)
    case first =>
      clear c3 c4 f4
      have HR1 : Hid (BRow (w.setCell ⟨d, 6, none⟩ (.int .u64 ((n : Int) + (bs.length : Int)))) ao bs) := BRow.only HR.out HO.out HNe.out
      clear HR
      generalize w.setCell ⟨d, 6, none⟩ (.int .u64 ((n : Int) + (bs.length : Int))) = W1 at *
      rcases HK.out with ⟨rfl, rfl, x, hx, hq1, hq2⟩ | ⟨hs, hq, hq1, hq2, hsp⟩
      · have hbn : bs ≠ [] := by rw [hx]; simp
        obtain ⟨b, o, rfl, hc⟩ := HR1.out.row hbn
        have hl1 : bs.length = q.length + 1 := by rw [hx]; rfl
        have hcx := hc 0 (by omega)
        have hxb := HR1.out.byte (i := 0) (by omega)
        have hx0 : bs.getD 0 0 = x := by rw [hx]; rfl
        rw [hx0] at hcx hxb
        rw [Nat.add_zero] at hcx
        have hrd := BRow.drop_if HR1.out 1 cap hcap
        rw [show bs.drop 1 = q by rw [hx]; rfl] at hrd
        have HRd : Hid (BRow W1 (if cap = 1 then some ⟨b, o, none⟩ else some ⟨b, o + 1, none⟩) q) := hrd
        have hbd := HNe.out hbn b o rfl
        have c0 := HH.out.c0
        have c1 := HH.out.c1
        have c2 := HH.out.c2
        have f0 := HH.out.fr 2
        have f1 := HH.out.fr 3
        have f3 := HH.out.fr 5
        have c3 := HH.out.c3
        have HQ : Hid (t1 = Flt.word1 s1 (low + 256 * x) ∧ t2 = Flt.word2 s1 s2 (low + 256 * x)) := ⟨hq1, hq2⟩
        have hor := or_word low x hl hxb
        have HA : Hid (∀ W, Calls Tryz.prog 53 #[.int .u32 s1, .int .u32 s2, .int .u32 ((low + 256 * x : Nat) : Int)] W fun e w' => e = .returned (.tuple #[.int .u32 (t1 : Int), .int .u32 (t2 : Int)]) ∧ w' = W) := by
          intro W
          have := addWord_any s1 s2 (low + 256 * x) W h1 h2 (by omega)
          rwa [← hq1, ← hq2] at this
        clear hq1 hq2 hrd hx0 hc hx hbn HK HR1
        have htest : (true && decide (0 < bs.length)) = true := by simp; omega
        rw [htest]
        clear htest
        have hone : (1 : Int) ≤ (cap : Int) := by omega
        have hone' : (1 : Int) ≤ (bs.length : Int) := by omega
        have hpos : 0 < bs.length := by omega
        obtain ⟨ad, had⟩ : ∃ ad, (if cap = 1 then some (⟨b, o, none⟩ : Addr) else some ⟨b, o + 1, none⟩) = ad := ⟨_, rfl⟩
        rw [had] at HRd
        have HAd : Hid (∀ b' o', ad = some ⟨b', o', none⟩ → b' ≠ d) := by
          intro b' o' e
          rw [← had] at e
          split at e <;> (simp at e; rw [← e.1]; exact hbd)
        go_upto_region 4 with fail
        go_cut [] from 28 to 56 (fun wc => FdAt p wc d t1 t2 low true (n + bs.length) ∧ Only d W1 wc)
        case first =>
          clear HRd HAd HQ HNe f3 c3 hone hl1 hcap2 hn h1 h2 had
          clear ad
          refine region_split_l (C := fun w' => ∃ n, w' = W1.drewN n) [(0, 29, .pointer (some ⟨d, 2, none⟩)), (1, 30, .pointer (some ⟨d, 2, none⟩))] 2 21 [(23, 51, .int .u32 t1), (24, 52, .int .u32 t2), (25, 53, .pointer (some ⟨d, 2, none⟩)), (26, 54, .pointer (some ⟨d, 2, none⟩))] [(28, 55, .pointer (some ⟨d, 2, none⟩)), (29, 56, .pointer (some ⟨d, 3, none⟩))] [23, 24, 25, 26, 27, 28, 29, 30] 22 27 30 #[true, true, false, false, false, false, false, false, false, false, false, false, false, false, false, false, false, false, false, false, false, false, false, false, false, false, false, false, false, false, false] #[true, true, true, true, true, true, true, true, true, true, true, true, true, true, true, true, true, true, true, true, true, true, true, false, false, false, false, false, false, false, false] #[true, true, true, true, true, true, true, true, true, true, true, true, true, true, true, true, true, true, true, true, true, true, true, true, true, true, true, false, false, false, false] #[true, true, true, true, true, true, true, true, true, true, true, true, true, true, true, true, true, true, true, true, true, true, true, true, true, true, true, true, true, true, false] (by kernel_rfl) (by kernel_rfl) (fun _ _ d _ _ h => by cases d <;> exact h) ⟨1, rfl⟩ ?_
          refine wpGiveI_step _ rfl rfl (by kernel_rfl) (fun _ => by kernel_rfl) ?_
          refine wpGiveI_step _ rfl rfl (by kernel_rfl) (fun _ => by kernel_rfl) ?_
          refine wpGiveI_nil ?_
          simp only [List.drop_succ_cons, List.drop_zero, List.take_succ_cons, List.take_zero, Act.put, List.setIfInBounds_toArray, List.set_cons_zero, List.set_cons_succ]
          repeat (go_big_quiet_step (first | (go_at_call 53; exact Calls.quiet_of_same (HA.out _))))
          refine wpQuiet_nil ?_
          rintro w' ⟨nq, rfl⟩
          refine wpGiveI_step _ rfl rfl (by kernel_rfl) (fun _ => by kernel_rfl) ?_
          refine wpGiveI_step _ rfl rfl (by kernel_rfl) (fun _ => by kernel_rfl) ?_
          refine wpGiveI_step _ rfl rfl (by kernel_rfl) (fun _ => by kernel_rfl) ?_
          refine wpGiveI_step _ rfl rfl (by kernel_rfl) (fun _ => by kernel_rfl) ?_
          refine wpGiveI_nil ?_
          refine ⟨_, rfl, rfl, ?_⟩
          simp only [Act.put, List.setIfInBounds_toArray, List.set_cons_zero, List.set_cons_succ]
          refine wp_of_run_skip (w' := (W1.drewN nq).setCell ⟨d, 2, none⟩ (.int .u32 t1)) (by go_simp) ?_
          refine wpGiveI_step _ rfl rfl (by kernel_rfl) (fun _ => by kernel_rfl) ?_
          refine wpGiveI_step _ rfl rfl (by kernel_rfl) (fun _ => by kernel_rfl) ?_
          refine wpGiveI_nil ?_
          refine ⟨_, rfl, rfl, ?_⟩
          simp only [Act.put, List.setIfInBounds_toArray, List.set_cons_zero, List.set_cons_succ]
          refine wp_of_run_skip (w' := ((W1.drewN nq).setCell ⟨d, 2, none⟩ (.int .u32 t1)).setCell ⟨d, 3, none⟩ (.int .u32 t2)) (by go_simp) ?_
          go_wp2_with fail
          go_meet
          exact ⟨((HH.out.drewN nq).set0 t1).set1 t2, (((Only.refl d W1).drewN nq).setCell _ _).setCell _ _⟩
        case rest =>
          obtain ⟨hF, hO1⟩ := hcut
          have k3 := hF.c3
          have g3 := hF.fr 5
          have HF : Hid (FdAt p wc d t1 t2 low true (n + bs.length)) := hF
          have HO1 : Hid (Only d W1 wc) := hO1
          clear hF hO1 c0 c1 c2 c3 f0 f1 f3 HA HH hcx hor
          go_wp2_with fail
          go_meet
          have HO2 : Only d W1 (wc.setCell ⟨d, 5, none⟩ (.bool false)) := Only.setCell HO1.out _ _
          refine ⟨ad, cap - 1, ?_, BRow.only HRd.out HO2 (fun _ => HAd.out), (fun _ => HAd.out), by omega, by omega, FdAt.set3 HF.out false, HO.out.trans HO2⟩
          rfl
      · have htest : (sp && decide (0 < bs.length)) = false := by
          rcases hs with rfl | hs
          · rfl
          · rw [hs]; simp
        rw [htest]
        clear htest
        subst hq hq1 hq2 hsp
        go_wp2_with fail
        go_meet
        exact ⟨ao, cap, rfl, HR1.out, HNe.out, hcap, hcap2, HH.out, HO.out⟩
    case rest =>
      obtain ⟨ad, c, rfl, hrow, hne, hqc, hc2, hF, hO⟩ := hcut
      obtain ⟨wy, hwy⟩ : ∃ wy, wy = wc := ⟨_, rfl⟩
      subst hwy
      have HF : Hid (FdAt p wy d t1 t2 low sp' (n + bs.length)) := hF
      have HO1 : Hid (Only d w wy) := hO
      have c0 := hF.c0
      have c1 := hF.c1
      have c2 := hF.c2
      have k3 := hF.c3
      have f0 := hF.fr 2
      have f1 := hF.fr 3
      have f2 := hF.fr 4
      have f3 := hF.fr 5
      have hsl := Flt.sums_lt (ev q) t1 t2 ht.1 ht.2
      have hel := ev_len q
      have HA : Hid (∀ m, Calls Tryz.prog 82 #[.int .u32 t1, .int .u32 t2, .slice ad ((q.length - q.length % 2 : Nat)) c] (wy.drewN m) fun e w' => e = .returned (.tuple #[.int .u32 (((Flt.sums t1 t2 (ev q)).1 : Nat) : Int), .int .u32 (((Flt.sums t1 t2 (ev q)).2 : Nat) : Int)]) ∧ ∃ n, w' = (wy.drewN m).drewN n) := by
        intro m
        have := addWords_any (ev q) t1 t2 c ad (wy.drewN m) ht.1 ht.2 (by omega) (by omega) (by omega) ((hrow.take _).drewN m)
        rwa [hel] at this
      have han := andNot1 q.length (by omega)
      have hle : q.length - q.length % 2 ≤ c := by omega
      have hle' : ((q.length - q.length % 2 : Nat) : Int) ≤ (c : Int) := by omega
      have hqi : (q.length : Int) ≤ (c : Int) := by omega
      have hqb : (q.length : Int) ≤ 9223372036854775807 := by omega
      generalize hv1 : (Flt.sums t1 t2 (ev q)).1 = v1 at *
      generalize hv2 : (Flt.sums t1 t2 (ev q)).2 = v2 at *
      have HV : Hid ((Flt.sums t1 t2 (ev q)).1 = v1 ∧ (Flt.sums t1 t2 (ev q)).2 = v2) := ⟨hv1, hv2⟩
      have HRow : Hid (BRow wy ad q) := hrow
      clear hrow hv1 hv2 hF hO HH HO HR HK HNe c3 c4 f4
      go_upto_region 8 with fail
      go_cut [] from 65 to 85 (fun wx => FdAt p wx d v1 v2 low sp' (n + bs.length) ∧ Only d wy wx)
      case first =>
        refine region_split_l (C := fun w' => ∃ n, w' = wy.drewN n) [(0, 66, .pointer (some ⟨d, 2, none⟩)), (1, 67, .pointer (some ⟨d, 2, none⟩))] 2 13 [(15, 80, .int .u32 v1), (16, 81, .int .u32 v2), (17, 82, .pointer (some ⟨d, 2, none⟩)), (18, 83, .pointer (some ⟨d, 2, none⟩))] [(20, 84, .pointer (some ⟨d, 2, none⟩)), (21, 85, .pointer (some ⟨d, 3, none⟩))] [15, 16, 17, 18, 19, 20, 21, 22] 14 19 22 #[true, true, false, false, false, false, false, false, false, false, false, false, false, false, false, false, false, false, false, false, false, false, false] #[true, true, true, true, true, true, true, true, true, true, true, true, true, true, true, false, false, false, false, false, false, false, false] #[true, true, true, true, true, true, true, true, true, true, true, true, true, true, true, true, true, true, true, false, false, false, false] #[true, true, true, true, true, true, true, true, true, true, true, true, true, true, true, true, true, true, true, true, true, true, false] (by kernel_rfl) (by kernel_rfl) (fun _ _ d _ _ h => by cases d <;> exact h) ⟨1, rfl⟩ ?_
        refine wpGiveI_step _ rfl rfl (by kernel_rfl) (fun _ => by kernel_rfl) ?_
        refine wpGiveI_step _ rfl rfl (by kernel_rfl) (fun _ => by kernel_rfl) ?_
        refine wpGiveI_nil ?_
        simp only [List.drop_succ_cons, List.drop_zero, List.take_succ_cons, List.take_zero, Act.put, List.setIfInBounds_toArray, List.set_cons_zero, List.set_cons_succ]
        repeat (go_big_quiet_step (first | (go_at_call 82; exact Calls.quiet_of (HA.out _))))
        refine wpQuiet_nil ?_
        rintro w' ⟨nq, rfl⟩
        refine wpGiveI_step _ rfl rfl (by kernel_rfl) (fun _ => by kernel_rfl) ?_
        refine wpGiveI_step _ rfl rfl (by kernel_rfl) (fun _ => by kernel_rfl) ?_
        refine wpGiveI_step _ rfl rfl (by kernel_rfl) (fun _ => by kernel_rfl) ?_
        refine wpGiveI_step _ rfl rfl (by kernel_rfl) (fun _ => by kernel_rfl) ?_
        refine wpGiveI_nil ?_
        refine ⟨_, rfl, rfl, ?_⟩
        simp only [Act.put, List.setIfInBounds_toArray, List.set_cons_zero, List.set_cons_succ]
        refine wp_of_run_skip (w' := (wy.drewN nq).setCell ⟨d, 2, none⟩ (.int .u32 v1)) (by go_simp) ?_
        refine wpGiveI_step _ rfl rfl (by kernel_rfl) (fun _ => by kernel_rfl) ?_
        refine wpGiveI_step _ rfl rfl (by kernel_rfl) (fun _ => by kernel_rfl) ?_
        refine wpGiveI_nil ?_
        refine ⟨_, rfl, rfl, ?_⟩
        simp only [Act.put, List.setIfInBounds_toArray, List.set_cons_zero, List.set_cons_succ]
        refine wp_of_run_skip (w' := ((wy.drewN nq).setCell ⟨d, 2, none⟩ (.int .u32 v1)).setCell ⟨d, 3, none⟩ (.int .u32 v2)) (by go_simp) ?_
        go_wp2_with fail
        go_meet
        exact ⟨((HF.out.drewN nq).set0 v1).set1 v2, (((Only.refl d wy).drewN nq).setCell _ _).setCell _ _⟩
      case rest =>
        obtain ⟨hF, hO⟩ := hcut
        clear c0 c1 c2 k3 f0 f1 f2 f3 HA HF
        have HF : Hid (FdAt p wc d v1 v2 low sp' (n + bs.length)) := hF
        have HOx : Hid (Only d w wc) := HO1.out.trans hO
        by_cases hodd : q.length % 2 = 1
        · obtain ⟨b, o, rfl, hcell⟩ := HRow.out.row (ne_nil_of_lt (i := q.length - q.length % 2) (by omega))
          have hcl := hcell (q.length - q.length % 2) (by omega)
          have hbd : b ≠ d := hne (ne_nil_of_lt (i := q.length - q.length % 2) (by omega)) b o rfl
          have hb := HRow.out.byte (i := q.length - q.length % 2) (by omega)
          have HT : Hid (q = ev q ++ [q.getD (q.length - q.length % 2) 0]) := take_even_last q hodd
          have hclx : wc.cell? ⟨b, o + (q.length - q.length % 2), none⟩ = some (.int .u8 ((q.getD (q.length - q.length % 2) 0 : Nat) : Int)) := by
            exact (hO.cell hbd).trans hcl
          have k2 := hF.c2
          have k3 := hF.c3
          have g2 := hF.fr 4
          have g3 := hF.fr 5
          have hlt3 : ((q.length - q.length % 2 : Nat) : Int) < (q.length : Int) := by omega
          have hlt2 : q.length - q.length % 2 < q.length := by omega
          have HOd : Hid (q.length % 2 = 1) := hodd
          clear hcell hodd hcl hF hO hel han
          generalize hlv : q.getD (q.length - q.length % 2) 0 = lv at *
          generalize q.length - q.length % 2 = evn at *
          go_wp2
          go_ret2
          refine ⟨rfl, (HOx.out.setCell _ _).setCell _ _, lv, hb, ?_, fun _ => HT.out, fun h => by rw [HOd.out] at h; omega⟩
          rw [HV.out.1, HV.out.2, HOd.out]
          simpa using (HF.out.set2 lv).set3 true
        · have hlt3 : ¬ ((q.length - q.length % 2 : Nat) : Int) < (q.length : Int) := by omega
          have HOd : Hid (q.length % 2 = 0) := by show q.length % 2 = 0; omega
          clear hF hO hel han hodd HRow
          generalize q.length - q.length % 2 = evn at *
          go_wp2
          go_ret2
          refine ⟨rfl, HOx.out, low, hl, ?_, fun h => by rw [HOd.out] at h; omega, fun _ => rfl⟩
          rw [HV.out.1, HV.out.2, HOd.out]
          simpa using HF.out

theorem ev_append (a b : List Nat) (h : a.length % 2 = 0) : ev (a ++ b) = a ++ ev b := by
  unfold ev
  rw [List.length_append, List.take_append, List.take_of_length_le (by omega)]
  congr 2
  omega
theorem ev_self (a : List Nat) (h : a.length % 2 = 0) : ev a = a := by
  unfold ev; rw [h]; exact List.take_length

/-- The running checksum in block d has taken in the bytes bs. -/
def FlAcc (p : MQ) (w : World) (d : Nat) (bs : List Nat) : Prop :=
  ∃ low, low < 256 ∧ FdAt p w d (Flt.sums 0 0 (ev bs)).1 (Flt.sums 0 0 (ev bs)).2 low (decide (bs.length % 2 = 1)) bs.length ∧ (bs.length % 2 = 1 → bs = ev bs ++ [low])

theorem FlAcc.of_block {w w' : World} {d : Nat} {bs : List Nat} (h : FlAcc p w d bs) (e : w'.heap[d]? = w.heap[d]?) : FlAcc p w' d bs := by
  obtain ⟨low, h1, h2, h3⟩ := h
  exact ⟨low, h1, h2.of_block e, h3⟩
theorem FlAcc.lt {w : World} {d : Nat} {bs : List Nat} (h : FlAcc p w d bs) : d < w.heap.size := by
  obtain ⟨low, h1, h2, h3⟩ := h
  exact h2.lt
theorem FlAcc.start {w : World} {d : Nat} (h : FdAt p w d 0 0 0 false 0) : FlAcc p w d [] := ⟨0, by decide, h, by simp⟩

theorem fwrite_any (pre bs : List Nat) (d cap : Nat) (ao : Option Addr) (w : World) (h : FlAcc p w d pre) (hrow : BRow w ao bs) (hne : bs ≠ [] → ∀ b o, ao = some ⟨b, o, none⟩ → b ≠ d) (hcap : bs.length ≤ cap) (hcap2 : cap ≤ 9223372036854775807) (hn : pre.length + bs.length < 18446744073709551616) :
    Calls Tryz.prog 51 #[.pointer (some ⟨d, 2, none⟩), .slice ao bs.length cap] w fun e w' => e = .returned (.tuple #[.int .i64 bs.length, .nilIface]) ∧ Only d w w' ∧ FlAcc p w' d (pre ++ bs) := by
  obtain ⟨low, hl, hF, ho⟩ := h
  have hsl := Flt.sums_lt (ev pre) 0 0 (by decide) (by decide)
  by_cases hodd : pre.length % 2 = 1
  · have hpre := ho hodd
    have hsp : decide (pre.length % 2 = 1) = true := by simp [hodd]
    rw [hsp] at hF
    have hee : (ev pre).length % 2 = 0 := by rw [ev_len]; omega
    cases bs with
    | nil =>
      refine Calls.mono (fwrite_raw [] d _ _ low pre.length cap true ao w _ _ true [] (.inr ⟨.inr rfl, rfl, rfl, rfl, rfl⟩) hF hsl.1 hsl.2 hl hrow hne hcap hcap2 hn) ?_
      rintro e w' ⟨rfl, hO, low', hl', hF', _, h0⟩
      have := h0 rfl
      subst this
      refine ⟨rfl, hO, ?_⟩
      rw [List.append_nil]
      refine ⟨low', hl', ?_, ho⟩
      rw [hsp]
      exact hF'
    | cons x q =>
      refine Calls.mono (fwrite_raw (x :: q) d _ _ low pre.length cap true ao w _ _ false q (.inl ⟨rfl, rfl, x, rfl, rfl, rfl⟩) hF hsl.1 hsl.2 hl hrow hne hcap hcap2 hn) ?_
      rintro e w' ⟨rfl, hO, low', hl', hF', h1, _⟩
      refine ⟨rfl, hO, low', hl', ?_⟩
      have e1 : pre ++ x :: q = (ev pre ++ [low, x]) ++ q := by
        conv => lhs; rw [hpre]
        simp
      have he2 : (ev pre ++ [low, x]).length % 2 = 0 := by rw [List.length_append, List.length_cons, List.length_cons, List.length_nil]; omega
      have e2 : ev (pre ++ x :: q) = (ev pre ++ [low, x]) ++ ev q := by rw [e1, ev_append _ _ he2]
      have e3 : decide ((pre ++ x :: q).length % 2 = 1) = (false || decide (q.length % 2 = 1)) := by
        rw [Bool.false_or, List.length_append, List.length_cons]
        congr 1
        apply propext
        omega
      rw [e2, Flt.sums_append _ _ he2, Flt.sums_pair _ hee, e3, List.length_append]
      refine ⟨hF', fun h => ?_⟩
      have hq := h1 (by rw [List.length_cons] at h; omega)
      rw [e1]
      conv => lhs; rw [hq]
      simp only [List.append_assoc]
  · have he : pre.length % 2 = 0 := by omega
    have hsp : decide (pre.length % 2 = 1) = false := by simp [he]
    rw [hsp, ev_self pre he] at hF
    rw [ev_self pre he] at hsl
    refine Calls.mono (fwrite_raw bs d _ _ low pre.length cap false ao w _ _ false bs (.inr ⟨.inl rfl, rfl, rfl, rfl, rfl⟩) hF hsl.1 hsl.2 hl hrow hne hcap hcap2 hn) ?_
    rintro e w' ⟨rfl, hO, low', hl', hF', h1, _⟩
    refine ⟨rfl, hO, low', hl', ?_⟩
    have e3 : decide ((pre ++ bs).length % 2 = 1) = (false || decide (bs.length % 2 = 1)) := by
      rw [Bool.false_or, List.length_append]
      congr 1
      apply propext
      omega
    rw [ev_append _ _ he, Flt.sums_append _ _ he, e3, List.length_append]
    refine ⟨hF', fun h => ?_⟩
    have hq := h1 (by omega)
    conv => lhs; rw [hq]
    rw [List.append_assoc]

theorem fsum_any (bs : List Nat) (d : Nat) (w : World) (h : FlAcc p w d bs) :
    Calls Tryz.prog 22 #[.pointer (some ⟨d, 2, none⟩)] w fun e w' => e = .returned (.int .u32 ((Flt.fl bs : Nat) : Int)) ∧ ∃ n, w' = w.drewN n := by
  obtain ⟨low, hl, hF, ho⟩ := h
  have hsl := Flt.sums_lt (ev bs) 0 0 (by decide) (by decide)
  have := fsum32_any d _ _ low bs.length _ w hF hsl.1 hsl.2 hl
  by_cases hodd : bs.length % 2 = 1
  · rw [decide_eq_true hodd, if_pos rfl] at this
    have hee : (ev bs).length % 2 = 0 := by rw [ev_len]; omega
    have e : Flt.fl bs = Flt.word2 (Flt.sums 0 0 (ev bs)).1 (Flt.sums 0 0 (ev bs)).2 low * 65536 + Flt.word1 (Flt.sums 0 0 (ev bs)).1 low := by
      unfold Flt.fl
      conv => lhs; rw [ho hodd]
      rw [Flt.sums_last _ hee]
    rw [e]; exact this
  · rw [decide_eq_false hodd, if_neg (by simp)] at this
    have e : Flt.fl bs = (Flt.sums 0 0 (ev bs)).2 * 65536 + (Flt.sums 0 0 (ev bs)).1 := by
      rw [ev_self bs (by omega)]; rfl
    rw [e]; exact this

theorem facc_len (bs : List Nat) (d : Nat) (w : World) (h : FlAcc p w d bs) :
    Calls Tryz.prog 20 #[.pointer (some ⟨d, 2, none⟩)] w fun e w' => e = .returned (.int .u64 bs.length) ∧ w' = w := by
  obtain ⟨low, hl, hF, ho⟩ := h
  exact flen_any d _ _ low bs.length _ w hF

theorem facc_reset (bs : List Nat) (d : Nat) (w : World) (h : FlAcc p w d bs) :
    Calls Tryz.prog 15 #[.pointer (some ⟨d, 2, none⟩)] w fun e w' => e = .returned (.tuple #[]) ∧ Only d w w' ∧ FlAcc p w' d [] := by
  obtain ⟨low, hl, hF, ho⟩ := h
  refine Calls.mono (freset_any d _ _ low bs.length _ w hF) ?_
  rintro e w' ⟨rfl, h1, h2⟩
  exact ⟨rfl, h1, FlAcc.start h2⟩

end Go.Proofs.Qxb6500698aGreatDoor
