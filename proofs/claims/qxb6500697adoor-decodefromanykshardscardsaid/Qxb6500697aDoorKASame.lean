/-
  THE WALKS OF Answer.Same AND sameShards, on lists that are the same; contains.
-/
import Derived.Test.Qxb6500697aDoorKSame
import Derived.Test.Qxb6500697aDoorKChoose
import Derived.Deep.RegionHeld3
import Derived.Deep.Cut
import Derived.Deep.CutRange
namespace Go.Proofs.Qxb6500697aDoor
open Go.RowKit

open Classical in
theorem same_true' {x y : Sd} (h : x.same y) : decide (x.same y) = true := decide_eq_true h

set_option maxRecDepth 100000 in
set_option maxHeartbeats 4000000 in
theorem asame_true (w : World) (ao bo : Option Addr) (ca cb L : Nat) (ss ts : List Sd) (hS : SdRow w ao ss) (hT : SdRow w bo ts) (hl : ss.length = L) (hl2 : ts.length = L) (hL : L ≤ 65536) (hs : ∀ i, i < L → (ss.getD i Sd.zero).same (ts.getD i Sd.zero)) (hp : ∀ i, i < L → (ss.getD i Sd.zero).pl ≤ 140737488355328) :
    Calls Tryd.prog 15 #[.agg #[.int .u8 0, .slice none 0 0, .slice ao L ca, .slice none 0 0, .int .i64 0], .agg #[.int .u8 0, .slice none 0 0, .slice bo L cb, .slice none 0 0, .int .i64 0]] w fun e w' => e = .returned (.bool true) ∧ Below w.heap.size w w' := by
  obtain ⟨W, hW⟩ : ∃ W, (w.alloc (.cells #[.int .u8 0, .slice none 0 0, .slice ao L ca, .slice none 0 0, .int .i64 0] 38)).alloc (.cells #[.int .u8 0, .slice none 0 0, .slice bo L cb, .slice none 0 0, .int .i64 0] 38) = W := ⟨_, rfl⟩
  have hB : Below w.heap.size w W := by rw [← hW]; exact ((Below.refl _ _).alloc (Nat.le_refl _) _).alloc (by simp) _
  have HB : Hid (Below w.heap.size w W) := hB
  have hWs : W.heap.size = w.heap.size + 2 := by rw [← hW]; simp
  have hx0 : W.heap[w.heap.size]? = some (.cells #[.int .u8 0, .slice none 0 0, .slice ao L ca, .slice none 0 0, .int .i64 0] 38 (0, 0)) := by
    rw [← hW, Below.heap_alloc _ _ _ (by simp)]; exact heap_alloc_new w _
  have hx1 : W.heap[w.heap.size + 1]? = some (.cells #[.int .u8 0, .slice none 0 0, .slice bo L cb, .slice none 0 0, .int .i64 0] 38 (0, 0)) := by
    have h := heap_alloc_new (w.alloc (.cells #[.int .u8 0, .slice none 0 0, .slice ao L ca, .slice none 0 0, .int .i64 0] 38)) (.cells #[.int .u8 0, .slice none 0 0, .slice bo L cb, .slice none 0 0, .int .i64 0] 38)
    rw [hW] at h
    simpa using h
  have p0 : W.cell? ⟨w.heap.size, 0, none⟩ = some (.int .u8 0) := by simp [World.cell?, hx0]
  have p1 : W.cell? ⟨w.heap.size, 1, none⟩ = some (.slice none 0 0) := by simp [World.cell?, hx0]
  have p2 : W.cell? ⟨w.heap.size, 2, none⟩ = some (.slice ao L ca) := by simp [World.cell?, hx0]
  have p3 : W.cell? ⟨w.heap.size, 3, none⟩ = some (.slice none 0 0) := by simp [World.cell?, hx0]
  have p4 : W.cell? ⟨w.heap.size, 4, none⟩ = some (.int .i64 0) := by simp [World.cell?, hx0]
  have q0 : W.cell? ⟨w.heap.size + 1, 0, none⟩ = some (.int .u8 0) := by simp [World.cell?, hx1]
  have q1 : W.cell? ⟨w.heap.size + 1, 1, none⟩ = some (.slice none 0 0) := by simp [World.cell?, hx1]
  have q2 : W.cell? ⟨w.heap.size + 1, 2, none⟩ = some (.slice bo L cb) := by simp [World.cell?, hx1]
  have q3 : W.cell? ⟨w.heap.size + 1, 3, none⟩ = some (.slice none 0 0) := by simp [World.cell?, hx1]
  have q4 : W.cell? ⟨w.heap.size + 1, 4, none⟩ = some (.int .i64 0) := by simp [World.cell?, hx1]
  have HSB : Hid _ := sameBytes_any none none 0 0 0 0 (fun _ => 0) (fun _ => 0) W ⟨fun i hi => by omega, fun h => by omega⟩ ⟨fun i hi => by omega, fun h => by omega⟩ (by omega) (by omega)
  rw [decide_eq_true (show (0 : Nat) = 0 ∧ ∀ i : Nat, i < 0 → (fun _ : Nat => (0 : Nat)) i = (fun _ => 0) i from ⟨rfl, fun _ _ => rfl⟩)] at HSB
  have HS : Hid (SdRow w ao ss) := hS
  have HT : Hid (SdRow w bo ts) := hT
  have Hl : Hid (ss.length = L) := hl
  have Hl2 : Hid (ts.length = L) := hl2
  have HSa : Hid (∀ i, i < L → (ss.getD i Sd.zero).same (ts.getD i Sd.zero)) := hs
  have HPl : Hid (∀ i, i < L → (ss.getD i Sd.zero).pl ≤ 140737488355328) := hp
  have hLL : ((L : Int) != (L : Int)) = false := by simp
  clear hS hT hl hl2 hs hp hx0 hx1 hB
  go_enter Tryd.func15, Tryd.ntmps15
  go_wp2_with fail
  refine Calls.mono HSB.out ?_
  rintro r w' ⟨rfl, q, hw⟩
  have hbq : Below W.heap.size W (W.drewN q) := drewN_below _ _ _
  obtain ⟨W2, hW2⟩ : ∃ W2, W.drewN q = W2 := ⟨_, rfl⟩
  rw [hW2] at hw hbq
  have hw := hw.symm
  subst hw
  have HB2 : Hid (Below W.heap.size W W2) := hbq
  have kp := Below.keeps hbq
  have a2 := kp _ _ _ p2
  have a3 := kp _ _ _ p3
  have b2 := kp _ _ _ q2
  have b3 := kp _ _ _ q3
  clear kp hbq hW2 HSB hW p0 p1 p2 p3 p4 q0 q1 q2 q3 q4
  go_wp2
  go_loopw [39] (fun i wr => ∃ j : Nat, j ≤ L ∧ i = .int .i64 j ∧ Below W2.heap.size W2 wr) (fun i _ => L - (intOf i).toNat)
  case atStart => exact ⟨0, Nat.zero_le _, rfl, Below.refl _ _⟩
  case round =>
    obtain ⟨j, hj, rfl, hbr⟩ := hrel
    have kr := Below.keeps hbr
    have c2 := kr _ _ _ a2
    have c3 := kr _ _ _ a3
    have d2 := kr _ _ _ b2
    have d3 := kr _ _ _ b3
    have HBr : Hid (Below W2.heap.size W2 wr) := hbr
    by_cases hlt : j < L
    · have hlt' : (j : Int) < (L : Int) := by omega
      have kw : Keeps w wr := ((Below.keeps HB.out).trans (Below.keeps HB2.out)).trans kr
      obtain ⟨sb, rfl, hr⟩ := (HS.out.keeps kw).row (by rw [Hl.out]; omega)
      obtain ⟨tb, rfl, hr2⟩ := (HT.out.keeps kw).row (by rw [Hl2.out]; omega)
      obtain ⟨r0, r1, r2, r3⟩ := hr j (by rw [Hl.out]; exact hlt)
      obtain ⟨u0, u1, u2, u3⟩ := hr2 j (by rw [Hl2.out]; exact hlt)
      have e1 : ss[j]'(by rw [Hl.out]; exact hlt) = ss.getD j Sd.zero := (getD_lt (by rw [Hl.out]; exact hlt)).symm
      have e2 : ts[j]'(by rw [Hl2.out]; exact hlt) = ts.getD j Sd.zero := (getD_lt (by rw [Hl2.out]; exact hlt)).symm
      rw [e1] at r0 r1 r2 r3
      rw [e2] at u0 u1 u2 u3
      have hsm := HSa.out j hlt
      have hpl := HPl.out j hlt
      have hokx := (HS.out.ok _ (getD_mem (d := Sd.zero) (show j < ss.length by rw [Hl.out]; exact hlt))).keeps kw
      have hoky := (HT.out.ok _ (getD_mem (d := Sd.zero) (show j < ts.length by rw [Hl2.out]; exact hlt))).keeps kw
      obtain ⟨x, hx⟩ : ∃ x, ss.getD j Sd.zero = x := ⟨_, rfl⟩
      obtain ⟨y, hy⟩ : ∃ y, ts.getD j Sd.zero = y := ⟨_, rfl⟩
      rw [hx] at r0 r1 r2 r3 hsm hokx hpl
      rw [hy] at u0 u1 u2 u3 hsm hoky
      have HSm : Hid (∀ V, (V = wr ∨ V = wr.drew) → Calls Tryd.prog 29 #[.agg #[.int .u8 x.g, .int .i64 x.ix, .int .i64 x.ol, .slice x.pa x.pl x.pc], .agg #[.int .u8 y.g, .int .i64 y.ix, .int .i64 y.ol, .slice y.pa y.pl y.pc]] V fun e w' => e = .returned (.bool true) ∧ Below wr.heap.size wr w') := by
        intro V hV
        have hb : Below wr.heap.size wr V := by rcases hV with rfl | rfl; exact Below.refl _ _; exact (Below.refl _ _).drew
        have hszV : V.heap.size = wr.heap.size := by rcases hV with rfl | rfl <;> rfl
        refine (same_any x y V (hokx.keeps (Below.keeps hb)) (hoky.keeps (Below.keeps hb)) hpl (by rw [← hsm.2.2.2.1]; exact hpl)).mono ?_
        rintro e w' ⟨h1, h2⟩
        exact ⟨h1.trans (congrArg (fun b => Ending.returned (.bool b)) (same_true' hsm)), hb.trans (by rw [← hszV]; exact h2)⟩
      clear hr hr2 e1 e2 hsm hpl hokx hoky hx hy kw kr hbr
      go_wp2
      go_cut [53] from 40 to 54 (fun bv wx => bv = .bool false ∧ Below wr.heap.size wr wx)
      case first =>
        go_region_with (go_at_call 29; refine (HSm.out _ (by first | exact .inl rfl | exact .inr rfl)).mono ?_; rintro r w9 ⟨rfl, h1⟩; have H1 : Hid (Below wr.heap.size wr w9) := h1; clear h1)
        all_goals
          go_wp2
          go_meet
          exact ⟨rfl, H1.out⟩
      case rest =>
        obtain ⟨rfl, hbx⟩ := hcut
        have HF : Hid (Below W2.heap.size W2 wc) := HBr.out.trans (hbx.mono HBr.out.size)
        clear hbx
        go_wp2
        go_roundw
        case rel => exact ⟨j + 1, by omega, by go_num, HF.out⟩
        case measure => simp [intOf]; omega
    · have hlt' : ¬ (j : Int) < (L : Int) := by omega
      clear kr hbr
      go_wp2
      go_loopw [65] (fun i wq => ∃ z : Nat, z = 0 ∧ i = .int .i64 z ∧ wq = wr) (fun i _ => 1)
      case atStart => exact ⟨0, rfl, rfl, rfl⟩
      case round =>
        obtain ⟨z, rfl, rfl, rfl⟩ := hrel
        go_wp2
        go_ret
        exact ⟨rfl, HB.out.trans ((HB2.out.trans (HBr.out.mono HB2.out.size)).mono (by omega))⟩
end Go.Proofs.Qxb6500697aDoor
