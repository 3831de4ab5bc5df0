/-
  THE WALKS OF sameBytes, Shard.Same, choose.
-/
import Derived.Test.Qxb6500697aDoorKClone
import Derived.Test.Qxb6500697aDoorKScr
import Derived.Test.Qxb6500697aDoorKTrials
import Derived.BigQuiet
namespace Go.Proofs.Qxb6500697aDoor
open Go.RowKit

set_option maxRecDepth 100000 in
set_option maxHeartbeats 1000000 in
theorem sameBytes_any (ao bo : Option Addr) (n m c d : Nat) (s s' : Nat → Nat) (w : World) (ha : FRow w ao n s) (hb : FRow w bo m s') (hn : n ≤ 140737488355328) (hm : m ≤ 140737488355328) :
    Calls Tryd.prog 41 #[.slice ao n c, .slice bo m d] w fun e w' => e = .returned (.bool (decide (n = m ∧ ∀ i, i < n → s i = s' i))) ∧ ∃ q, w' = w.drewN q := by
  have HA : Hid (FRow w ao n s) := ha
  have HB : Hid (FRow w bo m s') := hb
  clear ha hb
  obtain ⟨b, hb⟩ : ∃ b, decide (n = m ∧ ∀ i, i < n → s i = s' i) = b := ⟨_, rfl⟩
  rw [hb]
  have Hb : Hid (decide (n = m ∧ ∀ i, i < n → s i = s' i) = b) := hb
  clear hb
  by_cases hnm : n = m
  · subst hnm
    have bnm : ((n : Int) != (n : Int)) = false := by simp
    go_enter Tryd.func41, Tryd.ntmps41
    go_wp2
    go_loopw [13] (fun i wr => ∃ k : Nat, k ≤ n ∧ i = .int .i64 k ∧ (∀ i, i < k → s i = s' i) ∧ ∃ q, wr = w.drewN q) (fun i _ => n - (intOf i).toNat)
    case atStart => exact ⟨0, Nat.zero_le _, rfl, fun i hi => by omega, 0, rfl⟩
    case round =>
      obtain ⟨k, hk, rfl, hall, q, rfl⟩ := hrel
      have HAll : Hid (∀ i, i < k → s i = s' i) := hall
      clear hall
      by_cases hlt : k < n
      · have hlt' : (k : Int) < (n : Int) := by omega
        obtain ⟨b1, o1, rfl, h1⟩ := HA.out.2 (by omega)
        obtain ⟨b2, o2, rfl, h2⟩ := HB.out.2 (by omega)
        have e1 : (w.drewN q).cell? ⟨b1, o1 + k, none⟩ = some (.int .u8 ((s k : Nat) : Int)) := by rw [drewN_cell]; exact h1 k hlt
        have e2 : (w.drewN q).cell? ⟨b2, o2 + k, none⟩ = some (.int .u8 ((s' k : Nat) : Int)) := by rw [drewN_cell]; exact h2 k hlt
        obtain ⟨V, hV⟩ : ∃ V, w.drewN q = V := ⟨_, rfl⟩
        have HV : Hid (∀ q', V.drewN q' = w.drewN (q + q')) := by intro q'; rw [← hV, World.drewN_drewN]
        rw [hV] at e1 e2 ⊢
        clear h1 h2 hV
        by_cases hs : s k = s' k
        · have bs : ((s k : Int) != (s' k : Int)) = false := by simp [hs]
          have HF : Hid (∀ i, i < k + 1 → s i = s' i) := by
            intro i hi
            by_cases e : i = k
            · rw [e]; exact hs
            · exact HAll.out i (by omega)
          clear hs
          go_wp2
          go_quiet (fail)
          go_wp2
          go_roundw
          case rel => exact ⟨k + 1, by omega, by go_num, HF.out, _, HV.out _⟩
          case measure => simp [intOf]; omega
        · have bs : ((s k : Int) != (s' k : Int)) = true := by simp; omega
          have HF : Hid (b = false) := Hb.out.symm.trans (decide_eq_false (fun h => hs (h.2 k hlt)))
          clear hs
          go_wp2
          go_quiet (fail)
          go_wp2
          go_ret
          exact ⟨by rw [HF.out]; rfl, _, HV.out _⟩
      · have hlt' : ¬ (k : Int) < (n : Int) := by omega
        have HF : Hid (b = true) := Hb.out.symm.trans (decide_eq_true ⟨by trivial, fun i hi => HAll.out i (by omega)⟩)
        go_wp2
        go_ret
        exact ⟨by rw [HF.out]; rfl, q, rfl⟩
  · have bnm : ((n : Int) != (m : Int)) = true := by simp; omega
    have HF : Hid (b = false) := Hb.out.symm.trans (decide_eq_false (fun h => hnm h.1))
    clear hnm
    go_enter Tryd.func41, Tryd.ntmps41
    go_wp2
    go_ret
    exact ⟨by rw [HF.out]; rfl, 0, rfl⟩

/-- Two shards are the same. -/
def Sd.same (x y : Sd) : Prop := x.g = y.g ∧ x.ix = y.ix ∧ x.ol = y.ol ∧ x.pl = y.pl ∧ ∀ i, i < x.pl → x.P i = y.P i
def Sd.val (s : Sd) : Value := .agg #[.int .u8 s.g, .int .i64 s.ix, .int .i64 s.ol, .slice s.pa s.pl s.pc]

open Classical in
set_option maxRecDepth 100000 in
set_option maxHeartbeats 2000000 in
theorem same_any (x y : Sd) (w : World) (hx : SdOk w x) (hy : SdOk w y) (hn : x.pl ≤ 140737488355328) (hm : y.pl ≤ 140737488355328) :
    Calls Tryd.prog 29 #[.agg #[.int .u8 x.g, .int .i64 x.ix, .int .i64 x.ol, .slice x.pa x.pl x.pc], .agg #[.int .u8 y.g, .int .i64 y.ix, .int .i64 y.ol, .slice y.pa y.pl y.pc]] w fun e w' => e = .returned (.bool (decide (x.same y))) ∧ Below w.heap.size w w' := by
  have HX : Hid (FRow w x.pa x.pl x.P) := hx.pay
  have HY : Hid (FRow w y.pa y.pl y.P) := hy.pay
  clear hx hy
  obtain ⟨W, hW⟩ : ∃ W, (w.alloc (.cells #[.int .u8 x.g, .int .i64 x.ix, .int .i64 x.ol, .slice x.pa x.pl x.pc] 60)).alloc (.cells #[.int .u8 y.g, .int .i64 y.ix, .int .i64 y.ol, .slice y.pa y.pl y.pc] 60) = W := ⟨_, rfl⟩
  have HB : Hid (Below w.heap.size w W) := by rw [← hW]; exact ((Below.refl _ _).alloc (Nat.le_refl _) _).alloc (by simp) _
  have hp : ∀ i v, (#[.int .u8 x.g, .int .i64 x.ix, .int .i64 x.ol, .slice x.pa x.pl x.pc] : Array Value)[i]? = some v → W.cell? ⟨w.heap.size, i, none⟩ = some v := by
    intro i v hv
    have h2 : W.heap[w.heap.size]? = some (.cells #[.int .u8 x.g, .int .i64 x.ix, .int .i64 x.ol, .slice x.pa x.pl x.pc] 60 (0, 0)) := by
      rw [← hW, Below.heap_alloc _ _ _ (by simp)]; exact heap_alloc_new w _
    simp [World.cell?, h2, hv]
  have hq : ∀ i v, (#[.int .u8 y.g, .int .i64 y.ix, .int .i64 y.ol, .slice y.pa y.pl y.pc] : Array Value)[i]? = some v → W.cell? ⟨w.heap.size + 1, i, none⟩ = some v := by
    intro i v hv
    have h := heap_alloc_new (w.alloc (.cells #[.int .u8 x.g, .int .i64 x.ix, .int .i64 x.ol, .slice x.pa x.pl x.pc] 60)) (.cells #[.int .u8 y.g, .int .i64 y.ix, .int .i64 y.ol, .slice y.pa y.pl y.pc] 60)
    rw [hW] at h
    have h2 : W.heap[w.heap.size + 1]? = some (.cells #[.int .u8 y.g, .int .i64 y.ix, .int .i64 y.ol, .slice y.pa y.pl y.pc] 60 (0, 0)) := by simpa using h
    simp [World.cell?, h2, hv]
  have p0 := hp 0 _ rfl
  have p1 := hp 1 _ rfl
  have p2 := hp 2 _ rfl
  have p3 := hp 3 _ rfl
  have q0 := hq 0 _ rfl
  have q1 := hq 1 _ rfl
  have q2 := hq 2 _ rfl
  have q3 := hq 3 _ rfl
  clear hp hq
  by_cases h1 : x.g = y.g
  · have b1 : ((x.g : Int) == (y.g : Int)) = true := by simp [h1]
    by_cases h2 : x.ix = y.ix
    · have b2 : (x.ix == y.ix) = true := by simp [h2]
      by_cases h3 : x.ol = y.ol
      · have b3 : (x.ol == y.ol) = true := by simp [h3]
        have HSB : Hid _ := sameBytes_any x.pa y.pa x.pl y.pl x.pc y.pc x.P y.P W (HX.out.below HB.out) (HY.out.below HB.out) hn hm
        obtain ⟨b, hb⟩ : ∃ b, decide (x.pl = y.pl ∧ ∀ i, i < x.pl → x.P i = y.P i) = b := ⟨_, rfl⟩
        rw [hb] at HSB
        have HF : Hid (decide (x.same y) = b) := by
          show decide (x.same y) = b
          rw [← hb]
          have : x.same y ↔ (x.pl = y.pl ∧ ∀ i, i < x.pl → x.P i = y.P i) := by unfold Sd.same; simp [h1, h2, h3]
          by_cases hh : x.same y
          · rw [decide_eq_true hh, decide_eq_true (this.1 hh)]
          · rw [decide_eq_false hh, decide_eq_false (fun h => hh (this.2 h))]
        clear h1 h2 h3 hb
        go_enter Tryd.func29, Tryd.ntmps29
        go_wp2_with fail
        refine Calls.mono HSB.out ?_
        rintro r w' ⟨rfl, q, rfl⟩
        go_wp2
        go_ret
        exact ⟨by rw [HF.out]; rfl, HB.out.trans (drewN_below _ _ _)⟩
      · have b3 : (x.ol == y.ol) = false := by simp [h3]
        have HF : Hid (decide (x.same y) = false) := decide_eq_false (fun h => h3 h.2.2.1)
        clear h1 h2 h3
        go_enter Tryd.func29, Tryd.ntmps29
        go_wp2
        go_ret
        exact ⟨by rw [HF.out]; rfl, HB.out⟩
    · have b2 : (x.ix == y.ix) = false := by simp [h2]
      have HF : Hid (decide (x.same y) = false) := decide_eq_false (fun h => h2 h.2.1)
      clear h1 h2
      go_enter Tryd.func29, Tryd.ntmps29
      go_wp2
      go_ret
      exact ⟨by rw [HF.out]; rfl, HB.out⟩
  · have b1 : ((x.g : Int) == (y.g : Int)) = false := by simp; omega
    have HF : Hid (decide (x.same y) = false) := decide_eq_false (fun h => h1 h.1)
    clear h1
    go_enter Tryd.func29, Tryd.ntmps29
    go_wp2
    go_ret
    exact ⟨by rw [HF.out]; rfl, HB.out⟩
end Go.Proofs.Qxb6500697aDoor
