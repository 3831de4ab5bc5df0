/-
  THE WALKS OF sameShards AND contains.
-/
import Derived.Test.Qxb6500697aDoorKASame
namespace Go.Proofs.Qxb6500697aDoor
open Go.RowKit

set_option maxRecDepth 100000 in
set_option maxHeartbeats 1000000 in
theorem sameShards_true (w : World) (ao bo : Option Addr) (ca cb L : Nat) (ss ts : List Sd) (hS : SdRow w ao ss) (hT : SdRow w bo ts) (hl : ss.length = L) (hl2 : ts.length = L) (hL : L ≤ 65536) (hs : ∀ i, i < L → (ss.getD i Sd.zero).same (ts.getD i Sd.zero)) (hp : ∀ i, i < L → (ss.getD i Sd.zero).pl ≤ 140737488355328) :
    Calls Tryd.prog 26 #[.slice ao L ca, .slice bo L cb] w fun e w' => e = .returned (.bool true) ∧ Below w.heap.size w w' := by
  have HA : Hid _ := asame_true w ao bo ca cb L ss ts hS hT hl hl2 hL hs hp
  clear hS hT hl hl2 hs hp
  go_enter Tryd.func26, Tryd.ntmps26
  go_wp2_with fail
  refine Calls.mono HA.out ?_
  rintro r w' ⟨rfl, hb⟩
  have HB : Hid (Below w.heap.size w w') := hb
  clear hb HA
  go_wp2
  go_ret
  exact ⟨rfl, HB.out⟩

set_option maxRecDepth 100000 in
set_option maxHeartbeats 1000000 in
theorem contains_any (w : World) (F : Nat → Prop) (ia : Option Addr) (ic x : Nat) (ns : List Nat) (hN : NRow w F ia ns) (hl : ns.length ≤ 65536) (hlt : ∀ i ∈ ns, i ≤ 65536) :
    Calls Tryd.prog 33 #[.slice ia ns.length ic, .int .i64 (x : Int)] w fun e w' => e = .returned (.bool (decide (x ∈ ns))) ∧ w' = w := by
  have HN : Hid (NRow w F ia ns) := hN
  have HLt : Hid (∀ i ∈ ns, i ≤ 65536) := hlt
  obtain ⟨L, hL⟩ : ∃ L, ns.length = L := ⟨_, rfl⟩
  have HL : Hid (ns.length = L) := hL
  obtain ⟨b, hb⟩ : ∃ b, decide (x ∈ ns) = b := ⟨_, rfl⟩
  have Hb : Hid (decide (x ∈ ns) = b) := hb
  rw [hL] at hl ⊢
  rw [hb]
  clear hN hlt hL hb
  go_enter Tryd.func33, Tryd.ntmps33
  go_wp2
  go_loopw [9] (fun i wr => ∃ j : Nat, j ≤ L ∧ i = .int .i64 j ∧ (∀ i, i < j → ns.getD i 0 ≠ x) ∧ wr = w) (fun i _ => L - (intOf i).toNat)
  case atStart => exact ⟨0, Nat.zero_le _, rfl, fun i hi => by omega, rfl⟩
  case round =>
    obtain ⟨j, hj, rfl, hall, rfl⟩ := hrel
    have HAll : Hid (∀ i, i < j → ns.getD i 0 ≠ x) := hall
    clear hall
    by_cases hlt : j < L
    · have hlt' : (j : Int) < (L : Int) := by omega
      have hjn : j < ns.length := by rw [HL.out]; exact hlt
      obtain ⟨nb, no, rfl, _, hnc⟩ := HN.out (ne_nil_of_lt hjn)
      have hn1 := hnc j hjn
      have hm := getD_mem (d := 0) hjn
      have hle := HLt.out _ hm
      obtain ⟨p, hp⟩ : ∃ p, ns.getD j 0 = p := ⟨_, rfl⟩
      rw [hp] at hn1 hm hle
      by_cases hpx : p = x
      · have bx : ((p : Int) == (x : Int)) = true := by simp [hpx]
        have HF : Hid (b = true) := Hb.out.symm.trans (decide_eq_true (by rw [← hpx]; exact hm))
        clear hnc hm hp hpx
        go_wp2
        go_ret
        exact ⟨by rw [HF.out]; rfl, by trivial⟩
      · have bx : ((p : Int) == (x : Int)) = false := by simp; omega
        have HF : Hid (∀ i, i < j + 1 → ns.getD i 0 ≠ x) := by
          intro i hi
          by_cases e : i = j
          · rw [e, hp]; exact hpx
          · exact HAll.out i (by omega)
        clear hnc hm hp hpx
        go_wp2
        go_roundw
        case rel => exact ⟨j + 1, by omega, by go_num, HF.out, by trivial⟩
        case measure => simp [intOf]; omega
    · have hlt' : ¬ (j : Int) < (L : Int) := by omega
      have HF : Hid (b = false) := Hb.out.symm.trans (decide_eq_false (fun hm => by
        obtain ⟨i, hi, he⟩ := List.getElem_of_mem hm
        exact HAll.out i (by rw [HL.out] at hi; omega) (by rw [getD_lt hi]; exact he)))
      go_wp2
      go_ret
      exact ⟨by rw [HF.out]; rfl, by trivial⟩
end Go.Proofs.Qxb6500697aDoor
