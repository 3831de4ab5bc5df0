/-
  THE WALK OF THE MODEL'S FLETCHER-32.
-/
import Derived.Test.Qxb6500698aGreatDoorFltW
namespace Go.Proofs.Qxb6500698aGreatDoor
open Go.RowKit

set_option maxRecDepth 100000 in
set_option maxHeartbeats 1000000 in
theorem modelFlt_any (bs : List Nat) (cap : Nat) (ao : Option Addr) (w : World) (hlen : bs.length ≤ 140737488355328) (hrow : BRow w ao bs) :
    Calls Tryz.prog 40 #[.slice ao bs.length cap] w fun e w' => e = .returned (.int .u32 ((Flt.fl bs : Nat) : Int)) ∧ w' = w := by
  have HR : Hid (BRow w ao bs) := hrow
  clear hrow
  go_enter Tryz.func40, Tryz.ntmps40
  go_wp2
  go_loop [3, 4, 5, 6] (fun a1 a2 i _ => ∃ (k s1 s2 : Nat), 2 * k ≤ bs.length + 1 ∧ i = .int .i64 ((2 * k : Nat) : Int) ∧ a1 = .int .u64 s1 ∧ a2 = .int .u64 s2 ∧ s1 < 65535 ∧ s2 < 65535 ∧ Flt.sums 0 0 (bs.take (2 * k)) = (s1, s2)) (fun _ _ i _ => bs.length + 1 - (intOf i).toNat)
  case atStart => exact ⟨0, 0, 0, by omega, rfl, rfl, rfl, by decide, by decide, rfl⟩
  case round =>
    obtain ⟨k, s1, s2, hk, rfl, rfl, rfl, h1, h2, hs⟩ := hrel
    have HS : Hid _ := hs
    clear hs
    by_cases hin : 2 * k < bs.length
    · have hin' : (2 : Int) * (k : Int) < (bs.length : Int) := by omega
      obtain ⟨b, o, rfl, hc⟩ := HR.out.row (ne_nil_of_lt hin)
      have hx := HR.out.byte hin
      have hcx := hc (2 * k) hin
      have hte : (bs.take (2 * k)).length % 2 = 0 := by simp; omega
      have e1 := List.take_succ_eq_append_getElem hin
      have g1 : bs[2 * k] = bs.getD (2 * k) 0 := by simp [List.getD_eq_getElem?_getD, hin]
      rw [g1] at e1
      by_cases hin2 : 2 * k + 1 < bs.length
      · have hin2' : (2 : Int) * (k : Int) + 1 < (bs.length : Int) := by omega
        have hy := HR.out.byte hin2
        have hcy := hc (2 * k + 1) hin2
        have e2 := List.take_succ_eq_append_getElem hin2
        have g2 : bs[2 * k + 1] = bs.getD (2 * k + 1) 0 := by simp [List.getD_eq_getElem?_getD, hin2]
        rw [g2, e1, List.append_assoc] at e2
        have HN : Hid (Flt.sums 0 0 (bs.take (2 * (k + 1))) = (Flt.word1 s1 (bs.getD (2 * k) 0 + 256 * bs.getD (2 * k + 1) 0), Flt.word2 s1 s2 (bs.getD (2 * k) 0 + 256 * bs.getD (2 * k + 1) 0))) := by
          show Flt.sums 0 0 _ = _
          rw [show 2 * (k + 1) = 2 * k + 1 + 1 by omega, e2]
          have := Flt.sums_pair (bs.take (2 * k)) hte (bs.getD (2 * k) 0) (bs.getD (2 * k + 1) 0) 0 0
          rw [HS.out] at this
          exact this
        clear hc e1 e2 g1 g2 hte HS
        generalize bs.getD (2 * k) 0 = x at *
        generalize bs.getD (2 * k + 1) 0 = y at *
        go_wp2
        go_round
        case rel =>
          refine ⟨k + 1, _, _, by omega, by go_num, ?_, ?_, ?_, ?_, HN.out⟩
          · congr 1
          · congr 1
          · exact Nat.mod_lt _ (by decide)
          · exact Nat.mod_lt _ (by decide)
        case measure => simp [intOf]; omega
      · have hin2' : ¬ (2 : Int) * (k : Int) + 1 < (bs.length : Int) := by omega
        have HN : Hid (Flt.sums 0 0 (bs.take (2 * (k + 1))) = (Flt.word1 s1 (bs.getD (2 * k) 0), Flt.word2 s1 s2 (bs.getD (2 * k) 0))) := by
          show Flt.sums 0 0 _ = _
          have e3 : bs.take (2 * (k + 1)) = bs.take (2 * k + 1) := by
            rw [List.take_of_length_le (by omega), List.take_of_length_le (by omega)]
          rw [e3, e1]
          have := Flt.sums_last (bs.take (2 * k)) hte (bs.getD (2 * k) 0) 0 0
          rw [HS.out] at this
          exact this
        clear hc e1 g1 hte HS
        generalize bs.getD (2 * k) 0 = x at *
        go_wp2
        go_round
        case rel =>
          refine ⟨k + 1, _, _, by omega, by go_num, ?_, ?_, ?_, ?_, HN.out⟩
          · congr 1
          · congr 1
          · exact Nat.mod_lt _ (by decide)
          · exact Nat.mod_lt _ (by decide)
        case measure => simp [intOf]; omega
    · have hin' : ¬ (2 : Int) * (k : Int) < (bs.length : Int) := by omega
      have HF : Hid (Flt.fl bs = s2 * 65536 + s1) := by
        show Flt.fl bs = _
        have := HS.out
        rw [List.take_of_length_le (by omega)] at this
        unfold Flt.fl
        rw [this]
      clear HS
      go_wp2
      go_ret
      exact ⟨ret_int (by rw [HF.out]; omega), rfl⟩

end Go.Proofs.Qxb6500698aGreatDoor
