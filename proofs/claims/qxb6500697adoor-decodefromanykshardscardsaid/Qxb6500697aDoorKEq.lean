/-
  THE WALK OF bytes.Equal.
-/
import Derived.Test.Qxb6500697aDoorKMulAdd
import Derived.Test.Qxb6500697aDoorKScr
namespace Go.Proofs.Qxb6500697aDoor
open Go.RowKit

theorem convert_zero {P : Program} (w : World) (src e : TypeId) (hs : P.underlying src = some (.slice e)) (he : P.underlying e = some (.int .u8)) (p : Option Addr) (c : Nat) (dst : TypeId) (hd : P.underlying dst = some .string) :
    (convert src dst (.slice p 0 c)).run P w = .ok (.string (strOfNums [])) w := by
  rw [run_convert_bytes_string w src dst e _ 0 c hs he hd]
  cases p <;> simp [Conv.bytesToString, loadCells]
  all_goals rfl

theorem getD_map (bs : List Nat) (i : Nat) (h : i < bs.length) : (bs.map fun x => ((x : Nat) : Int)).getD i 0 = ((bs.getD i 0 : Nat) : Int) := by
  simp [List.getD_eq_getElem?_getD, h]

/-- 'string(b)'. -/
theorem convert_brow {P : Program} {w : World} {ao : Option Addr} {bs : List Nat} (h : BRow w ao bs) (c : Nat) (src e dst : TypeId) (hs : P.underlying src = some (.slice e)) (he : P.underlying e = some (.int .u8)) (hd : P.underlying dst = some .string) :
    (convert src dst (.slice ao bs.length c)).run P w = .ok (.string (strOfNums (bs.map fun x => ((x : Nat) : Int)))) w := by
  by_cases hn : bs = []
  · subst hn; exact convert_zero w src e hs he ao c dst hd
  · obtain ⟨b, o, rfl, hc⟩ := h.row hn
    refine run_convert_bytes_arg (P := P) w src e hs he b o bs.length c _ (by simp) (fun i hi => ?_) dst hd
    rw [hc i hi, getD_map bs i hi]

theorem str_eq (a b : List Nat) (ha : ∀ x ∈ a, x < 256) (hb : ∀ x ∈ b, x < 256) (h : strOfNums (a.map fun x => ((x : Nat) : Int)) = strOfNums (b.map fun x => ((x : Nat) : Int))) : a = b := by
  have h2 := congrArg (fun s : ByteArray => s.data.toList.map fun u => u.toNat) h
  simp only [strOfNums_data, List.map_map] at h2
  have key : ∀ l : List Nat, (∀ x ∈ l, x < 256) → l.map ((fun u : UInt8 => u.toNat) ∘ ((fun n : Int => UInt8.ofNat n.toNat) ∘ fun x : Nat => (x : Int))) = l := by
    intro l hl
    have : l.map ((fun u : UInt8 => u.toNat) ∘ ((fun n : Int => UInt8.ofNat n.toNat) ∘ fun x : Nat => (x : Int))) = l.map id := by
      refine List.map_congr_left fun x hx => ?_
      have := hl x hx
      simp; omega
    rw [this, List.map_id]
  rw [key a ha, key b hb] at h2
  exact h2

theorem bytes_toList_inj {a b : ByteArray} (h : a.toList = b.toList) : a = b := by
  have h2 : a.data.toList = b.data.toList := by simpa [ByteArray.toList_eq] using h
  cases a; cases b
  simp at h2
  rw [h2]

set_option maxHeartbeats 400000 in
theorem equal_any (a b : List Nat) (ao bo : Option Addr) (c d : Nat) (w : World) (ha : BRow w ao a) (hb : BRow w bo b) :
    Calls Tryd.prog 24 #[.slice ao a.length c, .slice bo b.length d] w fun e w' => e = .returned (.bool (decide (a = b))) ∧ w' = w := by
  have h1 := convert_brow (P := Tryd.prog) ha c 30 5 9 Tryd.underlying30 Tryd.underlying5 Tryd.underlying9
  have h2 := convert_brow (P := Tryd.prog) hb d 30 5 9 Tryd.underlying30 Tryd.underlying5 Tryd.underlying9
  have hs : Hid (strOfNums (a.map fun x => ((x : Nat) : Int)) = strOfNums (b.map fun x => ((x : Nat) : Int)) ↔ a = b) := ⟨str_eq a b ha.lt hb.lt, fun e => by rw [e]⟩
  clear ha hb
  generalize strOfNums (a.map fun x => ((x : Nat) : Int)) = s at *
  generalize strOfNums (b.map fun x => ((x : Nat) : Int)) = t at *
  go_enter Tryd.func24, Tryd.ntmps24
  go_wp2
  go_ret
  refine ⟨ret_bool ?_, rfl⟩
  by_cases e : s = t
  · have := hs.out.1 e
    subst e; subst this; simp
  · have h3 : ¬ a = b := fun h => e (hs.out.2 h)
    have h4 : (s.toList == t.toList) = false := by
      rw [beq_eq_false_iff_ne]
      intro h5
      exact e (bytes_toList_inj h5)
    rw [h4]; simp [h3]

theorem FRow.brow {w : World} {ao : Option Addr} {m : Nat} {s : Nat → Nat} (h : FRow w ao m s) : BRow w ao ((List.range m).map s) := by
  refine ⟨fun x hx => ?_, fun hne => ?_⟩
  · obtain ⟨i, hi, rfl⟩ := List.mem_map.1 hx
    exact h.1 i (List.mem_range.1 hi)
  · have h0 : 0 < m := by
      rcases Nat.eq_zero_or_pos m with h0 | h0
      · subst h0; simp at hne
      · exact h0
    obtain ⟨b, o, ha, hc⟩ := h.2 h0
    refine ⟨b, o, ha, fun i hi => ?_⟩
    have hi' : i < m := by simpa using hi
    rw [hc i hi', List.getD_eq_getElem?_getD]
    simp [hi']
theorem map_range_eq (n : Nat) (s s' : Nat → Nat) : (List.range n).map s = (List.range n).map s' ↔ ∀ i, i < n → s i = s' i := by
  rw [List.map_inj_left]
  exact ⟨fun h i hi => h i (List.mem_range.2 hi), fun h i hi => h i (List.mem_range.1 hi)⟩

theorem equal_frow (ao bo : Option Addr) (n c d : Nat) (s s' : Nat → Nat) (w : World) (ha : FRow w ao n s) (hb : FRow w bo n s') :
    Calls Tryd.prog 24 #[.slice ao n c, .slice bo n d] w fun e w' => e = .returned (.bool (decide (∀ i, i < n → s i = s' i))) ∧ w' = w := by
  have h := equal_any _ _ ao bo c d w ha.brow hb.brow
  rw [List.length_map, List.length_map, List.length_range] at h
  refine h.mono ?_
  rintro e w' ⟨rfl, rfl⟩
  refine ⟨ret_bool ?_, rfl⟩
  by_cases hh : ∀ i, i < n → s i = s' i
  · rw [decide_eq_true hh, decide_eq_true ((map_range_eq n s s').2 hh)]
  · rw [decide_eq_false hh, decide_eq_false (fun e => hh ((map_range_eq n s s').1 e))]
end Go.Proofs.Qxb6500697aDoor
