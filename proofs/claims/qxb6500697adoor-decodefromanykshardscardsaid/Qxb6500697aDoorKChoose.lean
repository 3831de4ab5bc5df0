/-
  LISTS OF SHARDS IN THE MAKING; THE WALK OF choose.
-/
import Derived.Test.Qxb6500697aDoorKClone
import Derived.Test.Qxb6500697aDoorKTrials
import Derived.Test.Qxb6500697aDoorKEnc
namespace Go.Proofs.Qxb6500697aDoor
open Go.RowKit

def Sd.zero : Sd := ⟨0, 0, 0, none, 0, 0, fun _ => 0⟩
/-- The cells of a list of shards, flat. -/
def sdc (f : Nat → Sd) (p : Nat) : Value :=
  if p % 4 = 0 then .int .u8 (f (p / 4)).g else if p % 4 = 1 then .int .i64 (f (p / 4)).ix else if p % 4 = 2 then .int .i64 (f (p / 4)).ol else .slice (f (p / 4)).pa (f (p / 4)).pl (f (p / 4)).pc
theorem sdc0 (f : Nat → Sd) (j : Nat) : sdc f (j * 4) = .int .u8 (f j).g := by unfold sdc; rw [if_pos (by omega), show j * 4 / 4 = j by omega]
theorem sdc1 (f : Nat → Sd) (j : Nat) : sdc f (j * 4 + 1) = .int .i64 (f j).ix := by unfold sdc; rw [if_neg (by omega), if_pos (by omega), show (j * 4 + 1) / 4 = j by omega]
theorem sdc2 (f : Nat → Sd) (j : Nat) : sdc f (j * 4 + 2) = .int .i64 (f j).ol := by unfold sdc; rw [if_neg (by omega), if_neg (by omega), if_pos (by omega), show (j * 4 + 2) / 4 = j by omega]
theorem sdc3 (f : Nat → Sd) (j : Nat) : sdc f (j * 4 + 3) = .slice (f j).pa (f j).pl (f j).pc := by unfold sdc; rw [if_neg (by omega), if_neg (by omega), if_neg (by omega), show (j * 4 + 3) / 4 = j by omega]

/-- One shard laid. -/
def sdPut (w : World) (B j : Nat) (s : Sd) : World := (((w.setCell ⟨B, j * 4, none⟩ (.int .u8 (s.g : Int))).setCell ⟨B, j * 4 + 1, none⟩ (.int .i64 s.ix)).setCell ⟨B, j * 4 + 2, none⟩ (.int .i64 s.ol)).setCell ⟨B, j * 4 + 3, none⟩ (.slice s.pa s.pl s.pc)
theorem sdPut_only (w : World) (B j : Nat) (s : Sd) : Only B w (sdPut w B j s) := ((((Only.refl _ _).setCell _ _).setCell _ _).setCell _ _).setCell _ _
theorem sd_row {w : World} {B n j : Nat} {f : Nat → Sd} (h : w.rowIs B 60 (4 * n) (fun p => if p < 4 * j then sdc f p else shz p)) : (sdPut w B j (f j)).rowIs B 60 (4 * n) (fun p => if p < 4 * (j + 1) then sdc f p else shz p) := by
  refine ((((h.set (j * 4) _).set (j * 4 + 1) _).set (j * 4 + 2) _).set (j * 4 + 3) _).congr (fun p _ => ?_)
  by_cases e3 : p = j * 4 + 3
  · rw [if_pos e3, if_pos (by omega), e3, sdc3]
  · rw [if_neg e3]
    by_cases e2 : p = j * 4 + 2
    · rw [if_pos e2, if_pos (by omega), e2, sdc2]
    · rw [if_neg e2]
      by_cases e1 : p = j * 4 + 1
      · rw [if_pos e1, if_pos (by omega), e1, sdc1]
      · rw [if_neg e1]
        by_cases e0 : p = j * 4
        · rw [if_pos e0, if_pos (by omega), e0, sdc0]
        · rw [if_neg e0]
          by_cases h2 : p < 4 * j
          · rw [if_pos h2, if_pos (by omega)]
          · rw [if_neg h2, if_neg (by omega)]

theorem SdRow.of_rowIs {w : World} {B : Nat} {ss : List Sd} {f : Nat → Sd} (h : w.rowIs B 60 (4 * ss.length) (sdc f)) (hf : ∀ j (hj : j < ss.length), f j = ss[j]) (hok : ∀ s ∈ ss, SdOk w s) : SdRow w (some ⟨B, 0, none⟩) ss := by
  refine ⟨fun _ => ⟨B, rfl, fun j hj => ?_⟩, hok⟩
  have c : ∀ p v, p < 4 * ss.length → sdc f p = v → w.cell? ⟨B, p, none⟩ = some v := fun p v hp hv => by rw [h.cell hp, hv]
  have e := hf j hj
  refine ⟨c _ _ (by omega) (by rw [sdc0, e]), c _ _ (by omega) (by rw [sdc1, e]), c _ _ (by omega) (by rw [sdc2, e]), c _ _ (by omega) (by rw [sdc3, e])⟩

theorem getD_lt {α : Type} {l : List α} {i : Nat} {d : α} (h : i < l.length) : l.getD i d = l[i] := by
  rw [List.getD_eq_getElem?_getD, List.getElem?_eq_getElem h]; rfl

set_option maxRecDepth 100000 in
set_option maxHeartbeats 2000000 in
theorem choose_any (w : World) (F : Nat → Prop) (ao ia : Option Addr) (cap ic : Nat) (ss : List Sd) (ns : List Nat) (hS : SdRow w ao ss) (hN : NRow w F ia ns) (hlt : ∀ i ∈ ns, i < ss.length) (hl : ns.length ≤ 4096) :
    Calls Tryd.prog 20 #[.slice ao ss.length cap, .slice ia ns.length ic] w fun e w' => e = .returned (.slice (some ⟨w.heap.size, 0, none⟩) ns.length ns.length) ∧ SdRow w' (some ⟨w.heap.size, 0, none⟩) (ns.map fun i => ss.getD i Sd.zero) ∧ Below w.heap.size w w' := by
  have HS : Hid (SdRow w ao ss) := hS
  have HN : Hid (NRow w F ia ns) := hN
  have HLt : Hid (∀ i ∈ ns, i < ss.length) := hlt
  obtain ⟨L, hL⟩ : ∃ L, ns.length = L := ⟨_, rfl⟩
  obtain ⟨S, hSl⟩ : ∃ S, ss.length = S := ⟨_, rfl⟩
  have HL : Hid (ns.length = L) := hL
  have HSl : Hid (ss.length = S) := hSl
  obtain ⟨f, hf⟩ : ∃ f : Nat → Sd, f = fun t => ss.getD (ns.getD t 0) Sd.zero := ⟨_, rfl⟩
  have Hf : Hid (f = fun t => ss.getD (ns.getD t 0) Sd.zero) := hf
  rw [hL] at hl ⊢
  rw [hSl]
  have hmk := make_shards L (by omega)
  have HMa : Hid _ := made_shz w L
  clear hS hN hlt hL hSl hf
  go_enter Tryd.func20, Tryd.ntmps20
  go_wp2
  clear hmk
  go_loopw [13] (fun i wr => ∃ j : Nat, j ≤ L ∧ i = .int .i64 j ∧ wr.rowIs w.heap.size 60 (4 * L) (fun p => if p < 4 * j then sdc f p else shz p) ∧ Below w.heap.size w wr) (fun i _ => L - (intOf i).toNat)
  case atStart => exact ⟨0, Nat.zero_le _, rfl, World.rowIs.congr HMa.out (fun p _ => by simp), (Below.refl _ _).alloc (Nat.le_refl _) _⟩
  case round =>
    obtain ⟨j, hj, rfl, hrow, hbel⟩ := hrel
    clear HMa
    by_cases hlt : j < L
    · have hlt' : (j : Int) < (L : Int) := by omega
      have hjn : j < ns.length := by rw [HL.out]; exact hlt
      obtain ⟨nb, no, rfl, _, hnc⟩ := HN.out (ne_nil_of_lt hjn)
      have hn1 := hnc j hjn
      have hin := HLt.out _ (getD_mem (d := 0) hjn)
      have hfj : f j = ss.getD (ns.getD j 0) Sd.zero := by rw [Hf.out]
      obtain ⟨i, hi⟩ : ∃ i, ns.getD j 0 = i := ⟨_, rfl⟩
      rw [hi] at hn1 hin hfj
      have hiS : i < S := by rw [← HSl.out]; exact hin
      have hiS' : (i : Int) < (S : Int) := by omega
      obtain ⟨sb, rfl, hr⟩ := HS.out.row (by omega)
      obtain ⟨r0, r1, r2, r3⟩ := hr i hin
      have hge : ss[i] = f j := by rw [hfj, getD_lt hin]
      rw [hge] at r0 r1 r2 r3
      obtain ⟨x, hx⟩ : ∃ x, f j = x := ⟨_, rfl⟩
      have kp := Below.keeps hbel
      have c0 := kp _ _ _ r0
      have c1 := kp _ _ _ r1
      have c2 := kp _ _ _ r2
      have c3 := kp _ _ _ r3
      have n1 := kp _ _ _ hn1
      have HF : Hid ((sdPut wr w.heap.size j x).rowIs w.heap.size 60 (4 * L) (fun p => if p < 4 * (j + 1) then sdc f p else shz p) ∧ Below w.heap.size w (sdPut wr w.heap.size j x)) := by
        have h1 := sd_row hrow
        rw [hx] at h1
        exact ⟨h1, hbel.trans ((sdPut_only wr w.heap.size j x).below (Nat.le_refl _))⟩
      rw [hx] at c0 c1 c2 c3
      have hsz := hrow.lt
      have o0 := hrow.cell (i := j * 4) (by omega)
      have o1 := hrow.cell (i := j * 4 + 1) (by omega)
      have o2 := hrow.cell (i := j * 4 + 2) (by omega)
      have o3 := hrow.cell (i := j * 4 + 3) (by omega)
      have f0 := hrow.frozen (j * 4)
      have f1 := hrow.frozen (j * 4 + 1)
      have f2 := hrow.frozen (j * 4 + 2)
      have f3 := hrow.frozen (j * 4 + 3)
      have hsbw : sb < w.heap.size := cell_lt r0
      rw [if_neg (by omega)] at o0 o1 o2 o3
      unfold shz at o0 o1 o2 o3
      rw [if_pos (by omega)] at o0
      rw [if_neg (by omega), if_pos (by omega)] at o1
      rw [if_neg (by omega), if_neg (by omega), if_pos (by omega)] at o2
      rw [if_neg (by omega), if_neg (by omega), if_neg (by omega)] at o3
      clear hnc hn1 hr r0 r1 r2 r3 hrow hbel kp hfj hge hx hin hi hjn
      unfold sdPut at HF
      go_wp2
      go_roundw
      case rel => exact ⟨j + 1, by omega, by go_num, HF.out⟩
      case measure => simp [intOf]; omega
    · have hlt' : ¬ (j : Int) < (L : Int) := by omega
      have hjL : j = L := by omega
      have HF : Hid (SdRow wr (some ⟨w.heap.size, 0, none⟩) (ns.map fun i => ss.getD i Sd.zero) ∧ Below w.heap.size w wr) := by
        refine ⟨SdRow.of_rowIs (f := f) ?_ (fun t ht => ?_) (fun s hs => ?_), hbel⟩
        · rw [List.length_map, HL.out]
          exact hrow.congr (fun p hp => by rw [if_pos (by omega)])
        · have ht' : t < ns.length := by simpa using ht
          rw [Hf.out, List.getElem_map]
          show ss.getD (ns.getD t 0) Sd.zero = _
          rw [getD_lt ht']
        · obtain ⟨i, hi, rfl⟩ := List.mem_map.1 hs
          exact (HS.out.ok _ (getD_mem (HLt.out i hi))).keeps (Below.keeps hbel)
      clear hrow hbel
      go_wp2
      go_ret
      exact ⟨rfl, HF.out⟩
end Go.Proofs.Qxb6500697aDoor
