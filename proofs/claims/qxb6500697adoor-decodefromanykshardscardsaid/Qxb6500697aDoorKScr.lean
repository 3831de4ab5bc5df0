/-
  THE SCRIPT OF THE CODE LAYER IN MEMORY; THE WALKS OF Place AND zzSmall1.
-/
import Derived.Test.Qxb6500697aDoorProg
import Derived.Test.Qxb6500697aDoorMem
import Derived.WalkKit
import Derived.WalkSpells
import Derived.WalkLawsBesides
namespace Go.Proofs.Qxb6500697aDoor
open Go.RowKit

theorem ret_int {k : IntKind} {a b : Int} (h : a = b) : Ending.returned (.int k a) = .returned (.int k b) := by rw [h]
theorem ret_bool {a b : Bool} (h : a = b) : Ending.returned (.bool a) = .returned (.bool b) := by rw [h]

theorem tmod_neg (n m : Int) (hm : 0 < m) (h : n.tmod m < 0) : n.tmod m + m = n % m ∧ 0 ≤ n.tmod m + m := by
  have h1 : 0 ≤ n % m := Int.emod_nonneg _ (by omega)
  have h2 : n % m < m := Int.emod_lt_of_pos _ hm
  rw [Int.tmod_eq_emod] at h ⊢
  split at h
  · omega
  · rename_i hh
    rw [if_neg hh]
    have : (m.natAbs : Int) = m := by omega
    constructor <;> omega
theorem tmod_nonneg (n m : Int) (hm : 0 < m) (h : 0 ≤ n.tmod m) : n.tmod m = n % m := by
  have h1 : 0 ≤ n % m := Int.emod_nonneg _ (by omega)
  have h2 : n % m < m := Int.emod_lt_of_pos _ hm
  rw [Int.tmod_eq_emod] at h ⊢
  split at h
  · rename_i hh; rw [if_pos hh]; omega
  · omega
theorem tmod_lt (n m : Int) (hm : 0 < m) : -m < n.tmod m ∧ n.tmod m < m := by
  have h1 : 0 ≤ n % m := Int.emod_nonneg _ (by omega)
  have h2 : n % m < m := Int.emod_lt_of_pos _ hm
  rw [Int.tmod_eq_emod]
  split
  · omega
  · rename_i hh
    have hd : ¬ n % m = 0 := fun h0 => hh (.inr (Int.dvd_of_emod_eq_zero h0))
    have : (m.natAbs : Int) = m := by omega
    omega

/-- A number as a place below s. -/
def place (n : Int) (s : Nat) : Nat := (n % (s : Int)).toNat
theorem place_lt (n : Int) (s : Nat) (h : 0 < s) : place n s < s := by
  unfold place
  have := Int.emod_lt_of_pos n (show (0 : Int) < s by omega)
  have := Int.emod_nonneg n (show (s : Int) ≠ 0 by omega)
  omega
theorem place_cast (n : Int) (s : Nat) (h : 0 < s) : ((place n s : Nat) : Int) = n % (s : Int) := by
  unfold place
  exact Int.toNat_of_nonneg (Int.emod_nonneg n (by omega))

set_option maxHeartbeats 400000 in
theorem place_any (n : Int) (s : Nat) (w : World) (h0 : 0 < s) (h1 : s ≤ 1099511627776) (_hn : -9223372036854775808 ≤ n) (_hn2 : n ≤ 9223372036854775807) :
    Calls Tryd.prog 27 #[.int .i64 n, .int .i64 s] w fun e w' => e = .returned (.int .i64 ((place n s : Nat) : Int)) ∧ w' = w := by
  rw [place_cast n s h0]
  have hb := tmod_lt n s (by omega)
  have hs0 : ¬ (s : Int) = 0 := by omega
  go_enter Tryd.func27, Tryd.ntmps27
  go_wp2
  · go_ret
    have h : n.tmod s < 0 := by assumption
    have := tmod_neg n s (by omega) h
    refine ⟨ret_int ?_, rfl⟩
    first | exact this.1 | (rw [← this.1]; exact IntWalk.wrap64_in _ (by omega))
  · go_ret
    have h : 0 ≤ n.tmod s := by assumption
    exact ⟨ret_int (tmod_nonneg n s (by omega) h), rfl⟩

/-- Numbers behind a slice that begins at ao. -/
structure IRow (w : World) (ao : Option Addr) (zs : List Int) : Prop where
  wf : ∀ z ∈ zs, -9223372036854775808 ≤ z ∧ z ≤ 9223372036854775807
  row : zs ≠ [] → ∃ b o, ao = some ⟨b, o, none⟩ ∧ ∀ i, i < zs.length → w.cell? ⟨b, o + i, none⟩ = some (.int .i64 (zs.getD i 0))
theorem IRow.nil (w : World) (ao : Option Addr) : IRow w ao [] := ⟨by simp, fun h => absurd rfl h⟩
theorem IRow.same {w w' : World} {ao : Option Addr} {zs : List Int} (h : IRow w ao zs) (hs : ∀ b o, b < w.heap.size → w'.cell? ⟨b, o, none⟩ = w.cell? ⟨b, o, none⟩) : IRow w' ao zs := by
  refine ⟨h.wf, fun hne => ?_⟩
  obtain ⟨b, o, ha, hc⟩ := h.row hne
  exact ⟨b, o, ha, fun i hi => by rw [hs b _ (cell_lt (hc i hi))]; exact hc i hi⟩
theorem IRow.below {w w' : World} {ao : Option Addr} {zs : List Int} (h : IRow w ao zs) (hb : Below w.heap.size w w') : IRow w' ao zs := h.same fun b _ hlt => hb.cell (p := ⟨b, _, none⟩) hlt

/-- One step of a script, as data. -/
structure KOp where
  kind : Nat
  k : Int
  m : Int
  gen : Nat
  da : Option Addr
  dc : Nat
  bs : List Nat
  pa : Option Addr
  pc : Nat
  pick : List Int
  index : Int
  field : Nat
  value : Int
  mask : Nat
def KOp.zero : KOp := ⟨0, 0, 0, 0, none, 0, [], none, 0, [], 0, 0, 0, 0⟩

/-- The ten cells of a step. -/
def KOp.cells (x : KOp) : List Value := [.int .u8 x.kind, .int .i64 x.k, .int .i64 x.m, .int .u8 x.gen, .slice x.da x.bs.length x.dc, .slice x.pa x.pick.length x.pc, .int .i64 x.index, .int .u8 x.field, .int .i64 x.value, .int .u8 x.mask]

structure KOpAt (w : World) (b o : Nat) (x : KOp) : Prop where
  c0 : w.cell? ⟨b, o, none⟩ = some (.int .u8 x.kind)
  c1 : w.cell? ⟨b, o + 1, none⟩ = some (.int .i64 x.k)
  c2 : w.cell? ⟨b, o + 2, none⟩ = some (.int .i64 x.m)
  c3 : w.cell? ⟨b, o + 3, none⟩ = some (.int .u8 x.gen)
  c4 : w.cell? ⟨b, o + 4, none⟩ = some (.slice x.da x.bs.length x.dc)
  c5 : w.cell? ⟨b, o + 5, none⟩ = some (.slice x.pa x.pick.length x.pc)
  c6 : w.cell? ⟨b, o + 6, none⟩ = some (.int .i64 x.index)
  c7 : w.cell? ⟨b, o + 7, none⟩ = some (.int .u8 x.field)
  c8 : w.cell? ⟨b, o + 8, none⟩ = some (.int .i64 x.value)
  c9 : w.cell? ⟨b, o + 9, none⟩ = some (.int .u8 x.mask)
  data : BRow w x.da x.bs
  cap : x.bs.length ≤ x.dc
  cap2 : x.dc ≤ maxLen
  pk : IRow w x.pa x.pick
  pcap : x.pick.length ≤ x.pc
  pcap2 : x.pc ≤ maxLen
  hkind : x.kind < 256
  hgen : x.gen < 256
  hfield : x.field < 256
  hmask : x.mask < 256
  hk : -9223372036854775808 ≤ x.k ∧ x.k ≤ 9223372036854775807
  hm : -9223372036854775808 ≤ x.m ∧ x.m ≤ 9223372036854775807
  hindex : -9223372036854775808 ≤ x.index ∧ x.index ≤ 9223372036854775807
  hvalue : -9223372036854775808 ≤ x.value ∧ x.value ≤ 9223372036854775807

theorem KOpAt.same {w w' : World} {b o : Nat} {x : KOp} (h : KOpAt w b o x) (hs : ∀ b o, b < w.heap.size → w'.cell? ⟨b, o, none⟩ = w.cell? ⟨b, o, none⟩) : KOpAt w' b o x :=
  { h with
    c0 := (hs _ _ (cell_lt h.c0)).trans h.c0
    c1 := (hs _ _ (cell_lt h.c1)).trans h.c1
    c2 := (hs _ _ (cell_lt h.c2)).trans h.c2
    c3 := (hs _ _ (cell_lt h.c3)).trans h.c3
    c4 := (hs _ _ (cell_lt h.c4)).trans h.c4
    c5 := (hs _ _ (cell_lt h.c5)).trans h.c5
    c6 := (hs _ _ (cell_lt h.c6)).trans h.c6
    c7 := (hs _ _ (cell_lt h.c7)).trans h.c7
    c8 := (hs _ _ (cell_lt h.c8)).trans h.c8
    c9 := (hs _ _ (cell_lt h.c9)).trans h.c9
    data := h.data.same hs
    pk := h.pk.same hs }

def KScript (w : World) (ao : Option Addr) (ops : List KOp) : Prop :=
  ops ≠ [] → ∃ b o, ao = some ⟨b, o, none⟩ ∧ ∀ i, i < ops.length → KOpAt w b (o + i * 10) (ops.getD i KOp.zero)
theorem KScript.same {w w' : World} {ao : Option Addr} {ops : List KOp} (h : KScript w ao ops) (hs : ∀ b o, b < w.heap.size → w'.cell? ⟨b, o, none⟩ = w.cell? ⟨b, o, none⟩) : KScript w' ao ops := by
  intro hn
  obtain ⟨b, o, ha, hc⟩ := h hn
  exact ⟨b, o, ha, fun i hi => (hc i hi).same hs⟩
theorem KScript.below {w w' : World} {ao : Option Addr} {ops : List KOp} (h : KScript w ao ops) (hb : Below w.heap.size w w') : KScript w' ao ops :=
  h.same fun b _ hlt => hb.cell (p := ⟨b, _, none⟩) hlt

def ktotal : List KOp → Nat
  | [] => 0
  | x :: xs => x.bs.length + x.pick.length + ktotal xs
theorem ktotal_take_succ (ops : List KOp) (k : Nat) (h : k < ops.length) : ktotal (ops.take (k + 1)) = ktotal (ops.take k) + (ops.getD k KOp.zero).bs.length + (ops.getD k KOp.zero).pick.length := by
  induction ops generalizing k with
  | nil => simp at h
  | cons x xs ih =>
    cases k with
    | zero => simp [ktotal]
    | succ k => simp only [List.take_succ_cons, ktotal, List.getD_cons_succ]; rw [ih k (by simpa using h)]; omega
theorem ktotal_take_le (ops : List KOp) (k : Nat) : ktotal (ops.take k) ≤ ktotal ops := by
  induction ops generalizing k with
  | nil => simp
  | cons x xs ih =>
    cases k with
    | zero => simp [ktotal]
    | succ k => simp only [List.take_succ_cons, ktotal]; have := ih k; omega
theorem ktotal_mem (ops : List KOp) (x : KOp) (h : x ∈ ops) : x.bs.length + x.pick.length ≤ ktotal ops := by
  induction ops with
  | nil => simp at h
  | cons y ys ih =>
    simp only [ktotal]
    rcases List.mem_cons.1 h with h | h
    · subst h; omega
    · have := ih h; omega
def ksmall (ops : List KOp) : Bool := decide (ops.length + ktotal ops ≤ 65536)
theorem ksmall_len {ops : List KOp} (h : ksmall ops = true) : ops.length ≤ 65536 ∧ ∀ x ∈ ops, x.bs.length ≤ 65536 ∧ x.pick.length ≤ 65536 := by
  unfold ksmall at h
  have h := of_decide_eq_true h
  exact ⟨by omega, fun x hx => by have := ktotal_mem ops x hx; omega⟩

set_option maxRecDepth 100000 in
set_option maxHeartbeats 1000000 in
theorem ksmall_any (ao : Option Addr) (ops : List KOp) (cap : Nat) (w : World) (hs : KScript w ao ops) (hm : ops.length ≤ 140737488355328) (hb : ∀ x ∈ ops, x.bs.length ≤ 140737488355328 ∧ x.pick.length ≤ 140737488355328) :
    Calls Tryd.prog 11 #[.slice ao ops.length cap] w fun e w' => e = .returned (.bool (ksmall ops)) ∧ w' = w := by
  by_cases hbig : 65536 < ops.length
  · have hsm : ksmall ops = false := by unfold ksmall; simp; omega
    have hbig' : (65536 : Int) < (ops.length : Int) := by omega
    rw [hsm]
    go_enter Tryd.func11, Tryd.ntmps11
    go_wp2
    go_ret
    exact ⟨rfl, rfl⟩
  · have hbig' : (ops.length : Int) ≤ 65536 := by omega
    go_enter Tryd.func11, Tryd.ntmps11
    go_wp2
    go_loop [3, 4] (fun n i => ∃ k : Nat, k ≤ ops.length ∧ i = .int .i64 k ∧ n = .int .i64 ((ops.length + ktotal (ops.take k) : Nat) : Int) ∧ ops.length + ktotal (ops.take k) ≤ 65536) (fun _ i => ops.length - (intOf i).toNat)
    case atStart => exact ⟨0, Nat.zero_le _, rfl, by simp [ktotal], by simp [ktotal]; omega⟩
    case round =>
      obtain ⟨k, hk, rfl, rfl, hle⟩ := hrel
      by_cases hlt : k < ops.length
      · obtain ⟨b, o, rfl, hop⟩ := hs (ne_nil_of_lt hlt)
        have hx := hop k hlt
        have hxb := hb _ (getD_mem (d := KOp.zero) hlt)
        have ht := ktotal_take_succ ops k hlt
        have htl := ktotal_take_le ops (k + 1)
        have c4 := hx.c4
        have c5 := hx.c5
        clear hop hx
        generalize ops.getD k KOp.zero = x at *
        have hlt' : (k : Int) < (ops.length : Int) := by omega
        obtain ⟨hxb1, hxb2⟩ := hxb
        obtain ⟨T, hT⟩ : ∃ T, ops.length + ktotal (ops.take k) = T := ⟨_, rfl⟩
        rw [hT] at hle ⊢
        by_cases hin1 : T + x.bs.length ≤ 65536
        · have hin1' : ((T : Int) + (x.bs.length : Int)) ≤ 65536 := by omega
          by_cases hin : T + x.bs.length + x.pick.length ≤ 65536
          · have hin' : ((T : Int) + (x.bs.length : Int) + (x.pick.length : Int)) ≤ 65536 := by omega
            have HT : Hid (ops.length + ktotal (ops.take (k + 1)) = T + x.bs.length + x.pick.length) := by show _ = _; omega
            clear ht hT
            go_wp2
            go_round
            case rel =>
              refine ⟨k + 1, by omega, by go_num, ?_, by rw [HT.out]; exact hin⟩
              rw [HT.out]; go_num
            case measure => simp [intOf]; omega
          · have HSM : Hid (ksmall ops = false) := by show ksmall ops = false; unfold ksmall; simp; omega
            have hin' : 65536 < ((T : Int) + (x.bs.length : Int) + (x.pick.length : Int)) := by omega
            clear ht htl hT
            go_wp2
            go_ret
            exact ⟨by rw [HSM.out]; rfl, rfl⟩
        · have HSM : Hid (ksmall ops = false) := by show ksmall ops = false; unfold ksmall; simp; omega
          have hin' : 65536 < ((T : Int) + (x.bs.length : Int)) := by omega
          clear ht htl hT
          go_wp2
          go_ret
          exact ⟨by rw [HSM.out]; rfl, rfl⟩
      · have hkk : k = ops.length := by omega
        subst hkk
        rw [List.take_length] at hle
        have HSM : Hid (ksmall ops = true) := by show ksmall ops = true; unfold ksmall; simp; omega
        go_wp2
        go_ret
        exact ⟨by rw [HSM.out]; rfl, rfl⟩
end Go.Proofs.Qxb6500697aDoor
