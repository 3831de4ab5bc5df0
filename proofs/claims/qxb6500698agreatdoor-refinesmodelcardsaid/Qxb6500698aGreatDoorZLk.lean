/-
  THE TWO MACHINES SIDE BY SIDE (plain).
-/
import Derived.Test.Qxb6500698aGreatDoorZTA
import Derived.Test.Qxb6500698aGreatDoorZN5
import Derived.Test.Qxb6500698aGreatDoorZNw
import Derived.Test.Qxb6500698aGreatDoorZAS
namespace Go.Proofs.Qxb6500698aGreatDoor
open Go.RowKit

/-- The real machines hold s, the model holds t, and neither writes what the other reads. -/
structure Lk (B : Nat) (w : World) (e : Nat → Addr) (l : Rl) (m : Ml) (s t : ZSt) : Prop where
  zr : ZR B w e l s
  zm : ZM B w m t
  eb : EB B w e
  d1 : ∀ b, RW l b ∨ b = l.tb → ¬ (MW m b ∨ MI m t b)
  d2 : ∀ b, RB l b → ¬ MW m b
section
variable {B : Nat} {w w' : World} {e : Nat → Addr} {l l' : Rl} {m m' : Ml} {s s' t t' : ZSt}
theorem Lk.hB (h : Lk B w e l m s t) : B ≤ w.heap.size := Nat.le_trans h.zm.hB (Nat.le_of_lt h.zm.lt)
theorem Lk.below (h : Lk B w e l m s t) (hb : Below w.heap.size w w') : Lk B w' e l m s t := ⟨h.zr.below hb, h.zm.below hb, h.eb.below (hb.mono h.hB), h.d1, h.d2⟩
theorem Lk.real (h : Lk B w e l m s t) (hs : RSt B w w' e l l' s') : Lk B w' e l' m s' t := by
  have hlt : ∀ b, MW m b ∨ MI m t b → b < w.heap.size := fun b hb => by
    rcases hb with hb | hb
    · exact (h.zm.mlt hb).2
    · exact h.zm.ilt hb
  refine ⟨hs.zr, h.zm.keep (fun b hb => hs.chg.block b (hlt b hb) (fun hx => h.d1 b (.inl hx) hb)) hs.chg.size, hs.eb h.zr h.eb, fun b hb hx => ?_, fun b hb hx => ?_⟩
  · rcases hb with hb | hb
    · rcases hs.new b hb with h1 | h1
      · exact h.d1 b (.inl h1) hx
      · have := hlt b hx; omega
    · exact h.d1 b (.inr (hb.trans hs.tb)) hx
  · rcases hs.rdn b hb with h1 | h1 | h1
    · have := (h.zm.mlt hx).1; omega
    · exact h.d2 b h1 hx
    · have := (h.zm.mlt hx).2; omega
theorem Lk.model (h : Lk B w e l m s t) (hs : MSt B w w' m m' t t') : Lk B w' e l m' s t' := by
  have hlt : ∀ b, RW l b ∨ b = l.tb → b < w.heap.size := fun b hb => by
    rcases hb with hb | hb
    · exact (h.zr.rlt b hb).1
    · rw [hb]; exact h.zr.tab.lt
  refine ⟨h.zr.keep (fun b hb => ?_) hs.chg.size, hs.zm, h.eb.below (hs.chg.below (Below.refl B w) h.hB (fun b hb => (h.zm.mlt hb).1)), fun b hb hx => ?_, fun b hb hx => ?_⟩
  · rcases hb with hb | hb | hb
    · exact hs.chg.block b (hlt b (.inl hb)) (fun hx => h.d1 b (.inl hb) (.inl hx))
    · exact hs.chg.block b (hlt b (.inr hb)) (fun hx => h.d1 b (.inr hb) (.inl hx))
    · exact hs.chg.block b (h.zr.blt b hb) (h.d2 b hb)
  · rcases hs.new b hx with h1 | h1 | h1
    · exact h.d1 b hb (.inl h1)
    · exact h.d1 b hb (.inr h1)
    · have := hlt b hb; omega
  · rcases hs.nw b hx with h1 | h1
    · exact h.d2 b hb h1
    · have := h.zr.blt b hb; omega
/-- What the real machines showed is still there behind the model's step. -/
theorem Lk.row (h : Lk B w e l m s t) (hs : MSt B w w' m m' t t') {a : Option Addr} {dat : List Nat} (hr : BRow w a dat) (ha : dat ≠ [] → ∀ b o, a = some ⟨b, o, none⟩ → l.v.ownBlock = some b ∨ RB l b) : BRow w' a dat :=
  hr.chg hs.chg (fun h0 b o he hx => by
    rcases ha h0 b o he with h1 | h1
    · exact h.d1 b (.inl (.inr (.inr (.inr (.inr h1))))) (.inl hx)
    · exact h.d2 b h1 hx)
end
theorem zstep_F (s : ZSt) (o : OpD) (hb : o.bs.length ≤ 65536) : (zstep s o).1.F.length ≤ s.F.length + 65536 := by
  have hf : fill o.n ≤ 65536 := by unfold fill; omega
  unfold zstep
  by_cases k0 : o.kind = 0
  · rw [if_pos k0]; exact Nat.zero_le _
  rw [if_neg k0]
  by_cases k1 : o.kind = 1
  · rw [if_pos k1]; show (s.F ++ o.bs).length ≤ _; rw [List.length_append]; omega
  rw [if_neg k1]
  by_cases k2 : o.kind = 2
  · rw [if_pos k2]; show (s.F ++ List.replicate (fill o.n) o.b).length ≤ _; rw [List.length_append, List.length_replicate]; omega
  rw [if_neg k2]
  by_cases k3 : o.kind = 3
  · rw [if_pos k3]; exact Nat.le_add_right _ _
  rw [if_neg k3]
  by_cases k4 : o.kind = 4
  · rw [if_pos k4]; exact Nat.le_add_right _ _
  rw [if_neg k4]
  by_cases k5 : o.kind = 5
  · rw [if_pos k5]; exact Nat.le_add_right _ _
  rw [if_neg k5]
  by_cases k6 : o.kind = 6
  · rw [if_pos k6]; exact Nat.le_add_right _ _
  rw [if_neg k6]
  by_cases k7 : o.kind = 7
  · rw [if_pos k7]; exact Nat.le_add_right _ _
  rw [if_neg k7]
  by_cases k8 : o.kind = 8
  · rw [if_pos k8]; exact Nat.le_add_right _ _
  rw [if_neg k8]
  by_cases k9 : o.kind = 9
  · rw [if_pos k9]; exact Nat.le_add_right _ _
  rw [if_neg k9]
  by_cases k10 : o.kind = 10
  · rw [if_pos k10]; exact Nat.le_add_right _ _
  rw [if_neg k10]
  by_cases k11 : o.kind = 11
  · rw [if_pos k11]; exact Nat.le_add_right _ _
  rw [if_neg k11]
  by_cases k12 : o.kind = 12
  · rw [if_pos k12]; exact Nat.le_add_right _ _
  rw [if_neg k12]
  by_cases k13 : o.kind = 13
  · rw [if_pos k13]; exact Nat.le_add_right _ _
  rw [if_neg k13]
  by_cases k14 : o.kind = 14
  · rw [if_pos k14]; exact Nat.le_add_right _ _
  rw [if_neg k14]
  by_cases k15 : o.kind = 15
  · rw [if_pos k15]; exact Nat.le_add_right _ _
  rw [if_neg k15]
  by_cases k16 : o.kind = 16
  · rw [if_pos k16]; exact Nat.le_add_right _ _
  rw [if_neg k16]
  by_cases k17 : o.kind = 17
  · rw [if_pos k17]; exact Nat.le_add_right _ _
  rw [if_neg k17]
  by_cases k18 : o.kind = 18
  · rw [if_pos k18]; exact Nat.le_add_right _ _
  rw [if_neg k18]
  exact Nat.le_add_right _ _
theorem zstep_dat {B : Nat} {w : World} {l : Ml} {s : ZSt} (h : ZM B w l s) (o : OpD) : (zstep s o).2.dat.length ≤ 65536 := by
  have h1 := h.il
  have h2 := h.ol
  have h3 := h.lim
  have h4 := zrd_le (I := s.I) (ie := s.ie) (n := o.n)
  have h5 := zck_le (f := Crc.crc) (I := s.I) (ie := s.ie)
  have h6 := zck_le (f := Flt.fl) (I := s.I) (ie := s.ie)
  unfold zstep
  by_cases k0 : o.kind = 0
  · rw [if_pos k0]; exact Nat.zero_le _
  rw [if_neg k0]
  by_cases k1 : o.kind = 1
  · rw [if_pos k1]; exact Nat.zero_le _
  rw [if_neg k1]
  by_cases k2 : o.kind = 2
  · rw [if_pos k2]; exact Nat.zero_le _
  rw [if_neg k2]
  by_cases k3 : o.kind = 3
  · rw [if_pos k3]; exact Nat.zero_le _
  rw [if_neg k3]
  by_cases k4 : o.kind = 4
  · rw [if_pos k4]; exact Nat.zero_le _
  rw [if_neg k4]
  by_cases k5 : o.kind = 5
  · rw [if_pos k5]; exact Nat.zero_le _
  rw [if_neg k5]
  by_cases k6 : o.kind = 6
  · rw [if_pos k6]; exact Nat.zero_le _
  rw [if_neg k6]
  by_cases k7 : o.kind = 7
  · rw [if_pos k7]; exact Nat.zero_le _
  rw [if_neg k7]
  by_cases k8 : o.kind = 8
  · rw [if_pos k8]; exact Nat.zero_le _
  rw [if_neg k8]
  by_cases k9 : o.kind = 9
  · rw [if_pos k9]; exact Nat.zero_le _
  rw [if_neg k9]
  by_cases k10 : o.kind = 10
  · rw [if_pos k10]; show s.O.length ≤ _; omega
  rw [if_neg k10]
  by_cases k11 : o.kind = 11
  · rw [if_pos k11]; exact Nat.zero_le _
  rw [if_neg k11]
  by_cases k12 : o.kind = 12
  · rw [if_pos k12]; exact Nat.zero_le _
  rw [if_neg k12]
  by_cases k13 : o.kind = 13
  · rw [if_pos k13]; exact Nat.zero_le _
  rw [if_neg k13]
  by_cases k14 : o.kind = 14
  · rw [if_pos k14]; show (zrd s.I s.ie o.n).1.length ≤ _; omega
  rw [if_neg k14]
  by_cases k15 : o.kind = 15
  · rw [if_pos k15]; exact Nat.zero_le _
  rw [if_neg k15]
  by_cases k16 : o.kind = 16
  · rw [if_pos k16]; show (zck Crc.crc s.I s.ie).1.length ≤ _; omega
  rw [if_neg k16]
  by_cases k17 : o.kind = 17
  · rw [if_pos k17]; show (zck Flt.fl s.I s.ie).1.length ≤ _; omega
  rw [if_neg k17]
  by_cases k18 : o.kind = 18
  · rw [if_pos k18]; exact Nat.zero_le _
  rw [if_neg k18]
  exact Nat.zero_le _
theorem total_memz : ∀ (ops : List OpD) (x : OpD), x ∈ ops → x.bs.length ≤ total ops
  | [], _, h => by cases h
  | y :: ys, x, h => by
    simp only [total]
    rcases List.mem_cons.1 h with h | h
    · subst h; omega
    · have := total_memz ys x h; omega
theorem small_lenz {ops : List OpD} (h : small ops = true) : ops.length ≤ 65536 ∧ ∀ x ∈ ops, x.bs.length ≤ 65536 := by
  unfold small at h
  have h := of_decide_eq_true h
  exact ⟨by omega, fun x hx => by have := total_memz ops x hx; omega⟩
theorem OpAt.opz {w w' : World} {b q : Nat} {x : OpD} (h : OpAt w b q x) (hl : x.bs.length ≤ 65536) (hb : Below w.heap.size w w') : OpZ w.heap.size w' x :=
  ⟨h.data.below hb, h.cap, by have := h.cap2; unfold maxLen at this; omega, hl, fun h0 b o he => h.data.at_lt h0 he, h.hk, h.hb, ⟨h.hn1, h.hn2⟩, h.hv, ⟨h.hw1, h.hw2⟩⟩
theorem EB.start {w : World} {e : Nat → Addr} (E : Errs w e) : EB w.heap.size w e := ⟨E, fun i hi => ⟨E.lt hi, by obtain ⟨c, t, h⟩ := E.row i hi; exact heap_lt h⟩⟩
end Go.Proofs.Qxb6500698aGreatDoor
