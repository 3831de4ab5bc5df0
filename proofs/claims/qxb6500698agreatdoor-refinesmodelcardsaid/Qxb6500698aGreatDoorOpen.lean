/-
  THE ARGUMENT OPENED: a slice of steps that can be read as data is a 'Script'.
-/
import Derived.Test.Qxb6500698aGreatDoorMem
import Derived.Test.Qxb6500698aGreatDoorProg
import Derived.ProofKit
import Derived.SizedLaws
import Derived.Deep.Slices
namespace Go.Proofs.Qxb6500698aGreatDoor
open Go.ChangeShapes Go.WideShapes Go.RowKit Go.Deep

theorem Tryz.cells32 : Tryz.prog.cellsOf 32 = 6 := by kernel_rfl
theorem Tryz.cells28 : Tryz.prog.cellsOf 28 = 1 := by kernel_rfl
theorem Tryz.cells29 : Tryz.prog.cellsOf 29 = 1 := by kernel_rfl
theorem Tryz.cells5 : Tryz.prog.cellsOf 5 = 1 := by kernel_rfl
theorem Tryz.cells3 : Tryz.prog.cellsOf 3 = 1 := by kernel_rfl
theorem Tryz.cells30 : Tryz.prog.cellsOf 30 = 1 := by kernel_rfl
theorem Tryz.bytes32 : Tryz.prog.bytesOf 32 = 64 := by kernel_rfl
theorem Tryz.bytes5 : Tryz.prog.bytesOf 5 = 1 := by kernel_rfl

section
variable {H : Type} {enc : TypeId × Value → H} {W : World}

theorem wf_u8 {z : Int} (h : (Lit.int .u8 z).wf = true) : 0 ≤ z ∧ z < 256 := by
  simp [Lit.wf, IntKind.min, IntKind.max, IntKind.signed, IntKind.bits] at h; omega
theorem wf_u64 {z : Int} (h : (Lit.int .u64 z).wf = true) : 0 ≤ z ∧ z < 18446744073709551616 := by
  simp [Lit.wf, IntKind.min, IntKind.max, IntKind.signed, IntKind.bits] at h; omega
theorem wf_i64 {z : Int} (h : (Lit.int .i64 z).wf = true) : -9223372036854775808 ≤ z ∧ z ≤ 9223372036854775807 := by
  simp [Lit.wf, IntKind.min, IntKind.max, IntKind.signed, IntKind.bits] at h; omega

theorem open_bytes {fuel : Nat} {cs : List Value} {x : DataW H × List MemPlace} (h : DataW.trod enc Tryz.prog W 0 (fun _ => true) true fuel 29 cs = some x) (hs : ∀ n ∈ x.1.weights Tryz.prog 29, n ≤ reachBytes) :
    ∃ (da : Option Addr) (dc : Nat) (bs : List Nat), cs = [.slice da bs.length dc] ∧ bs.length ≤ dc ∧ dc ≤ maxLen ∧ BRow W da bs ∧ bs.length ≤ 140737488355328 := by
  rcases open_ints Tryz.underlying29 Tryz.underlying5 Tryz.cells5 h with ⟨rfl, rfl⟩ | ⟨a, len, cap, zs, rfl, _, hl, hm, hz, rfl, hcell, hwz⟩
  · exact ⟨none, 0, [], rfl, Nat.le_refl _, by unfold maxLen; omega, BRow.nil _ _, by simp⟩
  · simp only [if_true] at hz
    have hlen : ((zs.take len).map Int.toNat).length = len := by simp; omega
    have hw := hs _ (by simp only [DataW.weights, Tryz.underlying29]; exact List.mem_cons_self)
    simp only [lits, List.length_map, List.length_take, List.length_drop, Tryz.bytes5, reachBytes] at hw
    refine ⟨some a, cap, (zs.take len).map Int.toNat, by rw [hlen], by omega, hm, ⟨?_, fun hne => ?_⟩, by omega⟩
    · intro y hy
      obtain ⟨z, hz', rfl⟩ := List.mem_map.1 hy
      have := wf_u8 (hwz z (List.mem_of_mem_take hz'))
      omega
    · obtain ⟨b, o, spot⟩ := a
      have hpos : 0 < len := by
        rcases Nat.eq_zero_or_pos len with h0 | h0
        · subst h0; simp at hne
        · exact h0
      have hspot : spot = none := by simpa [Addr.add] using World.cell?_spot (hcell 0 (by omega))
      subst hspot
      refine ⟨b, o, rfl, fun i hi => ?_⟩
      rw [hlen] at hi
      have e : (⟨b, o, none⟩ : Addr).add i = ⟨b, o + i, none⟩ := by unfold Addr.add; split <;> simp_all
      have hc := hcell i (by omega)
      rw [e] at hc
      rw [hc]
      have hz2 := wf_u8 (hwz (zs.getD i 0) (getD_mem (by omega)))
      have e2 : ((zs.take len).map Int.toNat).getD i 0 = (zs.getD i 0).toNat := by
        simp [List.getD_eq_getElem?_getD, hi, show i < zs.length by omega]
      rw [e2, Int.toNat_of_nonneg hz2.1]

set_option maxRecDepth 100000 in
theorem open_op {fuel : Nat} {b o i : Nat} {cs : List Value} {x : DataW H × List MemPlace} (hc : W.cells? 0 ((⟨b, o, none⟩ : Addr).add (i * 6)) 6 = some cs) (h : DataW.trod enc Tryz.prog W 0 (fun _ => true) true fuel 32 cs = some x)
    (hs : ∀ n ∈ x.1.weights Tryz.prog 32, n ≤ reachBytes) : ∃ X, OpAt W b (o + i * 6) X ∧ X.bs.length ≤ 140737488355328 := by
  obtain ⟨_, hlen, hcells⟩ := World.cells?_some hc
  obtain ⟨xs, n, rfl, rfl, _, hxl, hf⟩ := DataW.trod_struct Tryz.underlying32 h
  match cs, hlen with
  | [v0, v1, v2, v3, v4, v5], _ =>
    have g0 := hcells 0 (by omega)
    have g1 := hcells 1 (by omega)
    have g2 := hcells 2 (by omega)
    have g3 := hcells 3 (by omega)
    have g4 := hcells 4 (by omega)
    have g5 := hcells 5 (by omega)
    match xs, hxl with
    | [x0, x1, x2, x3, x4, x5], _ =>
      have f0 : DataW.trod enc Tryz.prog W 0 (fun _ => true) true n 28 [v0] = some x0 := by
        have f : DataW.trod enc Tryz.prog W 0 (fun _ => true) true n 28 (([v0, v1, v2, v3, v4, v5].drop 0).take (Tryz.prog.cellsOf 28)) = some x0 := hf 0 _ rfl
        rw [Tryz.cells28] at f
        exact f
      have f1 : DataW.trod enc Tryz.prog W 0 (fun _ => true) true n 29 [v1] = some x1 := by
        have f : DataW.trod enc Tryz.prog W 0 (fun _ => true) true n 29 (([v0, v1, v2, v3, v4, v5].drop 1).take (Tryz.prog.cellsOf 29)) = some x1 := hf 1 _ rfl
        rw [Tryz.cells29] at f
        exact f
      have f2 : DataW.trod enc Tryz.prog W 0 (fun _ => true) true n 5 [v2] = some x2 := by
        have f : DataW.trod enc Tryz.prog W 0 (fun _ => true) true n 5 (([v0, v1, v2, v3, v4, v5].drop 2).take (Tryz.prog.cellsOf 5)) = some x2 := hf 2 _ rfl
        rw [Tryz.cells5] at f
        exact f
      have f3 : DataW.trod enc Tryz.prog W 0 (fun _ => true) true n 3 [v3] = some x3 := by
        have f : DataW.trod enc Tryz.prog W 0 (fun _ => true) true n 3 (([v0, v1, v2, v3, v4, v5].drop 3).take (Tryz.prog.cellsOf 3)) = some x3 := hf 3 _ rfl
        rw [Tryz.cells3] at f
        exact f
      have f4 : DataW.trod enc Tryz.prog W 0 (fun _ => true) true n 30 [v4] = some x4 := by
        have f : DataW.trod enc Tryz.prog W 0 (fun _ => true) true n 30 (([v0, v1, v2, v3, v4, v5].drop 4).take (Tryz.prog.cellsOf 30)) = some x4 := hf 4 _ rfl
        rw [Tryz.cells30] at f
        exact f
      have f5 : DataW.trod enc Tryz.prog W 0 (fun _ => true) true n 3 [v5] = some x5 := by
        have f : DataW.trod enc Tryz.prog W 0 (fun _ => true) true n 3 (([v0, v1, v2, v3, v4, v5].drop 5).take (Tryz.prog.cellsOf 3)) = some x5 := hf 5 _ rfl
        rw [Tryz.cells3] at f
        exact f
      obtain ⟨z0, e0, _, w0⟩ := DataW.trod_int Tryz.underlying28 f0
      obtain ⟨z2, e2, _, w2⟩ := DataW.trod_int Tryz.underlying5 f2
      obtain ⟨z3, e3, _, w3⟩ := DataW.trod_int Tryz.underlying3 f3
      obtain ⟨z4, e4, _, w4⟩ := DataW.trod_int Tryz.underlying30 f4
      obtain ⟨z5, e5, _, w5⟩ := DataW.trod_int Tryz.underlying3 f5
      obtain ⟨da, dc, bs, e1, hd1, hd2, hd3, hd4⟩ := open_bytes f1 (by
        intro m hm
        refine hs m ?_
        simp only [DataW.weights, Tryz.underlying32]
        exact DataW.weights_mem_each (j := 1) (t := 29) (d := x1.1) rfl rfl m hm)
      simp only [List.cons.injEq, and_true] at e0 e1 e2 e3 e4 e5
      subst e0 e1 e2 e3 e4 e5
      have hw0 := wf_u8 w0
      have hw2 := wf_u8 w2
      have hw3 := wf_i64 w3
      have hw4 := wf_u64 w4
      have hw5 := wf_i64 w5
      have add1 : ∀ j, ((⟨b, o, none⟩ : Addr).add (i * 6)).add j = ⟨b, o + i * 6 + j, none⟩ := by
        intro j
        rw [add_add]
        unfold Addr.add
        split
        · simp
        · simp [Nat.add_assoc]
      rw [add1] at g0 g1 g2 g3 g4 g5
      refine ⟨⟨z0.toNat, da, dc, bs, z2.toNat, z3, z4.toNat, z5⟩, ?_, hd4⟩
      refine { c0 := ?_, c1 := g1, c2 := ?_, c3 := g3, c4 := ?_, c5 := g5, data := hd3, cap := hd1, cap2 := hd2, hk := ?_, hb := ?_, hn1 := hw3.1, hn2 := hw3.2, hv := ?_, hw1 := hw5.1, hw2 := hw5.2 }
      · show W.cell? ⟨b, o + i * 6, none⟩ = some (.int .u8 ((z0.toNat : Nat) : Int))
        rw [Int.toNat_of_nonneg hw0.1]; simpa using g0
      · show W.cell? ⟨b, o + i * 6 + 2, none⟩ = some (.int .u8 ((z2.toNat : Nat) : Int))
        rw [Int.toNat_of_nonneg hw2.1]; simpa using g2
      · show W.cell? ⟨b, o + i * 6 + 4, none⟩ = some (.int .u64 ((z4.toNat : Nat) : Int))
        rw [Int.toNat_of_nonneg hw4.1]; simpa using g4
      · show z0.toNat < 256; omega
      · show z2.toNat < 256; omega
      · show z4.toNat < 18446744073709551616; omega

theorem weights_all {P : Program} {e : TypeId} : ∀ {l : List (DataW H)} {i : Nat} {d : DataW H}, l[i]? = some d → ∀ n ∈ d.weights P e, n ∈ DataW.weightsAll P e l
  | d0 :: l, 0, d, hd, n, hn => by
    simp only [List.getElem?_cons_zero, Option.some.injEq] at hd
    subst hd
    simp only [DataW.weightsAll, List.mem_append]
    exact Or.inl hn
  | d0 :: l, i + 1, d, hd, n, hn => by
    simp only [List.getElem?_cons_succ] at hd
    simp only [DataW.weightsAll, List.mem_append]
    exact Or.inr (weights_all hd n hn)
  | [], i, d, hd, n, hn => by simp at hd

theorem open_script {fuel : Nat} {a : Option Addr} {len cap : Nat} {x : DataW H × List MemPlace} (h : DataW.trod enc Tryz.prog W 0 (fun _ => true) true fuel 22 [.slice a len cap] = some x)
    (hs : ∀ n ∈ x.1.weights Tryz.prog 22, n ≤ reachBytes) : ∃ ops : List OpD, ops.length = len ∧ Script W a ops ∧ ops.length ≤ 140737488355328 ∧ ∀ X ∈ ops, X.bs.length ≤ 140737488355328 := by
  rcases open_slice Tryz.underlying22 h with ⟨hcs, _⟩ | ⟨a', len', cap', m, n, D, Pl, hcs, _, hl, hm, hmm, rfl, hx⟩
  · simp at hcs
    obtain ⟨rfl, rfl, rfl⟩ := hcs
    exact ⟨[], rfl, fun h => absurd rfl h, by simp, by simp⟩
  simp at hcs
  obtain ⟨rfl, rfl, rfl⟩ := hcs
  simp only [if_true] at hmm
  subst hmm
  rw [Tryz.cells32] at hx
  have hw := hs _ (by simp only [DataW.weights, Tryz.underlying22]; exact List.mem_cons_self)
  simp only [List.length_map, List.length_range, Tryz.bytes32, reachBytes] at hw
  rcases Nat.eq_zero_or_pos len with h0 | hpos
  · subst h0
    exact ⟨[], rfl, fun h => absurd rfl h, by simp, by simp⟩
  obtain ⟨b, o, spot⟩ := a'
  have hspot : spot = none := by
    obtain ⟨cs, hc, _⟩ := hx 0 (by omega)
    obtain ⟨_, hlen, hcells⟩ := World.cells?_some hc
    have g0 := hcells 0 (by omega)
    rw [List.getElem?_eq_getElem (by omega)] at g0
    have g1 : W.cell? ⟨b, o, spot⟩ = some (cs[0]'(by omega)) := by simpa [Addr.add] using g0
    simpa using World.cell?_spot g1
  subst hspot
  have hall : ∀ i, i < len → ∃ X : OpD, OpAt W b (o + i * 6) X ∧ X.bs.length ≤ 140737488355328 := by
    intro i hi
    obtain ⟨cs, hc, ht⟩ := hx i (by omega)
    refine open_op hc ht (fun k hk => hs k ?_)
    simp only [DataW.weights, Tryz.underlying22]
    refine List.mem_cons_of_mem _ (List.mem_append.2 (.inl (weights_all (i := i) (d := D i) ?_ k hk)))
    simp [hi]
  obtain ⟨f, hf⟩ : ∃ f : Nat → OpD, ∀ i, i < len → OpAt W b (o + i * 6) (f i) ∧ (f i).bs.length ≤ 140737488355328 := by
    classical
    refine ⟨fun i => if hi : i < len then Classical.choose (hall i hi) else OpD.zero, fun i hi => ?_⟩
    simp only [dif_pos hi]
    exact Classical.choose_spec (hall i hi)
  refine ⟨(List.range len).map f, by simp, fun _ => ⟨b, o, rfl, fun i hi => ?_⟩, by simp; omega, fun X hX => ?_⟩
  · simp at hi
    have e : ((List.range len).map f).getD i OpD.zero = f i := by simp [List.getD_eq_getElem?_getD, hi]
    rw [e]; exact (hf i hi).1
  · obtain ⟨i, hi, rfl⟩ := List.mem_map.1 hX
    exact (hf i (by simpa using hi)).2
end
end Go.Proofs.Qxb6500698aGreatDoor
