/-
  THE ARGUMENT OPENED: a slice of steps that can be read as data is a 'KScript'.
-/
import Derived.Test.Qxb6500697aDoorKScr
import Derived.ProofKit
import Derived.SizedLaws
import Derived.Deep.Slices
namespace Go.Proofs.Qxb6500697aDoor
open Go.ChangeShapes Go.WideShapes Go.RowKit Go.Deep

theorem Tryd.cells28 : Tryd.prog.cellsOf 28 = 1 := by kernel_rfl
theorem Tryd.cells3 : Tryd.prog.cellsOf 3 = 1 := by kernel_rfl
theorem Tryd.cells29 : Tryd.prog.cellsOf 29 = 1 := by kernel_rfl
theorem Tryd.cells30 : Tryd.prog.cellsOf 30 = 1 := by kernel_rfl
theorem Tryd.cells31 : Tryd.prog.cellsOf 31 = 1 := by kernel_rfl
theorem Tryd.cells32 : Tryd.prog.cellsOf 32 = 1 := by kernel_rfl
theorem Tryd.cells5 : Tryd.prog.cellsOf 5 = 1 := by kernel_rfl
theorem Tryd.cells34 : Tryd.prog.cellsOf 34 = 10 := by kernel_rfl
theorem Tryd.bytes34 : Tryd.prog.bytesOf 34 = 112 := by kernel_rfl
theorem Tryd.bytes5 : Tryd.prog.bytesOf 5 = 1 := by kernel_rfl
theorem Tryd.bytes3 : Tryd.prog.bytesOf 3 = 8 := by kernel_rfl

section
variable {H : Type} {enc : TypeId × Value → H} {W : World}

theorem wf_u8 {z : Int} (h : (Lit.int .u8 z).wf = true) : 0 ≤ z ∧ z < 256 := by
  simp [Lit.wf, IntKind.min, IntKind.max, IntKind.signed, IntKind.bits] at h; omega
theorem wf_i64 {z : Int} (h : (Lit.int .i64 z).wf = true) : -9223372036854775808 ≤ z ∧ z ≤ 9223372036854775807 := by
  simp [Lit.wf, IntKind.min, IntKind.max, IntKind.signed, IntKind.bits] at h; omega

theorem open_bytes {fuel : Nat} {cs : List Value} {x : DataW H × List MemPlace} (h : DataW.trod enc Tryd.prog W 0 (fun _ => true) true fuel 30 cs = some x) (hs : ∀ n ∈ x.1.weights Tryd.prog 30, n ≤ reachBytes) :
    ∃ (da : Option Addr) (dc : Nat) (bs : List Nat), cs = [.slice da bs.length dc] ∧ bs.length ≤ dc ∧ dc ≤ maxLen ∧ BRow W da bs ∧ bs.length ≤ 140737488355328 := by
  rcases open_ints Tryd.underlying30 Tryd.underlying5 Tryd.cells5 h with ⟨rfl, rfl⟩ | ⟨a, len, cap, zs, rfl, _, hl, hm, hz, rfl, hcell, hwz⟩
  · exact ⟨none, 0, [], rfl, Nat.le_refl _, by unfold maxLen; omega, BRow.nil _ _, by simp⟩
  · simp only [if_true] at hz
    have hlen : ((zs.take len).map Int.toNat).length = len := by simp; omega
    have hw := hs _ (by simp only [DataW.weights, Tryd.underlying30]; exact List.mem_cons_self)
    simp only [lits, List.length_map, List.length_take, List.length_drop, Tryd.bytes5, reachBytes] at hw
    refine ⟨some a, cap, (zs.take len).map Int.toNat, by rw [hlen], by omega, hm, ⟨?_, fun hne => ?_⟩, by omega⟩
    · intro y hy
      obtain ⟨z, hz', rfl⟩ := List.mem_map.1 hy
      have := wf_u8 (hwz z (List.mem_of_mem_take hz'))
      omega
    · obtain ⟨b, o, spot⟩ := a
      have hpos : 0 < len := by
        rcases Nat.eq_zero_or_pos len with h0 | h0
        · subst h0; simp at hne
        · exact h0
      have hspot : spot = none := by simpa [Addr.add] using World.cell?_spot (hcell 0 (by omega))
      subst hspot
      refine ⟨b, o, rfl, fun i hi => ?_⟩
      rw [hlen] at hi
      have e : (⟨b, o, none⟩ : Addr).add i = ⟨b, o + i, none⟩ := by unfold Addr.add; split <;> simp_all
      have hc := hcell i (by omega)
      rw [e] at hc
      rw [hc]
      have hz2 := wf_u8 (hwz (zs.getD i 0) (getD_mem (by omega)))
      have e2 : ((zs.take len).map Int.toNat).getD i 0 = (zs.getD i 0).toNat := by
        simp [List.getD_eq_getElem?_getD, hi, show i < zs.length by omega]
      rw [e2, Int.toNat_of_nonneg hz2.1]

theorem open_nums {fuel : Nat} {cs : List Value} {x : DataW H × List MemPlace} (h : DataW.trod enc Tryd.prog W 0 (fun _ => true) true fuel 31 cs = some x) (hs : ∀ n ∈ x.1.weights Tryd.prog 31, n ≤ reachBytes) :
    ∃ (da : Option Addr) (dc : Nat) (zs : List Int), cs = [.slice da zs.length dc] ∧ zs.length ≤ dc ∧ dc ≤ maxLen ∧ IRow W da zs ∧ zs.length ≤ 140737488355328 := by
  rcases open_ints Tryd.underlying31 Tryd.underlying3 Tryd.cells3 h with ⟨rfl, rfl⟩ | ⟨a, len, cap, zs, rfl, _, hl, hm, hz, rfl, hcell, hwz⟩
  · exact ⟨none, 0, [], rfl, Nat.le_refl _, by unfold maxLen; omega, IRow.nil _ _, by simp⟩
  · simp only [if_true] at hz
    have hlen : (zs.take len).length = len := by simp; omega
    have hw := hs _ (by simp only [DataW.weights, Tryd.underlying31]; exact List.mem_cons_self)
    simp only [lits, List.length_map, List.length_take, List.length_drop, Tryd.bytes3, reachBytes] at hw
    refine ⟨some a, cap, zs.take len, by rw [hlen], by omega, hm, ⟨?_, fun hne => ?_⟩, by omega⟩
    · intro y hy
      exact wf_i64 (hwz y (List.mem_of_mem_take hy))
    · obtain ⟨b, o, spot⟩ := a
      have hpos : 0 < len := by
        rcases Nat.eq_zero_or_pos len with h0 | h0
        · subst h0; simp at hne
        · exact h0
      have hspot : spot = none := by simpa [Addr.add] using World.cell?_spot (hcell 0 (by omega))
      subst hspot
      refine ⟨b, o, rfl, fun i hi => ?_⟩
      rw [hlen] at hi
      have e : (⟨b, o, none⟩ : Addr).add i = ⟨b, o + i, none⟩ := by unfold Addr.add; split <;> simp_all
      have hc := hcell i (by omega)
      rw [e] at hc
      rw [hc]
      simp [List.getD_eq_getElem?_getD, hi]

set_option maxRecDepth 100000 in
theorem kopen_op {fuel : Nat} {b o i : Nat} {cs : List Value} {x : DataW H × List MemPlace} (hc : W.cells? 0 ((⟨b, o, none⟩ : Addr).add (i * 10)) 10 = some cs) (h : DataW.trod enc Tryd.prog W 0 (fun _ => true) true fuel 34 cs = some x)
    (hs : ∀ n ∈ x.1.weights Tryd.prog 34, n ≤ reachBytes) : ∃ X, KOpAt W b (o + i * 10) X ∧ X.bs.length ≤ 140737488355328 ∧ X.pick.length ≤ 140737488355328 := by
  obtain ⟨_, hlen, hcells⟩ := World.cells?_some hc
  obtain ⟨xs, n, rfl, rfl, _, hxl, hf⟩ := DataW.trod_struct Tryd.underlying34 h
  match cs, hlen with
  | [v0, v1, v2, v3, v4, v5, v6, v7, v8, v9], _ =>
    have g0 := hcells 0 (by omega)
    have g1 := hcells 1 (by omega)
    have g2 := hcells 2 (by omega)
    have g3 := hcells 3 (by omega)
    have g4 := hcells 4 (by omega)
    have g5 := hcells 5 (by omega)
    have g6 := hcells 6 (by omega)
    have g7 := hcells 7 (by omega)
    have g8 := hcells 8 (by omega)
    have g9 := hcells 9 (by omega)
    match xs, hxl with
    | [x0, x1, x2, x3, x4, x5, x6, x7, x8, x9], _ =>
      have f0 : DataW.trod enc Tryd.prog W 0 (fun _ => true) true n 28 [v0] = some x0 := by
        have f : DataW.trod enc Tryd.prog W 0 (fun _ => true) true n 28 (([v0, v1, v2, v3, v4, v5, v6, v7, v8, v9].drop 0).take (Tryd.prog.cellsOf 28)) = some x0 := hf 0 _ rfl
        rw [Tryd.cells28] at f
        exact f
      have f1 : DataW.trod enc Tryd.prog W 0 (fun _ => true) true n 3 [v1] = some x1 := by
        have f : DataW.trod enc Tryd.prog W 0 (fun _ => true) true n 3 (([v0, v1, v2, v3, v4, v5, v6, v7, v8, v9].drop 1).take (Tryd.prog.cellsOf 3)) = some x1 := hf 1 _ rfl
        rw [Tryd.cells3] at f
        exact f
      have f2 : DataW.trod enc Tryd.prog W 0 (fun _ => true) true n 3 [v2] = some x2 := by
        have f : DataW.trod enc Tryd.prog W 0 (fun _ => true) true n 3 (([v0, v1, v2, v3, v4, v5, v6, v7, v8, v9].drop 2).take (Tryd.prog.cellsOf 3)) = some x2 := hf 2 _ rfl
        rw [Tryd.cells3] at f
        exact f
      have f3 : DataW.trod enc Tryd.prog W 0 (fun _ => true) true n 29 [v3] = some x3 := by
        have f : DataW.trod enc Tryd.prog W 0 (fun _ => true) true n 29 (([v0, v1, v2, v3, v4, v5, v6, v7, v8, v9].drop 3).take (Tryd.prog.cellsOf 29)) = some x3 := hf 3 _ rfl
        rw [Tryd.cells29] at f
        exact f
      have f4 : DataW.trod enc Tryd.prog W 0 (fun _ => true) true n 30 [v4] = some x4 := by
        have f : DataW.trod enc Tryd.prog W 0 (fun _ => true) true n 30 (([v0, v1, v2, v3, v4, v5, v6, v7, v8, v9].drop 4).take (Tryd.prog.cellsOf 30)) = some x4 := hf 4 _ rfl
        rw [Tryd.cells30] at f
        exact f
      have f5 : DataW.trod enc Tryd.prog W 0 (fun _ => true) true n 31 [v5] = some x5 := by
        have f : DataW.trod enc Tryd.prog W 0 (fun _ => true) true n 31 (([v0, v1, v2, v3, v4, v5, v6, v7, v8, v9].drop 5).take (Tryd.prog.cellsOf 31)) = some x5 := hf 5 _ rfl
        rw [Tryd.cells31] at f
        exact f
      have f6 : DataW.trod enc Tryd.prog W 0 (fun _ => true) true n 3 [v6] = some x6 := by
        have f : DataW.trod enc Tryd.prog W 0 (fun _ => true) true n 3 (([v0, v1, v2, v3, v4, v5, v6, v7, v8, v9].drop 6).take (Tryd.prog.cellsOf 3)) = some x6 := hf 6 _ rfl
        rw [Tryd.cells3] at f
        exact f
      have f7 : DataW.trod enc Tryd.prog W 0 (fun _ => true) true n 32 [v7] = some x7 := by
        have f : DataW.trod enc Tryd.prog W 0 (fun _ => true) true n 32 (([v0, v1, v2, v3, v4, v5, v6, v7, v8, v9].drop 7).take (Tryd.prog.cellsOf 32)) = some x7 := hf 7 _ rfl
        rw [Tryd.cells32] at f
        exact f
      have f8 : DataW.trod enc Tryd.prog W 0 (fun _ => true) true n 3 [v8] = some x8 := by
        have f : DataW.trod enc Tryd.prog W 0 (fun _ => true) true n 3 (([v0, v1, v2, v3, v4, v5, v6, v7, v8, v9].drop 8).take (Tryd.prog.cellsOf 3)) = some x8 := hf 8 _ rfl
        rw [Tryd.cells3] at f
        exact f
      have f9 : DataW.trod enc Tryd.prog W 0 (fun _ => true) true n 5 [v9] = some x9 := by
        have f : DataW.trod enc Tryd.prog W 0 (fun _ => true) true n 5 (([v0, v1, v2, v3, v4, v5, v6, v7, v8, v9].drop 9).take (Tryd.prog.cellsOf 5)) = some x9 := hf 9 _ rfl
        rw [Tryd.cells5] at f
        exact f
      obtain ⟨z0, e0, _, w0⟩ := DataW.trod_int Tryd.underlying28 f0
      obtain ⟨z1, e1, _, w1⟩ := DataW.trod_int Tryd.underlying3 f1
      obtain ⟨z2, e2, _, w2⟩ := DataW.trod_int Tryd.underlying3 f2
      obtain ⟨z3, e3, _, w3⟩ := DataW.trod_int Tryd.underlying29 f3
      obtain ⟨z6, e6, _, w6⟩ := DataW.trod_int Tryd.underlying3 f6
      obtain ⟨z7, e7, _, w7⟩ := DataW.trod_int Tryd.underlying32 f7
      obtain ⟨z8, e8, _, w8⟩ := DataW.trod_int Tryd.underlying3 f8
      obtain ⟨z9, e9, _, w9⟩ := DataW.trod_int Tryd.underlying5 f9
      obtain ⟨da, dc, bs, e4, hd1, hd2, hd3, hd4⟩ := open_bytes f4 (by
        intro m hm
        refine hs m ?_
        simp only [DataW.weights, Tryd.underlying34]
        exact DataW.weights_mem_each (j := 4) (t := 30) (d := x4.1) rfl rfl m hm)
      obtain ⟨pa, pc, ps, e5, hp1, hp2, hp3, hp4⟩ := open_nums f5 (by
        intro m hm
        refine hs m ?_
        simp only [DataW.weights, Tryd.underlying34]
        exact DataW.weights_mem_each (j := 5) (t := 31) (d := x5.1) rfl rfl m hm)
      simp only [List.cons.injEq, and_true] at e0 e1 e2 e3 e4 e5 e6 e7 e8 e9
      subst e0 e1 e2 e3 e4 e5 e6 e7 e8 e9
      have hw0 := wf_u8 w0
      have hw1 := wf_i64 w1
      have hw2 := wf_i64 w2
      have hw3 := wf_u8 w3
      have hw6 := wf_i64 w6
      have hw7 := wf_u8 w7
      have hw8 := wf_i64 w8
      have hw9 := wf_u8 w9
      have add1 : ∀ j, ((⟨b, o, none⟩ : Addr).add (i * 10)).add j = ⟨b, o + i * 10 + j, none⟩ := by
        intro j
        rw [add_add]
        unfold Addr.add
        split
        · simp
        · simp [Nat.add_assoc]
      rw [add1] at g0 g1 g2 g3 g4 g5 g6 g7 g8 g9
      refine ⟨⟨z0.toNat, z1, z2, z3.toNat, da, dc, bs, pa, pc, ps, z6, z7.toNat, z8, z9.toNat⟩, ?_, hd4, hp4⟩
      refine { c0 := ?_, c1 := g1, c2 := g2, c3 := ?_, c4 := g4, c5 := g5, c6 := g6, c7 := ?_, c8 := g8, c9 := ?_, data := hd3, cap := hd1, cap2 := hd2, pk := hp3, pcap := hp1, pcap2 := hp2, hkind := ?_, hgen := ?_, hfield := ?_, hmask := ?_, hk := hw1, hm := hw2, hindex := hw6, hvalue := hw8 }
      · show W.cell? ⟨b, o + i * 10, none⟩ = some (.int .u8 ((z0.toNat : Nat) : Int))
        rw [Int.toNat_of_nonneg hw0.1]; simpa using g0
      · show W.cell? ⟨b, o + i * 10 + 3, none⟩ = some (.int .u8 ((z3.toNat : Nat) : Int))
        rw [Int.toNat_of_nonneg hw3.1]; simpa using g3
      · show W.cell? ⟨b, o + i * 10 + 7, none⟩ = some (.int .u8 ((z7.toNat : Nat) : Int))
        rw [Int.toNat_of_nonneg hw7.1]; simpa using g7
      · show W.cell? ⟨b, o + i * 10 + 9, none⟩ = some (.int .u8 ((z9.toNat : Nat) : Int))
        rw [Int.toNat_of_nonneg hw9.1]; simpa using g9
      · show z0.toNat < 256; omega
      · show z3.toNat < 256; omega
      · show z7.toNat < 256; omega
      · show z9.toNat < 256; omega

theorem weights_all {P : Program} {e : TypeId} : ∀ {l : List (DataW H)} {i : Nat} {d : DataW H}, l[i]? = some d → ∀ n ∈ d.weights P e, n ∈ DataW.weightsAll P e l
  | d0 :: l, 0, d, hd, n, hn => by
    simp only [List.getElem?_cons_zero, Option.some.injEq] at hd
    subst hd
    simp only [DataW.weightsAll, List.mem_append]
    exact Or.inl hn
  | d0 :: l, i + 1, d, hd, n, hn => by
    simp only [List.getElem?_cons_succ] at hd
    simp only [DataW.weightsAll, List.mem_append]
    exact Or.inr (weights_all hd n hn)
  | [], i, d, hd, n, hn => by simp at hd

theorem kopen_script {fuel : Nat} {a : Option Addr} {len cap : Nat} {x : DataW H × List MemPlace} (h : DataW.trod enc Tryd.prog W 0 (fun _ => true) true fuel 22 [.slice a len cap] = some x)
    (hs : ∀ n ∈ x.1.weights Tryd.prog 22, n ≤ reachBytes) : ∃ ops : List KOp, ops.length = len ∧ KScript W a ops ∧ ops.length ≤ 140737488355328 ∧ ∀ X ∈ ops, X.bs.length ≤ 140737488355328 ∧ X.pick.length ≤ 140737488355328 := by
  rcases open_slice Tryd.underlying22 h with ⟨hcs, _⟩ | ⟨a', len', cap', m, n, D, Pl, hcs, _, hl, hm, hmm, rfl, hx⟩
  · simp at hcs
    obtain ⟨rfl, rfl, rfl⟩ := hcs
    exact ⟨[], rfl, fun h => absurd rfl h, by simp, by simp⟩
  simp at hcs
  obtain ⟨rfl, rfl, rfl⟩ := hcs
  simp only [if_true] at hmm
  subst hmm
  rw [Tryd.cells34] at hx
  have hw := hs _ (by simp only [DataW.weights, Tryd.underlying22]; exact List.mem_cons_self)
  simp only [List.length_map, List.length_range, Tryd.bytes34, reachBytes] at hw
  rcases Nat.eq_zero_or_pos len with h0 | hpos
  · subst h0
    exact ⟨[], rfl, fun h => absurd rfl h, by simp, by simp⟩
  obtain ⟨b, o, spot⟩ := a'
  have hspot : spot = none := by
    obtain ⟨cs, hc, _⟩ := hx 0 (by omega)
    obtain ⟨_, hlen, hcells⟩ := World.cells?_some hc
    have g0 := hcells 0 (by omega)
    rw [List.getElem?_eq_getElem (by omega)] at g0
    have g1 : W.cell? ⟨b, o, spot⟩ = some (cs[0]'(by omega)) := by simpa [Addr.add] using g0
    simpa using World.cell?_spot g1
  subst hspot
  have hall : ∀ i, i < len → ∃ X : KOp, KOpAt W b (o + i * 10) X ∧ X.bs.length ≤ 140737488355328 ∧ X.pick.length ≤ 140737488355328 := by
    intro i hi
    obtain ⟨cs, hc, ht⟩ := hx i (by omega)
    refine kopen_op hc ht (fun k hk => hs k ?_)
    simp only [DataW.weights, Tryd.underlying22]
    refine List.mem_cons_of_mem _ (List.mem_append.2 (.inl (weights_all (i := i) (d := D i) ?_ k hk)))
    simp [hi]
  obtain ⟨f, hf⟩ : ∃ f : Nat → KOp, ∀ i, i < len → KOpAt W b (o + i * 10) (f i) ∧ (f i).bs.length ≤ 140737488355328 ∧ (f i).pick.length ≤ 140737488355328 := by
    classical
    refine ⟨fun i => if hi : i < len then Classical.choose (hall i hi) else KOp.zero, fun i hi => ?_⟩
    simp only [dif_pos hi]
    exact Classical.choose_spec (hall i hi)
  refine ⟨(List.range len).map f, by simp, fun _ => ⟨b, o, rfl, fun i hi => ?_⟩, by simp; omega, fun X hX => ?_⟩
  · simp at hi
    have e : ((List.range len).map f).getD i KOp.zero = f i := by simp [List.getD_eq_getElem?_getD, hi]
    rw [e]; exact (hf i hi).1
  · obtain ⟨i, hi, rfl⟩ := List.mem_map.1 hX
    exact (hf i (by simpa using hi)).2
end
end Go.Proofs.Qxb6500697aDoor
