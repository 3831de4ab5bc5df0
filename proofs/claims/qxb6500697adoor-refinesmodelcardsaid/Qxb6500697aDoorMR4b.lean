/-
  THE BENCH's STEP: KRebuild, the operation's own part.
-/
import Derived.Test.Qxb6500697aDoorMR4
namespace Go.Proofs.Qxb6500697aDoor
open Go.RowKit

section
variable {B : Nat} {w : World} {bb sb cb mb k m k2 m2 : Nat} {v1 v2 : Value} {ss ts : List Sd} {pm : Nat} {o : KOp} {e : Nat → Addr}
theorem stepR4 (h : InR B w bb sb cb mb k m k2 m2 v1 ss v2 ts pm o e) (h0 : o.kind = 4) :
    Calls Tryd.prog 14 #[.pointer (some ⟨bb, 0, none⟩), opV o] w (StepR B w bb sb k m k2 m2 ss v2 ts pm o) := by
  refine stepR4_go h h0 (fun W V v hRW hE hs hb => ?_)
  obtain ⟨ao, cap, rfl, hS⟩ := hs.form
  have hk := hRW.codec.hk
  have hkn := hRW.codec.hn
  have hmb : mb < W.heap.size := hRW.cache.lt
  have hca : Cache (fun b => XS bb sb v1 ss v2 ts (fun b => b = w.heap.size + 1) b ∨ (W.heap.size ≤ b ∧ b < V.heap.size)) V mb k (k + m) := hRW.cache.addX hb (fun b hb => by rcases hb with h | h; exact .inl h; exact .inr h.1)
  have hX : ∀ b, (XS bb sb v1 ss v2 ts (fun b => b = w.heap.size + 1) b ∨ (W.heap.size ≤ b ∧ b < V.heap.size)) → b < V.heap.size := fun b hx => by
    rcases hx with h | h
    · exact Nat.lt_of_lt_of_le (hRW.xlt b h) hb.size
    · exact h.2
  have hXm : ¬ (XS bb sb v1 ss v2 ts (fun b => b = w.heap.size + 1) mb ∨ (W.heap.size ≤ mb ∧ mb < V.heap.size)) := fun hx => by
    rcases hx with h | h
    · exact hRW.noMb h
    · omega
  have hRV := hRW.below hb
  by_cases hix : o.index < 0 ∨ ((k + m : Nat) : Int) ≤ o.index
  · refine (rebuild_ix V _ cb mb k m o.index ao _ cap e (hE.below hb) (hRW.codec.below hb) hix h.op.hindex.1 h.op.hindex.2).mono ?_
    rintro r w8 ⟨rfl, hB⟩
    refine ⟨0, 0, 0, none, 0, 0, some 3, rfl, ⟨Below.mut hB mb, hca.below hB, .inl ⟨3, rfl, by omega, Spec.k4 h0 ⟨Stay.refl _ _ _, .inl ⟨hix, AnsEq.refl _⟩⟩⟩⟩, (Below.keeps hb).trans (Below.keeps hB)⟩
  · obtain ⟨ix, hixe⟩ : ∃ ix : Nat, o.index = (ix : Int) := ⟨o.index.toNat, by omega⟩
    have hixr : 0 ≤ o.index ∧ o.index < ((k + m : Nat) : Int) := by omega
    have hixn : o.index.toNat = ix := by omega
    rw [hixe]
    refine (rebuild_any _ V _ cb mb k m ix ao cap _ e (hE.below hb) (hRW.codec.below hb) hca hX hXm hS h.pkl (by omega)).mono ?_
    rintro r w8 ⟨hM, hC8, hcase⟩
    have hk8 : Keeps W w8 := (Below.keeps hb).trans (hM.keepsC hca)
    have bad : ∀ i, Refu k (k + m) (pk o.pick ss) i → RR4 W V w8 bb sb mb k m v1 ss v2 ts o (w.heap.size + 1) 0 0 0 none 0 0 (some i) := fun i hi => ⟨hM, hC8, .inl ⟨i, rfl, hi.lt, Spec.k4 h0 ⟨Stay.refl _ _ _, .inr ⟨hixr, .inl ⟨i, hi, AnsEq.refl _⟩⟩⟩⟩⟩
    rcases hcase with ⟨i, hg, rfl⟩ | ⟨hg, hn, rfl⟩ | ⟨hg, D, pa, pc, rfl, hp1, hp2, hby, hfi, hpa, v, hv1, _, hv3⟩
    · exact ⟨0, 0, 0, none, 0, 0, some i, rfl, bad i (.inl hg), hk8⟩
    · exact ⟨0, 0, 0, none, 0, 0, some 8, rfl, bad 8 (.inr ⟨hg, hn, rfl⟩), hk8⟩
    · have hol := hg.ol
      have hps := psize_le (g0of (pk o.pick ss)) k (ol0of (pk o.pick ss)).toNat hk (by omega)
      have hgl : g0of (pk o.pick ss) < 256 := by
        obtain ⟨x, hx⟩ := List.exists_mem_of_ne_nil _ hg.ne
        have h1 := (hg.fit x hx).hg
        have h2 := (hg.fit x hx).same
        rcases h1 with h1 | h1 | h1 <;> omega
      refine ⟨_, _, _, _, _, _, none, rfl, ⟨hM, hC8, .inr ⟨rfl, fun c => gdot (genr (g0of (pk o.pick ss)) k ix) (fun j => D j c) k, ⟨hgl, ?_, ?_, hv3.1, hp1, hp2⟩, by omega, fun h1 b o' he => ?_, Spec.k4 h0 ⟨Stay.refl _ _ _, .inr ⟨hixr, .inr ⟨D, ⟨hg, hby, hfi, hpa⟩, ⟨rfl, rfl, fun _ _ => rfl, ?_, rfl, fun _ _ => rfl, rfl⟩⟩⟩⟩⟩⟩, hk8⟩
      · show -9223372036854775808 ≤ (ix : Int) ∧ (ix : Int) ≤ 9223372036854775807; omega
      · show -9223372036854775808 ≤ (((ol0of (pk o.pick ss)).toNat : Nat) : Int) ∧ (((ol0of (pk o.pick ss)).toNat : Nat) : Int) ≤ 9223372036854775807; omega
      · obtain ⟨gg, q1, q2, _⟩ := hv3.2 h1
        rw [q1] at he
        have : gg = b := congrArg (fun x : Option Addr => (x.getD ⟨0, 0, none⟩).block) he
        omega
      · rw [hixn]
        exact SL.nil.push ⟨rfl, rfl, rfl, rfl, fun _ _ => rfl⟩
end
end Go.Proofs.Qxb6500697aDoor
