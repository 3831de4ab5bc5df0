/-
  THE BENCH's STEP: KDecode, KMissing, KConvert, KSuspects.
-/
import Derived.Test.Qxb6500697aDoorMR3w
import Derived.Test.Qxb6500697aDoorMR5w
import Derived.Test.Qxb6500697aDoorMR6w
import Derived.Test.Qxb6500697aDoorMR7w
import Derived.Test.Qxb6500697aDoorMRP
namespace Go.Proofs.Qxb6500697aDoor
open Go.RowKit

theorem rows_of_vcls {k N : Nat} {l : List Sd} (h : vcls k N l = none) : ∃ D, RowsOk k N l D := by
  cases hg : gcls k N l with
  | some j => rw [vcls_some hg] at h; cases h
  | none =>
    have hG := good_of_gcls hg
    by_cases hn : NoRows k l
    · rw [vcls_no hG hn] at h; cases h
    · obtain ⟨D, h1, h2, h3⟩ := Classical.not_not.1 hn
      exact ⟨D, hG, h1, h2, h3⟩
theorem SOut.form2 {B : Nat} {w : World} {v : Value} {ss : List Sd} (h : SOut B w v ss) : ∃ ao cap, v = .slice ao ss.length cap ∧ SdRow w ao ss ∧ ss.length ≤ cap ∧ cap ≤ 9223372036854775807 := by
  obtain ⟨ao, cap, hv, hS⟩ := h.form
  refine ⟨ao, cap, hv, hS, ?_⟩
  rcases h.own.2 with ⟨hv2, h0⟩ | ⟨g, cap', cur, hv2, hb, hg, hle, hm, hs, ht⟩
  · rw [hv2] at hv; injection hv with e1 e2 e3; omega
  · rw [hv2] at hv; injection hv with e1 e2 e3
    have : maxLen = 9223372036854775807 := rfl
    omega
theorem zrow_own {B : Nat} {w : World} {v : Value} {zs : List Int} (h : w.ownsRow B 3 1 v zs.length (zs.map (Value.int .i64))) : ∃ ao cap, v = .slice ao zs.length cap ∧ ZRow w ao zs.length (fun i => zs.getD i 0) ∧ ∀ b o, 0 < zs.length → ao = some ⟨b, o, none⟩ → B ≤ b := by
  rcases h.2 with ⟨hv, h0⟩ | ⟨g, cap, cur, hv, hb, hg, hle, hm, hs, ht⟩
  · exact ⟨none, 0, by rw [hv, h0], fun h => by omega, fun b o h => by omega⟩
  · refine ⟨some ⟨g, 0, none⟩, cap, hv, fun _ => ⟨g, 0, rfl, fun i hi => ?_⟩, fun b o _ e => by cases e; exact hb⟩
    have := h.cells (g := g) (by rw [hv]; rfl) i (.int .i64 (zs.getD i 0)) (by rw [List.getElem?_map, List.getElem?_eq_getElem hi, getD_lt hi]; rfl)
    have e : (⟨g, 0, none⟩ : Addr).add i = ⟨g, 0 + i, none⟩ := by unfold Addr.add; split <;> simp_all
    rwa [e] at this
theorem susC_len (k N : Nat) (l : List Sd) : (susC k N l).length ≤ N := by
  unfold susC
  rw [List.length_map]
  exact Nat.le_trans (List.length_filter_le _ _) (by simp)

section
variable {B : Nat} {w : World} {bb sb cb mb k m k2 m2 : Nat} {v1 v2 : Value} {ss ts : List Sd} {pm : Nat} {o : KOp} {e : Nat → Addr}
theorem InR.pkl (h : InR B w bb sb cb mb k m k2 m2 v1 ss v2 ts pm o e) : (pk o.pick ss).length ≤ 65536 := Nat.le_trans pk_len h.op.pl
theorem stepR3 (h : InR B w bb sb cb mb k m k2 m2 v1 ss v2 ts pm o e) (h0 : o.kind = 3) :
    Calls Tryd.prog 14 #[.pointer (some ⟨bb, 0, none⟩), opV o] w (StepR B w bb sb k m k2 m2 ss v2 ts pm o) := by
  refine stepR3_go h h0 (fun W V v hRW hE hs hb => ?_)
  obtain ⟨ao, cap, rfl, hS⟩ := hs.form
  refine (decode_any (XS bb sb v1 ss v2 ts (fun b => b = w.heap.size + 1)) V _ cb mb k m ao cap _ e (hE.below hb) (hRW.codec.below hb) (hRW.cache.below hb) (fun b hx => Nat.lt_of_lt_of_le (hRW.xlt b hx) hb.size) hS h.pkl).mono ?_
  rintro r w2 ⟨hM, hC2, hcase⟩
  have bad : ∀ i, Refu k (k + m) (pk o.pick ss) i → CB B W bb sb cb mb k m k2 m2 v1 ss v2 ts pm o (w.heap.size + 1) (.agg #[.int .u8 ((clsX (some i) : Nat) : Int), .slice none 0 0, .slice none 0 0, .slice none 0 0, .int .i64 0]) w2 := fun i hi =>
    CB.of hRW hb hM hC2 (Spec.k3 h0 ⟨Stay.refl _ _ _, .inl ⟨i, hi, AnsEq.refl _⟩⟩) (fun w3 _ => AnsOk.num w3 (i + 1) 0)
  rcases hcase with ⟨i, hg, rfl⟩ | ⟨hg, hn, rfl⟩ | ⟨hg, ob, D, rfl, hby, hfi, hpa, hrow, v, hv1, hv2, _⟩
  · exact ⟨none, 0, 0, some i, rfl, fun j hj => by cases hj; exact Refu.lt (.inl hg), bad i (.inl hg)⟩
  · exact ⟨none, 0, 0, some 8, rfl, fun j hj => by cases hj; omega, bad 8 (.inr ⟨hg, hn, rfl⟩)⟩
  · refine ⟨_, _, _, none, rfl, fun j hj => (by cases hj), CB.of hRW hb hM hC2 (A := { ansE 0 with D := (ol0of (pk o.pick ss)).toNat, df := objOf k (pk o.pick ss) D }) (Spec.k3 h0 ⟨Stay.refl _ _ _, .inr ⟨D, ⟨hg, hby, hfi, hpa⟩, AnsEq.refl _⟩⟩) (fun w3 hC => ?_)⟩
    have hfit := (plan_fits (g0of (pk o.pick ss)) k (ol0of (pk o.pick ss)).toNat hRW.codec.hk).2.2
    have hF : FRow w2 (some ⟨ob, 0, none⟩) (ol0of (pk o.pick ss)).toNat (objOf k (pk o.pick ss) D) := ⟨fun i hi => hrow.1 i (by omega), fun _ => ⟨ob, 0, rfl, fun i hi => by rw [Nat.zero_add]; exact hrow.cell (by omega)⟩⟩
    refine AnsOk.bytes (hF.chg hC (fun _ b o' hb' => ?_)) (by have := hg.ol; omega)
    cases hb'
    exact hRW.far (by have := hb.size; omega)
theorem stepR5 (h : InR B w bb sb cb mb k m k2 m2 v1 ss v2 ts pm o e) (h0 : o.kind = 5) :
    Calls Tryd.prog 14 #[.pointer (some ⟨bb, 0, none⟩), opV o] w (StepR B w bb sb k m k2 m2 ss v2 ts pm o) := by
  refine stepR5_go h h0 (fun W V v hRW hE hs hb => ?_)
  obtain ⟨ao, cap, rfl, hS⟩ := hs.form
  have hk := hRW.codec.hk
  have hkn := hRW.codec.hn
  have hX : ∀ b, XS bb sb v1 ss v2 ts (fun b => b = w.heap.size + 1) b → b < V.heap.size := fun b hx => Nat.lt_of_lt_of_le (hRW.xlt b hx) hb.size
  cases hv : vcls k (k + m) (pk o.pick ss) with
  | some i =>
    have hi : Refu k (k + m) (pk o.pick ss) i := vcls_refu.1 hv
    refine (missing_refu (XS bb sb v1 ss v2 ts (fun b => b = w.heap.size + 1)) V _ cb mb k m i ao cap _ e (hE.below hb) (hRW.codec.below hb) (hRW.cache.below hb) hX hS h.pkl hi).mono ?_
    rintro r w2 ⟨rfl, hM, hC2⟩
    exact ⟨none, 0, 0, some i, rfl, fun j hj => by cases hj; exact hi.lt, CB.of hRW hb hM hC2 (Spec.k5 h0 ⟨Stay.refl _ _ _, .inl ⟨i, hi, AnsEq.refl _⟩⟩) (fun w3 _ => AnsOk.num w3 (i + 1) 0)⟩
  | none =>
    obtain ⟨D, hD⟩ := rows_of_vcls hv
    have hD0 := hD
    obtain ⟨hN, hby, heq⟩ := hD.norm hk
    have hol := hD.good.ol
    refine (missing_x (XS bb sb v1 ss v2 ts (fun b => b = w.heap.size + 1)) V _ cb mb k m (g0of (pk o.pick ss)) (ol0of (pk o.pick ss)).toNat ao cap _ _ e _ (objOf k (pk o.pick ss) D) (hE.below hb) (hRW.codec.below hb) (hRW.cache.below hb) hX hS h.pkl hD.good rfl (by omega) (by omega) hN.byt hN.fits hN.pad rfl (fun i c => (pay_dot _ k _ _ (by omega) hby i c).symm)).mono ?_
    rintro r w2 ⟨ho, hc, us, rfl, hSu, hho, hpo, hal, hM, hC2⟩
    have hps := psize_le (g0of (pk o.pick ss)) k (ol0of (pk o.pick ss)).toNat hk (by omega)
    have hlen : us.length ≤ 65536 := by
      rw [hal.1]
      exact Nat.le_trans (absL_len _ _) (by omega)
    have hsz := hb.size
    refine ⟨_, _, _, none, rfl, fun j hj => (by cases hj), CB.of hRW hb hM hC2 (A := { ansE 0 with sh := us }) (Spec.k5 h0 ⟨Stay.refl _ _ _, .inr ⟨_, hN, ⟨rfl, rfl, fun _ _ => rfl, ?_, rfl, fun _ _ => rfl, rfl⟩⟩⟩) (fun w3 hC => AnsOk.shards (hSu.chg hC (fun b o' h1 h2 => hRW.far (by have := hho b o' h1 h2; omega)) (fun s hs h1 b o' h2 => hRW.far (by have := hpo s hs h1 b o' h2; omega))) hlen (fun s hs => by rw [hal.pl s hs]; omega))⟩
    refine hal.sl.trans (SL.ofMap (fun i _ => ⟨rfl, rfl, rfl, rfl, fun c _ => ?_⟩))
    exact pay_dot _ k _ _ (by omega) hby i c
theorem stepR6 (h : InR B w bb sb cb mb k m k2 m2 v1 ss v2 ts pm o e) (h0 : o.kind = 6) :
    Calls Tryd.prog 14 #[.pointer (some ⟨bb, 0, none⟩), opV o] w (StepR B w bb sb k m k2 m2 ss v2 ts pm o) := by
  refine stepR6_go h h0 (fun W V v hRW hE hs hb => ?_)
  obtain ⟨ao, cap, rfl, hS⟩ := hs.form
  have hk := hRW.codec.hk
  have hkn := hRW.codec.hn
  have hX : ∀ b, XS bb sb v1 ss v2 ts (fun b => b = w.heap.size + 1) b → b < V.heap.size := fun b hx => Nat.lt_of_lt_of_le (hRW.xlt b hx) hb.size
  by_cases hg : goodG o.gen
  · cases hv : vcls k (k + m) (pk o.pick ss) with
    | some i =>
      have hi : Refu k (k + m) (pk o.pick ss) i := vcls_refu.1 hv
      refine (convert_refu (XS bb sb v1 ss v2 ts (fun b => b = w.heap.size + 1)) V _ cb mb k m o.gen i ao cap _ e (hE.below hb) (hRW.codec.below hb) (hRW.cache.below hb) hX hS h.pkl hg hi).mono ?_
      rintro r w2 ⟨rfl, hM, hC2⟩
      exact ⟨none, 0, 0, some i, rfl, fun j hj => by cases hj; exact hi.lt, CB.of hRW hb hM hC2 (Spec.k6 h0 ⟨Stay.refl _ _ _, .inr ⟨hg, .inl ⟨i, hi, AnsEq.refl _⟩⟩⟩) (fun w3 _ => AnsOk.num w3 (i + 1) 0)⟩
    | none =>
      obtain ⟨D, hD⟩ := rows_of_vcls hv
      have hol := hD.good.ol
      refine (convert_x (XS bb sb v1 ss v2 ts (fun b => b = w.heap.size + 1)) V _ cb mb k m (g0of (pk o.pick ss)) o.gen (ol0of (pk o.pick ss)).toNat ao cap _ e D (objOf k (pk o.pick ss) D) (hE.below hb) (hRW.codec.below hb) (hRW.cache.below hb) hX hS h.pkl hg hD.good rfl (by omega) (by omega) hD.byt hD.fits hD.pad (fun _ _ => rfl)).mono ?_
      rintro r w2 ⟨HS, pb, po, rfl, hHS, hpb, hSA, hM, hC2⟩
      have hps := psize_le o.gen k (ol0of (pk o.pick ss)).toNat hk (by omega)
      have hSu := hSA.sdrow h.op.hgen (by omega) (by omega) hps
      have hlen : (shL (k + m) o.gen (ol0of (pk o.pick ss)).toNat (psize o.gen k (ol0of (pk o.pick ss)).toNat) pb po (pay o.gen k (ol0of (pk o.pick ss)).toNat (objOf k (pk o.pick ss) D))).length = k + m := shL_len _ _ _ _ _ _ _
      have hsz := hb.size
      refine ⟨_, _, _, none, rfl, fun j hj => (by cases hj), CB.of hRW hb hM hC2 (A := { ansE 0 with sh := shL (k + m) o.gen (ol0of (pk o.pick ss)).toNat (psize o.gen k (ol0of (pk o.pick ss)).toNat) pb po (pay o.gen k (ol0of (pk o.pick ss)).toNat (objOf k (pk o.pick ss) D)) }) (Spec.k6 h0 ⟨Stay.refl _ _ _, .inr ⟨hg, .inr ⟨D, hD, ⟨rfl, rfl, fun _ _ => rfl, shL_sl _ _ _ _ _ _ _, rfl, fun _ _ => rfl, rfl⟩⟩⟩⟩) (fun w3 hC => ?_)⟩
      have hq := AnsOk.shards (er := 0) (c := k + m) (hSu.chg hC (fun b o' h1 h2 => hRW.far (by cases h2; omega)) (fun s hs h1 b o' h2 => ?_)) (by rw [hlen]; omega) (fun s hs => ?_)
      · rw [hlen] at hq; exact hq
      · obtain ⟨i, hi, rfl⟩ := List.mem_map.1 hs
        have hi' := List.mem_range.1 hi
        have := hpb i hi'
        cases h2
        exact hRW.far (by omega)
      · obtain ⟨i, hi, rfl⟩ := List.mem_map.1 hs
        show psize o.gen k (ol0of (pk o.pick ss)).toNat ≤ 65536
        omega
  · refine (convert_gen V cb o.gen _ cap ao e (plan_gen 10 e V (hE.below hb) (by omega) cb o.gen 0 hg)).mono ?_
    rintro r w2 ⟨rfl, hB2⟩
    exact ⟨none, 0, 0, some 1, rfl, fun j hj => by cases hj; omega, CB.of hRW hb (Below.mut hB2 mb) ((hRW.cache.below hb).below hB2) (Spec.k6 h0 ⟨Stay.refl _ _ _, .inl ⟨hg, AnsEq.refl _⟩⟩) (fun w3 _ => AnsOk.num w3 2 0)⟩
theorem stepR7 (h : InR B w bb sb cb mb k m k2 m2 v1 ss v2 ts pm o e) (h0 : o.kind = 7) :
    Calls Tryd.prog 14 #[.pointer (some ⟨bb, 0, none⟩), opV o] w (StepR B w bb sb k m k2 m2 ss v2 ts pm o) := by
  refine stepR7_go h h0 (fun W V v hRW hE hs hb => ?_)
  obtain ⟨ao, cap, rfl, hS, hc1, hc2⟩ := hs.form2
  have hk := hRW.codec.hk
  have hkn := hRW.codec.hn
  have hX : ∀ b, XS bb sb v1 ss v2 ts (fun b => b = w.heap.size + 1) b → b < V.heap.size := fun b hx => Nat.lt_of_lt_of_le (hRW.xlt b hx) hb.size
  refine (suspects_x (XS bb sb v1 ss v2 ts (fun b => b = w.heap.size + 1)) V _ cb mb k m ao cap _ e (hE.below hb) (hRW.codec.below hb) (hRW.cache.below hb) hX hRW.noMb hS h.pkl hc1 hc2).mono ?_
  rintro r w2 ⟨hM, hC2, hcase⟩
  have hsz := hb.size
  rcases hcase with ⟨hv, rfl⟩ | ⟨i, hi, hv, rfl⟩ | ⟨hv, v, rfl, hown⟩
  · exact ⟨none, 0, 0, none, rfl, fun j hj => (by cases hj), CB.of hRW hb hM hC2 (Spec.k7 h0 ⟨Stay.refl _ _ _, .inl ⟨hv, AnsEq.refl _⟩⟩) (fun w3 _ => AnsOk.num w3 0 0)⟩
  · exact ⟨none, 0, 0, some i, rfl, fun j hj => by cases hj; omega, CB.of hRW hb hM hC2 (Spec.k7 h0 ⟨Stay.refl _ _ _, .inr (.inl ⟨i, hi, hv, AnsEq.refl _⟩)⟩) (fun w3 _ => AnsOk.num w3 (i + 1) 0)⟩
  · have hG := (vcls_good hv).1
    have hss := sus_sort hG
    have hl : (susJ k (k + m) (pk o.pick ss) (pk o.pick ss).length).length = (susC k (k + m) (pk o.pick ss)).length := by rw [← hss, sortZ_len]
    rw [hss, hl] at hown
    have hsl : (susC k (k + m) (pk o.pick ss)).length ≤ 65536 := Nat.le_trans (susC_len _ _ _) (by omega)
    obtain ⟨za, zc, rfl, hz, hza⟩ := zrow_own hown
    exact ⟨za, _, zc, none, rfl, fun j hj => (by cases hj), CB.of hRW hb hM hC2 (A := { ansE 0 with M := (susC k (k + m) (pk o.pick ss)).length, lf := fun i => (susC k (k + m) (pk o.pick ss)).getD i 0 }) (Spec.k7 h0 ⟨Stay.refl _ _ _, .inr (.inr ⟨hv, AnsEq.refl _⟩)⟩) (fun w3 hC => AnsOk.list (hz.chg hC (fun b o' h1 h2 => hRW.far (by have := hza b o' h1 h2; omega))) hsl)⟩
end
end Go.Proofs.Qxb6500697aDoor
