/-
  RESULTS THAT ARE OVERWRITTEN.
-/
import Derived.Test.Qxb6500697aDoorKDecT
import Derived.Test.Qxb6500697aDoorKScrib
namespace Go.Proofs.Qxb6500697aDoor
open Go.RowKit

theorem Cache.addK {X X' : Nat → Prop} {w w' : World} {mb k N : Nat} (h : Cache X w mb k N) (kp : Keeps w w') (hb : w'.heap[mb]? = w.heap[mb]?) (hX : ∀ b, X' b → X b ∨ w.heap.size ≤ b) : Cache X' w' mb k N := by
  obtain ⟨es, clock, h1, h2, h3⟩ := h.ents
  refine ⟨es, clock, hb.trans h1, h2, h3.1, fun x hx => ?_⟩
  obtain ⟨fam, r, H, c, q1, q2, q3, q4, q5, q6, q7⟩ := h3.2 x hx
  refine ⟨fam, r, H, c, q1, q2, q3, q4, q5, q6, (q7.mono (F' := fun b => ¬ X' b) (fun b hlt hn hx' => ?_)).keeps kp⟩
  rcases hX b hx' with h5 | h5
  · exact hn h5
  · omega
theorem TW.stepX {X' : Nat → Prop} {w0 w1 wr wr' : World} {v : Value} {ts : List Tr} {t : Tr} (h : TW NoX w1 wr ts) (hT : TOut w0 w1 v ts) (ht : t ∈ ts) (hm : Mut t.mb wr wr') (hc : Cache X' wr' t.mb t.k (t.k + t.m)) (hX : ∀ b, X' b → wr.heap.size ≤ b) : TW X' w1 wr' ts := by
  refine ⟨hm.os.trans h.os, hm.tape.trans h.tape, hm.output.trans h.output, Nat.le_trans h.size hm.size, fun b hb hne => (hm.block b (Nat.lt_of_lt_of_le hb h.size) (hne t ht)).trans (h.block b hb hne), fun t' ht' => ?_⟩
  by_cases e : t'.mb = t.mb
  · obtain ⟨_, h2, h3⟩ := hT.same t' ht' t ht e
    rw [e, h2, h3]; exact hc
  · have hc' := h.cache t' ht'
    exact hc'.addK (hm.keepsC (h.cache t ht)) (hm.block _ hc'.lt e) (fun b hb => .inr (hX b hb))

theorem Keeps.only {a b c : World} {d : Nat} (h : Keeps a b) (hO : Only d b c) (hd : a.heap.size ≤ d) : Keeps a c := fun x o v hv => by
  have hx := cell_lt hv
  exact (hO.cell (b := x) (o := o) (by omega)).trans (h x o v hv)

/-- One block overwritten, which no cached matrix touches. -/
theorem St.scrib {w0 w1 w5 V V' : World} {v : Value} {ts : List Tr} {d : Nat} (h : St w1 w5 ts V) (hT : TOut w0 w1 v ts) (hC : TW (fun b => b = d) w1 V ts) (h15 : w1.heap.size ≤ w5.heap.size) (hd : w5.heap.size ≤ d) (hO : Only d V V') : St w1 w5 ts V' := by
  refine ⟨h.kp.only hO hd, (hC.keepX hT (fun b hb => by omega) (hO.below (by omega)) (fun b hb => hO.block b hb)).weak (fun b hb => False.elim hb), ?_⟩
  rw [hO.size]; exact h.sz

theorem SdRow.only {w w' : World} {d b : Nat} {ss : List Sd} (h : SdRow w (some ⟨b, 0, none⟩) ss) (hO : Only d w w') (hb : b ≠ d) (hp : ∀ s ∈ ss, 0 < s.pl → ∀ b o, s.pa = some ⟨b, o, none⟩ → b ≠ d) : SdRow w' (some ⟨b, 0, none⟩) ss := by
  refine ⟨fun h0 => ?_, fun s hs => (h.ok s hs).blocks (fun h0 b' o he _ => hO.block b' (hp s hs h0 b' o he))⟩
  obtain ⟨b', he, hr⟩ := h.row h0
  obtain rfl : b = b' := congrArg (fun x : Option Addr => (x.getD ⟨0, 0, none⟩).block) he
  refine ⟨b, rfl, fun j hj => ?_⟩
  obtain ⟨h1, h2, h3, h4⟩ := hr j hj
  exact ⟨(hO.cell hb).trans h1, (hO.cell hb).trans h2, (hO.cell hb).trans h3, (hO.cell hb).trans h4⟩

/-- Encode of a copy of the object. -/
theorem enc2_t {w : World} {B : Nat} {F : Nat → Prop} {t : Tr} {n N g oc : Nat} {oa : Option Addr} (h : TrOk w B F t) (hF : TrF t n N) (hg : g = 1 ∨ g = 2 ∨ g = 3) (hf : FRow w oa n (fun i => t.obs.getD i 0)) (h1 : n ≤ oc) (h2 : oc ≤ 9223372036854775807) :
    Calls Tryd.prog 18 #[.pointer (some ⟨t.cb, 0, none⟩), .int .u8 (g : Int), .slice oa n oc] w fun e w' => ∃ HS pb po, e = .returned (.tuple #[.slice (some ⟨HS, 0, none⟩) N N, .nilIface]) ∧ w.heap.size ≤ HS ∧ (∀ i, i < N → w.heap.size ≤ pb i) ∧ SdRow w' (some ⟨HS, 0, none⟩) (t.shs N g n pb po) ∧ Below w.heap.size w w' := by
  have hn2 := hF.hn256
  have hN := hF.hN
  have h16 := hF.hN16
  have h3 := encode_ok w F t.cb t.mb t.k t.m g n oc oa (fun i => t.obs.getD i 0) h.codec hf hg hn2 h1 h2
  rw [hN] at h3
  have hps := psize_le g t.k n hF.hk hn2
  refine h3.mono ?_
  rintro r w' ⟨HS, pb, po, e1, e2, e3, e4, e5⟩
  exact ⟨HS, pb, po, e1, e2, e3, e4.sdrow (by omega) (by omega) (by omega) (by omega), e5⟩

/-- Decode of k or more encoded shards: the object lies in memory that nothing else uses. -/
theorem decX_t {w0 w1 w5 w : World} {v : Value} {ts : List Tr} {B : Nat} {F : Nat → Prop} {t : Tr} {n N g cap : Nat} {pb po : Nat → Nat} {ao : Option Addr} {e : Nat → Addr} {ns : List Nat} (hT : TOut w0 w1 v ts) (ht : t ∈ ts) (hSt : St w1 w5 ts w) (h : TrOk w B F t) (hF : TrF t n N) (E : KErrs 10 w e) (hg : g = 1 ∨ g = 2 ∨ g = 3) (hS : SdRow w ao (t.cho ns N g n pb po)) (hnd : ns.Nodup) (hlt : ∀ i ∈ ns, i < N) (hk : t.k ≤ ns.length) :
    Calls Tryd.prog 22 #[.pointer (some ⟨t.cb, 0, none⟩), .slice ao ns.length cap] w fun r w' => ∃ ob s, r = .returned (.tuple #[.slice (some ⟨ob, 0, none⟩) n n, .nilIface]) ∧ w.heap.size ≤ ob ∧ WRow w' ob n s ∧ St w1 w5 ts w' ∧ Keeps w w' ∧ TW (fun b => b = ob) w1 w' ts := by
  have hn2 := hF.hn256
  have hN := hF.hN
  have h16 := hF.hN16
  have hl := sub_len hnd hlt
  have hk1 := hF.hk
  have hm1 := hF.hm
  obtain ⟨hGood, hg0, ho0, hb, hf, hp⟩ := chosen_good (ns := ns) (k := t.k) (N := N) (g := g) (n := n) (pb := pb) (po := po) (f := fun i => t.obs.getD i 0) hk1 (by omega) hg hn2 hF.byt hlt hnd hk
  have h1 := decode_any NoX w F t.cb t.mb t.k t.m ao cap (t.cho ns N g n pb po) e E h.codec (hSt.tw.cache t ht) (fun b hb => False.elim hb) hS (by rw [cho_len]; omega)
  rw [cho_len] at h1
  refine h1.mono ?_
  rintro r w' ⟨hM, hK, hcase⟩
  have h2 := hSt.mut hT ht hM hK
  have hN' := hN
  rw [hN] at hcase
  rcases hcase with ⟨i, hgc, _⟩ | ⟨_, hNo, _⟩ | ⟨_, ob, D, hr, hD1, hD2, hD3, hRow, v', hv1, hv2, hv3⟩
  · rw [gcls_good hGood] at hgc; cases hgc
  · exfalso
    apply hNo
    rw [hg0, ho0, Int.toNat_natCast]
    exact ⟨_, hb, hf, hp⟩
  · rw [ho0, Int.toNat_natCast] at hr
    rw [hg0, ho0, Int.toNat_natCast] at hRow
    obtain ⟨_, _, hfn⟩ := plan_fits g t.k n hk1
    refine ⟨ob, _, hr, by omega, Row.wrow hRow hfn, h2, hSt.keepsMut ht hM, hSt.tw.stepX hT ht hM ?_ (fun b hb => by omega)⟩
    rw [hN]
    exact hv3.addX (Below.refl _ _) (fun b hb => .inl (.inr (by omega)))

/-- Rebuild of a shard out of k or more encoded shards: its payload lies in memory that nothing else uses. -/
theorem rebX_t {w0 w1 w5 w : World} {v : Value} {ts : List Tr} {B : Nat} {F : Nat → Prop} {t : Tr} {n N g cap ix : Nat} {pb po : Nat → Nat} {ao : Option Addr} {e : Nat → Addr} {ns : List Nat} (hT : TOut w0 w1 v ts) (ht : t ∈ ts) (hSt : St w1 w5 ts w) (h : TrOk w B F t) (hF : TrF t n N) (E : KErrs 10 w e) (hg : g = 1 ∨ g = 2 ∨ g = 3) (hS : SdRow w ao (t.cho ns N g n pb po)) (hnd : ns.Nodup) (hlt : ∀ i ∈ ns, i < N) (hk : t.k ≤ ns.length) (hix : ix < N) :
    Calls Tryd.prog 28 #[.pointer (some ⟨t.cb, 0, none⟩), .int .i64 (ix : Int), .slice ao ns.length cap] w fun r w' => ∃ pa pc d s, r = .returned (.tuple #[.agg #[.int .u8 (g : Int), .int .i64 (ix : Int), .int .i64 (n : Int), .slice pa (psize g t.k n) pc], .nilIface]) ∧ w.heap.size ≤ d ∧ (0 < psize g t.k n → pa = some ⟨d, 0, none⟩ ∧ WRow w' d (psize g t.k n) s) ∧ St w1 w5 ts w' ∧ Keeps w w' ∧ TW (fun b => b = d) w1 w' ts := by
  have hn2 := hF.hn256
  have hN := hF.hN
  have h16 := hF.hN16
  have hl := sub_len hnd hlt
  have hk1 := hF.hk
  have hm1 := hF.hm
  obtain ⟨hGood, hg0, ho0, hb, hf, hp⟩ := chosen_good (ns := ns) (k := t.k) (N := N) (g := g) (n := n) (pb := pb) (po := po) (f := fun i => t.obs.getD i 0) hk1 (by omega) hg hn2 hF.byt hlt hnd hk
  have h1 := rebuild_any NoX w F t.cb t.mb t.k t.m ix ao cap (t.cho ns N g n pb po) e E h.codec (hSt.tw.cache t ht) (fun b hb => False.elim hb) (fun hb => hb) hS (by rw [cho_len]; omega) (by omega)
  rw [cho_len] at h1
  refine h1.mono ?_
  rintro r w' ⟨hM, hK, hcase⟩
  have h2 := hSt.mut hT ht hM hK
  rw [hN] at hcase
  rcases hcase with ⟨i, hgc, _⟩ | ⟨_, hNo, _⟩ | ⟨_, D, pa, pc, hr, _, _, _, _, _, v', hv1, hv2, hv3⟩
  · rw [gcls_good hGood] at hgc; cases hgc
  · exfalso
    apply hNo
    rw [hg0, ho0, Int.toNat_natCast]
    exact ⟨_, hb, hf, hp⟩
  · rw [hg0, ho0, Int.toNat_natCast] at hr hv3
    obtain ⟨d, hd1, hd2⟩ : ∃ d, v'.heap.size ≤ d ∧ (0 < psize g t.k n → pa = some ⟨d, 0, none⟩ ∧ WRow w' d (psize g t.k n) (fun c => gdot (genr g t.k ix) (fun j => D j c) t.k)) := by
      rcases Nat.eq_zero_or_pos (psize g t.k n) with h0 | h0
      · exact ⟨v'.heap.size, Nat.le_refl _, fun h => by omega⟩
      · obtain ⟨d, q1, q2, q3⟩ := hv3.2 h0
        exact ⟨d, q2, fun _ => ⟨q1, q3⟩⟩
    refine ⟨pa, pc, d, _, hr, by omega, hd2, h2, hSt.keepsMut ht hM, hSt.tw.stepX hT ht hM ?_ (fun b hb => by omega)⟩
    rw [hN]
    exact hv2.addX (Below.refl _ _) (fun b hb => .inl (.inr (by omega)))
end Go.Proofs.Qxb6500697aDoor
