/-
  WHAT A LAW KEEPS WITHIN ONE TRIAL, AND WHAT THE CODEC'S CALLS DO TO IT.
-/
import Derived.Test.Qxb6500697aDoorKMiss
import Derived.Test.Qxb6500697aDoorKSmS
import Derived.Test.Qxb6500697aDoorKCls
import Derived.Test.Qxb6500697aDoorLawReb
namespace Go.Proofs.Qxb6500697aDoor
open Go.RowKit

structure St (w1 w5 : World) (ts : List Tr) (V : World) : Prop where
  kp : Keeps w5 V
  tw : TW NoX w1 V ts
  sz : w5.heap.size ≤ V.heap.size
theorem St.start {w1 w5 : World} {ts : List Tr} (h : TW NoX w1 w5 ts) : St w1 w5 ts w5 := ⟨Keeps.refl _, h, Nat.le_refl _⟩
theorem St.below {w1 w5 V V' : World} {ts : List Tr} (h : St w1 w5 ts V) (hb : Below V.heap.size V V') : St w1 w5 ts V' := ⟨h.kp.trans (Below.keeps hb), h.tw.belowStep hb, Nat.le_trans h.sz hb.size⟩
theorem St.mut {w0 w1 w5 V V' : World} {v : Value} {ts : List Tr} {t : Tr} (h : St w1 w5 ts V) (hT : TOut w0 w1 v ts) (ht : t ∈ ts) (hm : Mut t.mb V V') (hc : Cache NoX V' t.mb t.k (t.k + t.m)) : St w1 w5 ts V' :=
  ⟨h.kp.trans (hm.keepsC (h.tw.cache t ht)), h.tw.step hT ht hm hc, Nat.le_trans h.sz hm.size⟩
theorem St.keepsMut {w1 w5 V V' : World} {ts : List Tr} {t : Tr} (h : St w1 w5 ts V) (ht : t ∈ ts) (hm : Mut t.mb V V') : Keeps V V' := hm.keepsC (h.tw.cache t ht)

theorem sub_len {sub : List Nat} {N : Nat} (hn : sub.Nodup) (hs : ∀ i ∈ sub, i < N) : sub.length ≤ N := by
  have h := nodup_len (l2 := List.range N) hn (fun x hx => List.mem_range.2 (hs x hx))
  rwa [List.length_range] at h

/-- What is known of a trial's object and subset. -/
structure TrF (t : Tr) (n N : Nat) : Prop where
  hk : 1 ≤ t.k
  hm : 1 ≤ t.m
  hN : t.k + t.m = N
  hN16 : N ≤ 16
  hn : t.obs.length = n
  hn256 : n ≤ 256
  byt : ∀ i, i < n → t.obs.getD i 0 < 256
  nodup : t.sub.Nodup
  slt : ∀ i ∈ t.sub, i < N
  idx : t.idx < N
theorem TrF.slen {t : Tr} {n N : Nat} (h : TrF t n N) : t.sub.length ≤ N := sub_len h.nodup h.slt
theorem TrOk.trF {w : World} {B : Nat} {F : Nat → Prop} {t : Tr} (h : TrOk w B F t) : TrF t t.obs.length (t.k + t.m) :=
  ⟨h.codec.hk, h.codec.hm, rfl, h.codec.hn, rfl, h.olen, fun _ hi => h.obj.byte hi, h.nodup, h.slt, h.idx⟩

abbrev Tr.pay (t : Tr) (g n : Nat) : Nat → Nat → Nat := Go.Proofs.Qxb6500697aDoor.pay g t.k n (fun i => t.obs.getD i 0)
abbrev Tr.shs (t : Tr) (N g n : Nat) (pb po : Nat → Nat) : List Sd := shL N g n (psize g t.k n) pb po (t.pay g n)
abbrev Tr.cho (t : Tr) (ns : List Nat) (N g n : Nat) (pb po : Nat → Nat) : List Sd := chosen ns N g n (psize g t.k n) pb po (t.pay g n)

theorem enc_t {w : World} {B : Nat} {F : Nat → Prop} {t : Tr} {n N g : Nat} (h : TrOk w B F t) (hF : TrF t n N) (hg : g = 1 ∨ g = 2 ∨ g = 3) :
    Calls Tryd.prog 18 #[.pointer (some ⟨t.cb, 0, none⟩), .int .u8 (g : Int), .slice t.oa n t.oc] w fun e w' => ∃ HS pb po, e = .returned (.tuple #[.slice (some ⟨HS, 0, none⟩) N N, .nilIface]) ∧ w.heap.size ≤ HS ∧ (∀ i, i < N → w.heap.size ≤ pb i) ∧ SdRow w' (some ⟨HS, 0, none⟩) (t.shs N g n pb po) ∧ Below w.heap.size w w' := by
  have hn := hF.hn
  have hn2 := hF.hn256
  have hN := hF.hN
  have h16 := hF.hN16
  have hf : FRow w t.oa n (fun i => t.obs.getD i 0) := by rw [← hn]; exact h.obj.frow
  have h1 := encode_ok w F t.cb t.mb t.k t.m g n t.oc t.oa (fun i => t.obs.getD i 0) h.codec hf hg hn2 (by rw [← hn]; exact h.ocap) h.ocap2
  rw [hN] at h1
  have hps := psize_le g t.k n hF.hk hn2
  refine h1.mono ?_
  rintro r w' ⟨HS, pb, po, e1, e2, e3, e4, e5⟩
  exact ⟨HS, pb, po, e1, e2, e3, e4.sdrow (by omega) (by omega) (by omega) (by omega), e5⟩

theorem choose_t {w : World} {F : Nat → Prop} {t : Tr} {n N g HS : Nat} {pb po : Nat → Nat} {sa : Option Addr} {sc : Nat} {ns : List Nat} (hS : SdRow w (some ⟨HS, 0, none⟩) (t.shs N g n pb po)) (hN : NRow w F sa ns) (hlt : ∀ i ∈ ns, i < N) (hl : ns.length ≤ 4096) :
    Calls Tryd.prog 20 #[.slice (some ⟨HS, 0, none⟩) N N, .slice sa ns.length sc] w fun e w' => ∃ cB, e = .returned (.slice (some ⟨cB, 0, none⟩) ns.length ns.length) ∧ SdRow w' (some ⟨cB, 0, none⟩) (t.cho ns N g n pb po) ∧ Below w.heap.size w w' := by
  have hlen : (t.shs N g n pb po).length = N := shL_len _ _ _ _ _ _ _
  have h := choose_any w F (some ⟨HS, 0, none⟩) sa N sc _ ns hS hN (by rw [hlen]; exact hlt) hl
  rw [hlen] at h
  refine h.mono ?_
  rintro r w' ⟨e1, e2, e3⟩
  exact ⟨_, e1, e2, e3⟩

theorem cho_len (t : Tr) (ns : List Nat) (N g n : Nat) (pb po : Nat → Nat) : (t.cho ns N g n pb po).length = ns.length := by simp [Tr.cho, chosen]

theorem conv_t {w0 w1 w5 w : World} {v : Value} {ts : List Tr} {B : Nat} {F : Nat → Prop} {t : Tr} {n N g g' cB : Nat} {pb po : Nat → Nat} {e : Nat → Addr} {ns : List Nat} (hT : TOut w0 w1 v ts) (ht : t ∈ ts) (hSt : St w1 w5 ts w) (h : TrOk w B F t) (hF : TrF t n N) (E : KErrs 10 w e) (hg : g = 1 ∨ g = 2 ∨ g = 3) (hg' : g' = 1 ∨ g' = 2 ∨ g' = 3) (hS : SdRow w (some ⟨cB, 0, none⟩) (t.cho ns N g n pb po)) (hnd : ns.Nodup) (hlt : ∀ i ∈ ns, i < N) (hk : t.k ≤ ns.length) :
    Calls Tryd.prog 32 #[.pointer (some ⟨t.cb, 0, none⟩), .int .u8 (g' : Int), .slice (some ⟨cB, 0, none⟩) ns.length ns.length] w fun r w' => ∃ HS pb' po', r = .returned (.tuple #[.slice (some ⟨HS, 0, none⟩) N N, .nilIface]) ∧ SdRow w' (some ⟨HS, 0, none⟩) (t.shs N g' n pb' po') ∧ St w1 w5 ts w' ∧ Keeps w w' := by
  have hn2 := hF.hn256
  have hN := hF.hN
  have h16 := hF.hN16
  have hl := sub_len hnd hlt
  have hk1 := hF.hk
  have hm1 := hF.hm
  obtain ⟨hGood, hg0e, ho0e, hbyt, hfit, hpad⟩ := chosen_good (ns := ns) (k := t.k) (N := N) (g := g) (n := n) (pb := pb) (po := po) (f := fun i => t.obs.getD i 0) hk1 (by omega) hg hn2 hF.byt hlt hnd hk
  obtain ⟨_, ⟨rr, hrr⟩, hfn⟩ := plan_fits g t.k n hk1
  have h1 := convert_ok w F t.cb t.mb t.k t.m g g' n (some ⟨cB, 0, none⟩) ns.length (t.cho ns N g n pb po) e (sprd t.k (punit g t.k n) n (fun i => t.obs.getD i 0)) (fun i => t.obs.getD i 0) E h.codec (hSt.tw.cache t ht) hS (by rw [cho_len]; omega) hg' (by rw [hN]; exact hGood) hg0e ho0e hn2 hbyt hfit hpad (fun p hp => by
    have hu : 0 < punit g t.k n := by
      rcases Nat.eq_zero_or_pos (punit g t.k n) with h0 | h0
      · rw [h0, Nat.mul_zero] at hrr; rw [hrr, Nat.mul_zero] at hfn; omega
      · exact h0
    rw [col_sprd t.k (punit g t.k n) n (fun i => t.obs.getD i 0) p hu, if_pos hp])
  rw [cho_len, hN] at h1
  have hps := psize_le g' t.k n hk1 hn2
  refine h1.mono ?_
  rintro r w' ⟨HS, pb', po', e1, e2, e3, e4⟩
  exact ⟨HS, pb', po', e1, e2.sdrow (by omega) (by omega) (by omega) (by omega), hSt.mut hT ht e3 (by rw [hN]; exact e4), hSt.keepsMut ht e3⟩

theorem miss_t {w0 w1 w5 w : World} {v : Value} {ts : List Tr} {B : Nat} {F : Nat → Prop} {t : Tr} {n N g cB : Nat} {pb po : Nat → Nat} {e : Nat → Addr} {ns : List Nat} (hT : TOut w0 w1 v ts) (ht : t ∈ ts) (hSt : St w1 w5 ts w) (h : TrOk w B F t) (hF : TrF t n N) (E : KErrs 10 w e) (hg : g = 1 ∨ g = 2 ∨ g = 3) (hS : SdRow w (some ⟨cB, 0, none⟩) (t.cho ns N g n pb po)) (hnd : ns.Nodup) (hlt : ∀ i ∈ ns, i < N) (hk : t.k ≤ ns.length) :
    Calls Tryd.prog 34 #[.pointer (some ⟨t.cb, 0, none⟩), .slice (some ⟨cB, 0, none⟩) ns.length ns.length] w fun r w' => ∃ ho hc xs, r = .returned (.tuple #[.slice ho xs.length hc, .nilIface]) ∧ SdRow w' ho xs ∧ Alike xs (absL ns N) g n (psize g t.k n) (t.pay g n) ∧ St w1 w5 ts w' ∧ Keeps w w' := by
  have hn2 := hF.hn256
  have hN := hF.hN
  have h16 := hF.hN16
  have hl := sub_len hnd hlt
  have hk1 := hF.hk
  have hm1 := hF.hm
  obtain ⟨hGood, hg0e, ho0e, hbyt, hfit, hpad⟩ := chosen_good (ns := ns) (k := t.k) (N := N) (g := g) (n := n) (pb := pb) (po := po) (f := fun i => t.obs.getD i 0) hk1 (by omega) hg hn2 hF.byt hlt hnd hk
  have h1 := missing_ok w F t.cb t.mb t.k t.m g n (some ⟨cB, 0, none⟩) ns.length (t.cho ns N g n pb po) ns e (sprd t.k (punit g t.k n) n (fun i => t.obs.getD i 0)) (fun i => t.obs.getD i 0) E h.codec (hSt.tw.cache t ht) hS (by rw [cho_len]; omega) (by rw [hN]; exact hGood) hg0e ho0e hn2 hbyt hfit hpad (chosen_ix hlt) (fun i c => (pay_dot g t.k n _ (by omega) hF.byt i c).symm)
  rw [cho_len, hN] at h1
  refine h1.mono ?_
  rintro r w' ⟨ho, hc, xs, e1, e2, e3, e4, e5⟩
  exact ⟨ho, hc, xs, e1, e2, e3, hSt.mut hT ht e4 (by rw [hN]; exact e5), hSt.keepsMut ht e4⟩
end Go.Proofs.Qxb6500697aDoor
