/-
  THE WALK OF restore.
-/
import Derived.Test.Qxb6500697aDoorKGathW
import Derived.Test.Qxb6500697aDoorKGathP
import Derived.Test.Qxb6500697aDoorKData
import Derived.Test.Qxb6500697aDoorKColl
import Derived.Test.Qxb6500697aDoorKEq
namespace Go.Proofs.Qxb6500697aDoor
open Go.RowKit

/-- The rows D give the shards. -/
def Fits (g k size : Nat) (ss : List Sd) (D : Nat → Nat → Nat) : Prop := ∀ x ∈ ss, ∀ c, c < size → gdot (genr g k x.ix.toNat) (fun j => D j c) k = x.P c
def BytD (k size : Nat) (D : Nat → Nat → Nat) : Prop := ∀ j, j < k → ∀ c, c < size → D j c < 256
/-- The padding is zero. -/
def PadZ (k u size n : Nat) (D : Nat → Nat → Nat) : Prop := ∀ p, n ≤ p → p < k * size → col k u D p = 0

/-- Two lists of rows that give the same k shards are the same. -/
theorem rows_uniq {g k N size h u : Nat} {P D D' : Nat → Nat → Nat} (hk : k ≤ 16) (hN : N ≤ 16) (hd : DataOk g k N size h u P D) (hb : BytD k size D') (hf : ∀ i, u.testBit i = true → ∀ c, c < size → gdot (genr g k i) (fun j => D' j c) k = P i c) :
    ∀ j, j < k → ∀ c, c < size → D' j c = D j c := by
  intro j hj c hc
  have hi := genr_mds g k hk (fun t => (bitsL u N).getD t 0) (fun t ht => by have := (bitsL_get (r := u) (N := N) (t := t) (by rw [hd.cnt]; exact ht)).1; omega) (fun s t hs ht e => bitsL_inj (by rw [hd.cnt]; exact hs) (by rw [hd.cnt]; exact ht) e)
  have h0 := hi (fun j => D' j c ^^^ D j c) (fun j hj => xor8n _ _ (hb j hj c hc) (hd.byt j hj c hc)) (fun t ht => by
    have hbt := (bitsL_get (r := u) (N := N) (t := t) (by rw [hd.cnt]; exact ht)).2
    rw [gdot_xor_right, hf _ hbt c hc, hd.fit _ hbt c hc, Nat.xor_self]) j hj
  exact Classical.byContradiction fun hne => xor_ne_zero hne h0

theorem col_bound {k u size r p : Nat} (hk : 0 < k) (hs : size = r * u) (hp : p < k * size) : p / u % k < k ∧ p / u / k * u + p % u < size := by
  have hu : 0 < u := by
    rcases Nat.eq_zero_or_pos u with h0 | h0
    · rw [h0, Nat.mul_zero] at hs; rw [hs, Nat.mul_zero] at hp; omega
    · exact h0
  refine ⟨Nat.mod_lt _ hk, ?_⟩
  have h1 : p / u < k * r := by
    rw [Nat.div_lt_iff_lt_mul hu, Nat.mul_assoc, ← hs]; exact hp
  have h2 : p / u / k < r := Nat.div_lt_of_lt_mul h1
  have h3 := Nat.mul_le_mul_right u (show p / u / k + 1 ≤ r by omega)
  rw [Nat.succ_mul, ← hs] at h3
  have := Nat.mod_lt p hu
  omega
theorem col_congr {k u size r : Nat} {D D' : Nat → Nat → Nat} (hk : 0 < k) (hs : size = r * u) (h : ∀ j, j < k → ∀ c, c < size → D' j c = D j c) {p : Nat} (hp : p < k * size) : col k u D' p = col k u D p := by
  obtain ⟨h1, h2⟩ := col_bound hk hs hp
  unfold col
  exact h _ h1 _ h2

/-- restore has an answer. -/
structure RestOk (X : Nat → Prop) (w w' : World) (mb sb k N : Nat) (ss : List Sd) (da : Option Addr) (dc ob : Nat) (D : Nat → Nat → Nat) : Prop where
  data : RMat w' da k (psize (g0of ss) k (ol0of ss).toNat) D
  dc1 : k ≤ dc
  dc2 : dc ≤ 9223372036854775807
  byt : BytD k (psize (g0of ss) k (ol0of ss).toNat) D
  fits : Fits (g0of ss) k (psize (g0of ss) k (ol0of ss).toNat) ss D
  pad : PadZ k (punit (g0of ss) k (ol0of ss).toNat) (psize (g0of ss) k (ol0of ss).toNat) (ol0of ss).toNat D
  obj : Row w' ob (k * psize (g0of ss) k (ol0of ss).toNat) (col k (punit (g0of ss) k (ol0of ss).toNat) D)
  fresh : w.heap.size ≤ ob
  mid : ∃ v, Mut mb w v ∧ Cache X v mb k N ∧ Below v.heap.size v w' ∧ v.heap.size ≤ ob
  str : Str w' sb (g0of ss) k N (ol0of ss).toNat (gfold N (g0of ss) ss).h (payOf ss)

def Answer4 (a b c d : Value) : Ending := .returned (.tuple #[a, b, c, d])
/-- No rows give the shards. -/
def NoRows (k : Nat) (ss : List Sd) : Prop := ¬ ∃ D, BytD k (psize (g0of ss) k (ol0of ss).toNat) D ∧ Fits (g0of ss) k (psize (g0of ss) k (ol0of ss).toNat) ss D ∧ PadZ k (punit (g0of ss) k (ol0of ss).toNat) (psize (g0of ss) k (ol0of ss).toNat) (ol0of ss).toNat D

def RPost (X : Nat → Prop) (e : Nat → Addr) (w : World) (mb k N : Nat) (ss : List Sd) (r : Ending) (w' : World) : Prop := Mut mb w w' ∧ Cache X w' mb k N ∧
  ((∃ i, gcls k N ss = some i ∧ r = Answer4 (.pointer none) (.slice none 0 0) (.slice none 0 0) (errV e (some i))) ∨
   (Good k N ss ∧ NoRows k ss ∧ r = Answer4 (.pointer none) (.slice none 0 0) (.slice none 0 0) (errV e (some 8))) ∨
   (Good k N ss ∧ ∃ sb da dc ob D, r = Answer4 (.pointer (some ⟨sb, 0, none⟩)) (.slice da k dc) (.slice (some ⟨ob, 0, none⟩) (ol0of ss).toNat (ol0of ss).toNat) .nilIface ∧ RestOk X w w' mb sb k N ss da dc ob D))

theorem KErrs.keeps {n : Nat} {w w' : World} {e : Nat → Addr} (h : KErrs n w e) (kp : Keeps w w') (hb : ∀ b, b < w.heap.size → (∃ c t f, w.heap[b]? = some (.cells c t f)) → w'.heap[b]? = w.heap[b]?) : KErrs n w' e :=
  ⟨fun i hi => kp _ _ _ (h.cell i hi), fun i hi => by
    obtain ⟨c, t, hc⟩ := h.row i hi
    exact ⟨c, t, (hb _ (Array.getElem?_eq_some_iff.1 hc).1 ⟨c, t, _, hc⟩).trans hc⟩, h.apart⟩
theorem KErrs.mut {X : Nat → Prop} {n mb k N : Nat} {w w' : World} {e : Nat → Addr} (h : KErrs n w e) (hm : Mut mb w w') (hc : Cache X w mb k N) : KErrs n w' e := by
  obtain ⟨es, clock, h1, _⟩ := hc.ents
  refine h.keeps (hm.keeps h1) (fun b hb ⟨c, t, f, hcell⟩ => hm.block b hb (fun e => ?_))
  rw [e, h1] at hcell
  cases hcell

set_option maxRecDepth 100000 in
set_option maxHeartbeats 4000000 in
theorem restore_any (X : Nat → Prop) (w : World) (F : Nat → Prop) (cb mb k m : Nat) (ao : Option Addr) (cap : Nat) (ss : List Sd) (e : Nat → Addr) (E : KErrs 10 w e) (hC : CodecAt w F cb mb k m) (hK : Cache X w mb k (k + m)) (hX : ∀ b, X b → b < w.heap.size) (hS : SdRow w ao ss) (hlen : ss.length ≤ 65536) :
    Calls Tryd.prog 53 #[.pointer (some ⟨cb, 0, none⟩), .slice ao ss.length cap] w (RPost X e w mb k (k + m) ss) := by
  have hI : Tryd.prog.isIface 48 = true := by kernel_rfl
  have hk := hC.hk
  have hm := hC.hm
  have hkn := hC.hn
  have HGa : Hid _ := gather_any w F cb mb k m ao cap ss e E hC hS hlen
  have HC : Hid (CodecAt w F cb mb k m) := hC
  have HE : Hid (KErrs 10 w e) := E
  have HS : Hid (SdRow w ao ss) := hS
  have HK : Hid (Cache X w mb k (k + m)) := hK
  obtain ⟨N, hN⟩ : ∃ N, k + m = N := ⟨_, rfl⟩
  have HN : Hid (k + m = N) := hN
  have hN16 : N ≤ 16 := by omega
  have hkN : k < N := by omega
  rw [hN] at HGa HK ⊢
  obtain ⟨L, hL⟩ : ∃ L, ss.length = L := ⟨_, rfl⟩
  rw [hL] at HGa ⊢
  clear hC E hS hK hN hL hlen
  go_enter Tryd.func53, Tryd.ntmps53
  go_wp2_with fail
  refine Calls.mono HGa.out ?_
  intro r w1 hpost
  obtain ⟨hb1, hpost⟩ := hpost
  clear HGa
  cases hgc : gcls k N ss with
  | some i =>
    rw [hgc] at hpost
    have hpost : r = .returned (.tuple #[.pointer none, errV e (some i)]) := hpost
    subst hpost
    have HF : Hid (RPost X e w mb k N ss (Answer4 (.pointer none) (.slice none 0 0) (.slice none 0 0) (errV e (some i))) w1) := ⟨Below.mut hb1 mb, HK.out.below hb1, .inl ⟨i, hgc, rfl⟩⟩
    clear hgc hb1
    unfold Answer4 errV at HF
    unfold errV
    go_wp2
    refine bodyPost_ret (v := .tuple #[.pointer none, .slice none 0 0, .slice none 0 0, .iface 186 (.pointer (some (e i)))]) (by simp [results, Tryd.results53, go_sem]) rfl HF.out
  | none =>
    rw [hgc] at hpost
    obtain ⟨hr, hst⟩ := hpost
    subst hr
    have hGood := good_of_gcls hgc
    obtain ⟨hStr, hbit⟩ := hGood.str HS.out (Below.keeps hb1) hN16 hst
    have HGood : Hid (Good k N ss) := hGood
    have hg := hStr.hg
    have hn256 := hStr.hn
    have hh := hStr.hh
    have hps := psize_le (g0of ss) k (ol0of ss).toNat hk hn256
    obtain ⟨hpu, hpd, hpf⟩ := plan_fits (g0of ss) k (ol0of ss).toNat hk
    have HStr : Hid (Str w1 w.heap.size (g0of ss) k N (ol0of ss).toNat (gfold N (g0of ss) ss).h (payOf ss)) := hStr
    have HDa : Hid _ := dataRows_any X w1 F cb mb k m w.heap.size (g0of ss) (ol0of ss).toNat (gfold N (g0of ss) ss).h (payOf ss) (HC.out.below hb1) (by rw [HN.out]; exact HK.out.below hb1) (fun b hb => Nat.lt_of_lt_of_le (hX b hb) hb1.size) (by rw [HN.out]; exact hStr)
    rw [HN.out] at HDa
    -- what the end needs
    have HEndOk : Hid (∀ w' da dc ob u D, Mut mb w w' → Cache X w' mb k N → RMat w' da k (psize (g0of ss) k (ol0of ss).toNat) D → k ≤ dc → dc ≤ 9223372036854775807 → DataOk (g0of ss) k N (psize (g0of ss) k (ol0of ss).toNat) (gfold N (g0of ss) ss).h u (payOf ss) D →
        (∀ i, k ≤ i → i < N → (gfold N (g0of ss) ss).h.testBit i = true → ∀ c, c < psize (g0of ss) k (ol0of ss).toNat → gdot (genr (g0of ss) k i) (fun j => D j c) k = payOf ss i c) →
        (∀ p, (ol0of ss).toNat ≤ p → p < k * psize (g0of ss) k (ol0of ss).toNat → col k (punit (g0of ss) k (ol0of ss).toNat) D p = 0) → Row w' ob (k * psize (g0of ss) k (ol0of ss).toNat) (col k (punit (g0of ss) k (ol0of ss).toNat) D) → w.heap.size ≤ ob → (∃ v, Mut mb w v ∧ Cache X v mb k N ∧ Below v.heap.size v w' ∧ v.heap.size ≤ ob) →
        Str w' w.heap.size (g0of ss) k N (ol0of ss).toNat (gfold N (g0of ss) ss).h (payOf ss) →
        RPost X e w mb k N ss (.returned (.tuple #[.pointer (some ⟨w.heap.size, 0, none⟩), .slice da k dc, .slice (some ⟨ob, 0, none⟩) (ol0of ss).toNat (ol0of ss).toNat, .nilIface])) w') := by
      intro w' da dc ob u D h1 h2 h3 h4 h5 h6 h7 h8 h9 h10 hmid h11
      refine ⟨h1, h2, .inr (.inr ⟨hGood, w.heap.size, da, dc, ob, D, rfl, h3, h4, h5, h6.byt, fun x hx c hc => ?_, h8, h9, h10, hmid, h11⟩)⟩
      have hxi := (hGood.fit x hx).ix
      have hb : (gfold N (g0of ss) ss).h.testBit x.ix.toNat = true := (hbit _).2 ⟨x, hx, rfl⟩
      rw [← payOf_eq hGood.nodup hx]
      rcases Nat.lt_or_ge x.ix.toNat k with hl | hl
      · rw [genr_top (g0of ss) k x.ix.toNat (by omega) hl (fun j => D j c) (fun j hj => h6.byt j hj c hc)]
        exact h6.held _ hl hb c hc
      · exact h7 _ hl (by omega) hb c hc
    have HUq : Hid (∀ u D D', DataOk (g0of ss) k N (psize (g0of ss) k (ol0of ss).toNat) (gfold N (g0of ss) ss).h u (payOf ss) D → BytD k (psize (g0of ss) k (ol0of ss).toNat) D' → Fits (g0of ss) k (psize (g0of ss) k (ol0of ss).toNat) ss D' → ∀ j, j < k → ∀ c, c < psize (g0of ss) k (ol0of ss).toNat → D' j c = D j c) := by
      intro u D D' hd hb hf
      refine rows_uniq (by omega) hN16 hd hb (fun i hi c hc => ?_)
      obtain ⟨x, hx, rfl⟩ := (hbit i).1 (hd.sub i hi).2
      rw [payOf_eq hGood.nodup hx]
      exact hf x hx c hc
    have HNo1 : Hid (∀ u D i c, DataOk (g0of ss) k N (psize (g0of ss) k (ol0of ss).toNat) (gfold N (g0of ss) ss).h u (payOf ss) D → (gfold N (g0of ss) ss).h.testBit i = true → c < psize (g0of ss) k (ol0of ss).toNat → gdot (genr (g0of ss) k i) (fun j => D j c) k ≠ payOf ss i c → NoRows k ss) := by
      intro u D i c hd hb hc hne ⟨D', h1, h2, h3⟩
      have hu := HUq.out u D D' hd h1 h2
      obtain ⟨x, hx, rfl⟩ := (hbit i).1 hb
      have h4 := h2 x hx c hc
      rw [← payOf_eq hGood.nodup hx] at h4
      exact hne ((gdot_congr (fun _ _ => rfl) (fun j hj => (hu j hj c hc).symm)).trans h4)
    have HNo2 : Hid (∀ u D, DataOk (g0of ss) k N (psize (g0of ss) k (ol0of ss).toNat) (gfold N (g0of ss) ss).h u (payOf ss) D → (∃ p, (ol0of ss).toNat ≤ p ∧ p < k * psize (g0of ss) k (ol0of ss).toNat ∧ col k (punit (g0of ss) k (ol0of ss).toNat) D p ≠ 0) → NoRows k ss) := by
      rintro u D hd ⟨p, hp1, hp2, hp3⟩ ⟨D', h1, h2, h3⟩
      obtain ⟨r, hr⟩ := hpd
      have := h3 p hp1 hp2
      rw [col_congr (by omega) hr (HUq.out u D D' hd h1 h2) hp2] at this
      exact hp3 this
    have HEndNo : Hid (∀ w', Mut mb w w' → Cache X w' mb k N → NoRows k ss → RPost X e w mb k N ss (.returned (.tuple #[.pointer none, .slice none 0 0, .slice none 0 0, .iface 186 (.pointer (some (e 8)))])) w') := fun w' h1 h2 h3 => ⟨h1, h2, .inr (.inl ⟨hGood, h3, rfl⟩)⟩
    have HMw1 : Hid (Mut mb w w1) := Below.mut hb1 mb
    have HC1 : Hid (CodecAt w1 F cb mb k m) := HC.out.below hb1
    have HE1 : Hid (KErrs 10 w1 e) := HE.out.below hb1
    have HK1 : Hid (Cache X w1 mb k N) := HK.out.below hb1
    have hwsz : w.heap.size ≤ w1.heap.size := hb1.size
    clear hgc hst hGood hbit hStr hb1 HS HC HE HK HUq hpu
    generalize payOf ss = P at *
    generalize (gfold N (g0of ss) ss).h = h at *
    generalize hge : g0of ss = g at *
    generalize hne : (ol0of ss).toNat = n at *
    obtain ⟨fam, hfam⟩ : ∃ fam, pfam g = fam := ⟨_, rfl⟩
    have HFam : Hid (pfam g = fam) := hfam
    obtain ⟨sb, hsb⟩ : ∃ sb, w.heap.size = sb := ⟨_, rfl⟩
    rw [hsb] at HStr HDa HEndOk hwsz ⊢
    clear hge hne hfam hsb
    go_wp2_with fail
    refine Calls.mono HDa.out ?_
    rintro r w2 ⟨da, dc, u, D, rfl, hdc1, hdc2, hRD, hDO, hK2, hM2⟩
    clear HDa
    have kp2 : Keeps w1 w2 := hM2.keepsC HK1.out
    have HC2 : Hid (CodecAt w2 F cb mb k m) := CodecAt.keeps HC1.out kp2
    have HE2 : Hid (KErrs 10 w2 e) := KErrs.mut HE1.out hM2 HK1.out
    have HSt2 : Hid (Str w2 sb g k N n h P) := Str.mut HStr.out hM2 HK1.out
    have HMw2 : Hid (Mut mb w w2) := HMw1.out.trans hM2
    have HK2 : Hid (Cache X w2 mb k N) := hK2
    have HRD : Hid (RMat w2 da k (psize g k n) D) := hRD
    have HDO : Hid (DataOk g k N (psize g k n) h u P D) := hDO
    have hult := hDO.ult
    have hw2s : sb < w2.heap.size := HSt2.out.lt
    have hw2w : sb ≤ w2.heap.size := by omega
    clear hRD hDO hK2 hM2 kp2 HC1 HE1 HStr HMw1 HK1 hwsz
    have c0 := HC2.out.c0
    have hkn' : ¬ (N : Int) ≤ (k : Int) := by omega
    obtain ⟨size, hsz⟩ : ∃ size, psize g k n = size := ⟨_, rfl⟩
    have HSz : Hid (psize g k n = size) := hsz
    rw [hsz] at HRD HDO HEndOk HNo1 HNo2 hps
    clear hsz
    go_wp2
    go_loopw [4, 5, 9] (fun sv dv i wq => ∃ i0 : Nat, sv = .pointer (some ⟨sb, 0, none⟩) ∧ dv = .slice da k dc ∧ k ≤ i0 ∧ i0 ≤ N ∧ i = .int .i64 i0 ∧ (∀ i, k ≤ i → i < i0 → h.testBit i = true → ∀ c, c < size → gdot (genr g k i) (fun j => D j c) k = P i c) ∧ Below w2.heap.size w2 wq) (fun _ _ i _ => N - (intOf i).toNat)
    case atStart => exact ⟨k, rfl, rfl, Nat.le_refl _, by omega, rfl, fun i h1 h2 => by omega, Below.refl _ _⟩
    case round =>
      obtain ⟨i0, rfl, rfl, hi1, hi2, rfl, hall, hbq⟩ := hrel
      have HAll : Hid (∀ i, k ≤ i → i < i0 → h.testBit i = true → ∀ c, c < size → gdot (genr g k i) (fun j => D j c) k = P i c) := hall
      have hbqd : Below w2.heap.size w2 wr.drew := hbq.drew
      have HNn : Hid _ := codecN_drew wr F cb mb k m (CodecAt.below HC2.out hbq)
      rw [HN.out] at HNn
      have HBq : Hid (Below w2.heap.size w2 wr.drew) := hbqd
      obtain ⟨rv, hrow, hpay⟩ := (Str.below HSt2.out hbqd).row
      have s0 : wr.drew.cell? ⟨sb, 0, none⟩ = some (.int .u8 ((pfam g : Nat) : Int)) := hrow.cell (i := 0) (by decide)
      have s1 : wr.drew.cell? ⟨sb, 1, none⟩ = some (.int .i64 ((psize g k n : Nat) : Int)) := hrow.cell (i := 1) (by decide)
      have s2 : wr.drew.cell? ⟨sb, 2, none⟩ = some (.int .i64 ((punit g k n : Nat) : Int)) := hrow.cell (i := 2) (by decide)
      have s4 : wr.drew.cell? ⟨sb, 4, none⟩ = some (.int .i64 ((n : Nat) : Int)) := hrow.cell (i := 4) (by decide)
      have s5 : wr.drew.cell? ⟨sb, 5, none⟩ = some (.int .u16 (h : Int)) := hrow.cell (i := 5) (by decide)
      rw [HFam.out] at s0
      rw [HSz.out] at s1
      have HRow : Hid (∀ i, i < 16 → wr.drew.cell? ⟨sb, 6 + i, none⟩ = some (rv i)) := fun i hi => by rw [hrow.cell (i := 6 + i) (by omega), stc_row]
      have HPay : Hid (∀ i, i < N → h.testBit i = true → ∃ pa pc, rv i = .slice pa size pc ∧ size ≤ pc ∧ pc ≤ 9223372036854775807 ∧ FRow wr.drew pa size (P i)) := by
        intro i hi hb
        have := hpay i hi hb
        rw [HSz.out] at this
        exact this
      clear hall hrow hpay hbq hbqd
      by_cases hlt : i0 < N
      · have hlt' : (i0 : Int) < (N : Int) := by omega
        have HHas : Hid _ := has_any h i0 wr.drew hh (by omega)
        have HHu : Hid _ := has_any u i0 wr.drew hult (by omega)
        go_wp2_with fail
        refine Calls.mono HNn.out ?_
        rintro r1 w3 ⟨rfl, hw⟩
        subst hw
        go_wp2_with fail
        refine Calls.mono HHas.out ?_
        rintro r1 w3 ⟨rfl, hw⟩
        have hw := hw.symm
        subst hw
        cases hbit : h.testBit i0 with
        | false =>
          have HF : Hid (∀ i, k ≤ i → i < i0 + 1 → h.testBit i = true → ∀ c, c < size → gdot (genr g k i) (fun j => D j c) k = P i c) := by
            intro i h1 h2 h3 c hc
            by_cases e : i = i0
            · rw [e, hbit] at h3; cases h3
            · exact HAll.out i h1 (by omega) h3 c hc
          clear hbit
          go_wp2
          go_roundw
          case rel => exact ⟨i0 + 1, rfl, rfl, by omega, by omega, by go_num, HF.out, HBq.out⟩
          case measure => simp [intOf]; omega
        | true =>
          go_wp2_with fail
          refine Calls.mono HHu.out ?_
          rintro r1 w3 ⟨rfl, hw⟩
          have hw := hw.symm
          subst hw
          cases hub : u.testBit i0 with
          | true =>
            have HF : Hid (∀ i, k ≤ i → i < i0 + 1 → h.testBit i = true → ∀ c, c < size → gdot (genr g k i) (fun j => D j c) k = P i c) := by
              intro i h1 h2 h3 c hc
              by_cases e : i = i0
              · rw [e]; exact HDO.out.fit i0 hub c hc
              · exact HAll.out i h1 (by omega) h3 c hc
            clear hbit hub
            go_wp2
            go_roundw
            case rel => exact ⟨i0 + 1, rfl, rfl, by omega, by omega, by go_num, HF.out, HBq.out⟩
            case measure => simp [intOf]; omega
          | false =>
            obtain ⟨pa, pc, e1, e2, e3, e4⟩ := HPay.out i0 hlt hbit
            have s6 : wr.drew.cell? ⟨sb, 6 + i0, none⟩ = some (.slice pa size pc) := by rw [← e1]; exact HRow.out i0 (by omega)
            have hgen : ∃ H c, wr.drew.cell? ⟨cb, 2 + fam, none⟩ = some (.slice (some ⟨H, 0, none⟩) N c) ∧ RMatF wr.drew F (some ⟨H, 0, none⟩) N k (genr g k) := by
              have hCd := CodecAt.below HC2.out HBq.out
              rw [← HFam.out, ← gfam_pfam g k, ← HN.out]
              unfold pfam gfam
              by_cases e : g = 1
              · simp only [if_pos e]
                obtain ⟨H, c, h1, _, _, h4⟩ := hCd.g0
                exact ⟨H, c, h1, h4⟩
              · simp only [if_neg e]
                obtain ⟨H, c, h1, _, _, h4⟩ := hCd.g1
                exact ⟨H, c, h1, h4⟩
            obtain ⟨GH, gc, gcell, hg4⟩ := hgen
            obtain ⟨hb', ho', hbe, hrr⟩ := (hg4.rmat) (by omega)
            obtain ⟨rfl, rfl⟩ : GH = hb' ∧ 0 = ho' := by simpa using hbe
            obtain ⟨so, sc, r1, r2, r3, r4⟩ := hrr i0 hlt
            rw [Nat.zero_add] at r1
            obtain ⟨W, hW⟩ : ∃ W, wr.drew = W := ⟨_, rfl⟩
            rw [hW] at s0 s1 s6 gcell r1 r4 e4 HBq ⊢
            have hfam1 : (fam : Int) < 2 := by rw [← HFam.out]; unfold pfam; split <;> decide
            have HCm : Hid (∀ V, Below W.heap.size W V → V.heap.size = W.heap.size → Calls Tryd.prog 51 #[.slice so k sc, .slice da k dc, .int .i64 (size : Int)] V fun e w' => e = .returned (.slice (some ⟨W.heap.size, 0, none⟩) size size) ∧ FRow w' (some ⟨W.heap.size, 0, none⟩) size (fun c => gdot (genr g k i0) (fun j => D j c) k) ∧ Below W.heap.size W w') := by
              intro V hb hsz
              refine (combine_any so da sc dc k size (genr g k i0) D V (FRow.below r4 hb) ((RMat.below HRD.out HBq.out).below hb) (by omega) (by omega)).mono ?_
              rintro e w' ⟨h1, h2, h3, h4⟩
              rw [hsz] at h1 h2 h3 h4
              exact ⟨h1, Row.frow h2, hb.trans h3⟩
            have HPa : Hid (FRow W pa size (P i0)) := e4
            have hi16 : (i0 : Int) < 16 := by omega
            have HFull : Hid ((∀ c, c < size → gdot (genr g k i0) (fun j => D j c) k = P i0 c) → ∀ i, k ≤ i → i < i0 + 1 → h.testBit i = true → ∀ c, c < size → gdot (genr g k i) (fun j => D j c) k = P i c) := by
              intro hc0 i h1 h2 h3 c hc
              by_cases e : i = i0
              · rw [e]; exact hc0 c hc
              · exact HAll.out i h1 (by omega) h3 c hc
            have HBad : Hid (¬ (∀ c, c < size → gdot (genr g k i0) (fun j => D j c) k = P i0 c) → NoRows k ss) := by
              intro hno
              obtain ⟨c, hc⟩ := Classical.not_forall.1 hno
              obtain ⟨hc1, hc2⟩ := Classical.not_imp.1 hc
              exact HNo1.out u D i0 c HDO.out hbit hc1 hc2
            clear hbit hub hbe hrr r4 e1 e4 hg4 s2 s4 s5 HRow HPay HNn HHas HHu hW
            obtain ⟨b, hb⟩ : ∃ b, decide (∀ c, c < size → gdot (genr g k i0) (fun j => D j c) k = P i0 c) = b := ⟨_, rfl⟩
            have HEq : Hid (∀ V, FRow V (some ⟨W.heap.size, 0, none⟩) size (fun c => gdot (genr g k i0) (fun j => D j c) k) → Below W.heap.size W V → Calls Tryd.prog 24 #[.slice (some ⟨W.heap.size, 0, none⟩) size size, .slice pa size pc] V fun e w' => e = .returned (.bool b) ∧ w' = V) := by
              intro V h1 h2
              rw [← hb]
              exact equal_frow _ pa size size pc _ (P i0) V h1 (FRow.below HPa.out h2)
            have Hb : Hid (decide (∀ c, c < size → gdot (genr g k i0) (fun j => D j c) k = P i0 c) = b) := hb
            clear hb
            go_upto_region 11 with fail
            go_cut [79] from 34 to 80 (fun bv wx => bv = .bool (!b) ∧ Below W.heap.size W wx)
            case first =>
              go_region_held3 (fun w' => w'.cell? ⟨sb, 0, none⟩ = some (.int .u8 (fam : Int)) ∧ w'.cell? ⟨cb, 2 + fam, none⟩ = some (.slice (some ⟨GH, 0, none⟩) N gc) ∧ w'.cell? ⟨GH, i0, none⟩ = some (.slice so k sc) ∧ w'.cell? ⟨sb, 1, none⟩ = some (.int .i64 (size : Int)) ∧ w'.cell? ⟨sb, 6 + i0, none⟩ = some (.slice pa size pc))
                (first | go_keep | exact ⟨Below.keeps H2.out _ _ _ s0, Below.keeps H2.out _ _ _ gcell, Below.keeps H2.out _ _ _ r1, Below.keeps H2.out _ _ _ s1, Below.keeps H2.out _ _ _ s6⟩)
                (first
                  | (go_at_call 51; refine (HCm.out _ (by first | exact Below.refl _ _ | exact (Below.refl _ _).drew | exact drewN_below _ _ _) (by first | rfl | rw [(World.drewN_alike _ _).1])).mono ?_; rintro r w3 ⟨rfl, h1, h2⟩; have H1 : Hid (FRow w3 (some ⟨W.heap.size, 0, none⟩) size (fun c => gdot (genr g k i0) (fun j => D j c) k)) := h1; have H2 : Hid (Below W.heap.size W w3) := h2; clear h1 h2)
                  | (go_at_call 24; refine (HEq.out _ (by first | exact H1.out | exact FRow.below H1.out (Below.refl _ _).drew | exact FRow.below H1.out (drewN_below _ _ _)) (by first | exact H2.out | exact H2.out.drew | exact H2.out.trans (drewN_below _ _ _))).mono ?_; rintro r w4 ⟨rfl, hw⟩; have hw := hw.symm; subst hw))
              all_goals
                go_wp2
                go_meet
                first
                  | exact ⟨rfl, H2.out⟩
                  | exact ⟨rfl, H2.out.drew⟩
                  | exact ⟨rfl, H2.out.trans (drewN_below _ _ _)⟩
            case rest =>
              obtain ⟨rfl, hbx⟩ := hcut
              have HBx : Hid (Below w2.heap.size w2 wc) := HBq.out.trans (hbx.mono HBq.out.size)
              have hE9 := (KErrs.below HE2.out HBx.out).cell 8 (by omega)
              clear hbx
              cases b with
              | true =>
                have HF : Hid (∀ i, k ≤ i → i < i0 + 1 → h.testBit i = true → ∀ c, c < size → gdot (genr g k i) (fun j => D j c) k = P i c) := HFull.out (of_decide_eq_true Hb.out)
                go_wp2
                go_roundw
                case rel => exact ⟨i0 + 1, rfl, rfl, by omega, by omega, by go_num, HF.out, HBx.out⟩
                case measure => simp [intOf]; omega
              | false =>
                have HF : Hid (NoRows k ss) := HBad.out (of_decide_eq_false Hb.out)
                go_wp2
                go_quiet (fail)
                go_wp2
                refine bodyPost_ret (v := .tuple #[.pointer none, .slice none 0 0, .slice none 0 0, .iface 186 (.pointer (some (e 8)))]) (by simp [results, Tryd.results53, go_sem]) rfl ?_
                have hb : Below w2.heap.size w2 (wc.drewN nq) := HBx.out.trans (drewN_below _ _ _)
                exact HEndNo.out _ (HMw2.out.trans (Below.mut hb mb)) (HK2.out.below hb) HF.out
      · have hlt' : ¬ (i0 : Int) < (N : Int) := by omega
        have hiN : i0 = N := by omega
        have HFin : Hid (∀ i, k ≤ i → i < N → h.testBit i = true → ∀ c, c < size → gdot (genr g k i) (fun j => D j c) k = P i c) := by rw [← hiN]; exact HAll.out
        obtain ⟨W, hW⟩ : ∃ W, wr.drew = W := ⟨_, rfl⟩
        rw [hW] at s0 s1 s2 s4 HBq
        obtain ⟨un, hun⟩ : ∃ un, punit g k n = un := ⟨_, rfl⟩
        rw [hun] at s2 HEndOk HNo2 hpd
        rw [HSz.out] at hpd hpf
        have HCo : Hid (∀ V, Below W.heap.size W V → V.heap.size = W.heap.size → Calls Tryd.prog 70 #[.pointer (some ⟨cb, 0, none⟩), .slice da k dc, .agg #[.int .u8 (fam : Int), .int .i64 (size : Int), .int .i64 (un : Int)], .int .i64 (n : Int)] V fun e w' => ∃ ov b, e = .returned (.tuple #[ov, .bool b]) ∧ Below W.heap.size W w' ∧ (((∃ p, n ≤ p ∧ p < k * size ∧ col k un D p ≠ 0) ∧ ov = .slice none 0 0 ∧ b = false) ∨ ((∀ p, n ≤ p → p < k * size → col k un D p = 0) ∧ ov = .slice (some ⟨W.heap.size + 1, 0, none⟩) n n ∧ b = true ∧ Row w' (W.heap.size + 1) (k * size) (col k un D)))) := by
          intro V hb hsz
          refine (collect_any V F cb mb k m fam size un n dc da D ((CodecAt.below HC2.out HBq.out).below hb) ((RMat.below HRD.out HBq.out).below hb) hps hpd hpf).mono ?_
          rintro e w' ⟨h1, h2⟩
          rw [hsz] at h1 h2
          rcases h2 with ⟨h2, rfl⟩ | ⟨h2, rfl, h3⟩
          · exact ⟨_, _, rfl, hb.trans h1, .inl ⟨h2, rfl, rfl⟩⟩
          · exact ⟨_, _, rfl, hb.trans h1, .inr ⟨h2, rfl, rfl, h3⟩⟩
        clear hiN s5 HRow HPay hlt HAll
        have HWw : Hid (wr.drew = W) := hW
        clear hW
        go_wp2_with fail
        refine Calls.mono HNn.out ?_
        rintro r1 w3 ⟨rfl, hw⟩
        subst hw
        rw [HWw.out]
        clear HNn HWw
        go_wp2
        go_cut [6, 10] from 11 (fun ov bv wx => ∃ b, bv = .bool b ∧ Below W.heap.size W wx ∧ (((∃ p, n ≤ p ∧ p < k * size ∧ col k un D p ≠ 0) ∧ ov = .slice none 0 0 ∧ b = false) ∨ ((∀ p, n ≤ p → p < k * size → col k un D p = 0) ∧ ov = .slice (some ⟨W.heap.size + 1, 0, none⟩) n n ∧ b = true ∧ Row wx (W.heap.size + 1) (k * size) (col k un D))))
        case first =>
          go_region_with (go_at_call 70; refine (HCo.out _ (by first | exact Below.refl _ _ | exact (Below.refl _ _).drew | exact drewN_below _ _ _) (by first | rfl | rw [(World.drewN_alike _ _).1])).mono ?_; rintro r w3 ⟨ov, b, rfl, h1⟩; have H1 : Hid _ := h1; clear h1)
          all_goals
            go_wp2
            go_meet
            exact ⟨b, rfl, H1.out⟩
        case rest =>
          obtain ⟨b, rfl, hbx, hcase⟩ := hcut
          have HBx : Hid (Below w2.heap.size w2 wc) := HBq.out.trans (hbx.mono HBq.out.size)
          have hE9 := (KErrs.below HE2.out HBx.out).cell 8 (by omega)
          have hWs : sb ≤ W.heap.size + 1 := by have := HBq.out.size; omega
          clear hbx s0 s1 s2 s4
          rcases hcase with ⟨hbad, rfl, rfl⟩ | ⟨hz, rfl, rfl, hrow⟩
          · have HF : Hid (NoRows k ss) := HNo2.out u D HDO.out hbad
            clear hbad
            go_wp2
            go_quiet (fail)
            go_wp2
            refine bodyPost_ret (v := .tuple #[.pointer none, .slice none 0 0, .slice none 0 0, .iface 186 (.pointer (some (e 8)))]) (by simp [results, Tryd.results53, go_sem]) rfl ?_
            have hb : Below w2.heap.size w2 (wc.drewN nq) := HBx.out.trans (drewN_below _ _ _)
            exact HEndNo.out _ (HMw2.out.trans (Below.mut hb mb)) (HK2.out.below hb) HF.out
          · have HF : Hid (RPost X e w mb k N ss (.returned (.tuple #[.pointer (some ⟨sb, 0, none⟩), .slice da k dc, .slice (some ⟨W.heap.size + 1, 0, none⟩) n n, .nilIface])) wc) :=
              HEndOk.out wc da dc (W.heap.size + 1) u D (HMw2.out.trans (Below.mut HBx.out mb)) (HK2.out.below HBx.out) (RMat.below HRD.out HBx.out) hdc1 hdc2 HDO.out HFin.out hz hrow hWs ⟨w2, HMw2.out, HK2.out, HBx.out, by have := HBq.out.size; omega⟩ (Str.below HSt2.out HBx.out)
            clear hz hrow
            go_wp2
            refine bodyPost_ret (v := .tuple #[.pointer (some ⟨sb, 0, none⟩), .slice da k dc, .slice (some ⟨W.heap.size + 1, 0, none⟩) n n, .nilIface]) (by simp [results, Tryd.results53, go_sem]) rfl HF.out
end Go.Proofs.Qxb6500697aDoor
