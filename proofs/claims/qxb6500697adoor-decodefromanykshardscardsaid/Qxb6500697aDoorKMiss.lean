/-
  THE WALK OF Missing, on lists that decode.
-/
import Derived.Test.Qxb6500697aDoorKApp
namespace Go.Proofs.Qxb6500697aDoor
open Go.RowKit

theorem Good.bits {k N : Nat} {ss : List Sd} (h : Good k N ss) : ∀ i, (gfold N (g0of ss) ss).h.testBit i = true ↔ ∃ x ∈ ss, x.ix.toNat = i := by
  have htw : (gfold N (g0of ss) ss).tw = false := fold_nodup ss Gs.zero h.fit rfl (fun _ _ => by show Nat.testBit 0 _ = false; simp) h.nodup
  have hfo := fold_ok ss Gs.zero h.fit htw
  intro i
  have := hfo.bit i
  have e : Gs.zero.h.testBit i = false := by show Nat.testBit 0 _ = false; simp
  rw [e] at this
  have h2 : (gfold N (g0of ss) ss).h.testBit i = true ↔ false = true ∨ ∃ x ∈ ss, x.ix.toNat = i := this
  simpa using h2

/-- The numbers below i that are not in ns. -/
def absL (ns : List Nat) (i : Nat) : List Nat := (List.range i).filter (fun x => !decide (x ∈ ns))
theorem absL_succ (ns : List Nat) (i : Nat) : absL ns (i + 1) = absL ns i ++ (if i ∈ ns then [] else [i]) := by
  unfold absL
  rw [List.range_succ, List.filter_append]
  congr 1
  by_cases e : i ∈ ns <;> simp [e]
theorem absL_lt {ns : List Nat} {i x : Nat} (h : x ∈ absL ns i) : x < i := by
  unfold absL at h
  exact List.mem_range.1 (List.mem_filter.1 h).1
theorem absL_len (ns : List Nat) (i : Nat) : (absL ns i).length ≤ i := by
  have := List.length_filter_le (fun x => !decide (x ∈ ns)) (List.range i)
  rw [List.length_range] at this
  exact this

/-- The shards ss are those of the numbers l. -/
def Alike (ss : List Sd) (l : List Nat) (g n size : Nat) (P : Nat → Nat → Nat) : Prop := ss.length = l.length ∧ ∀ t, t < l.length → (ss.getD t Sd.zero).same (mkSd g n size (fun _ => 0) (fun _ => 0) P (l.getD t 0))
theorem Alike.nil (g n size : Nat) (P : Nat → Nat → Nat) : Alike [] [] g n size P := ⟨rfl, fun t ht => by simp at ht⟩
theorem getD_snoc_lt {α : Type} {l : List α} {x d : α} {t : Nat} (h : t < l.length) : (l ++ [x]).getD t d = l.getD t d := by
  rw [List.getD_eq_getElem?_getD, List.getD_eq_getElem?_getD, List.getElem?_append_left h]
theorem getD_snoc_eq {α : Type} {l : List α} {x d : α} {t : Nat} (h : t = l.length) : (l ++ [x]).getD t d = x := by
  subst h; simp
theorem Alike.push {ss : List Sd} {l : List Nat} {g n size : Nat} {P : Nat → Nat → Nat} (h : Alike ss l g n size P) {s : Sd} {i : Nat} (hs : s.same (mkSd g n size (fun _ => 0) (fun _ => 0) P i)) : Alike (ss ++ [s]) (l ++ [i]) g n size P := by
  refine ⟨by simp [h.1], fun t ht => ?_⟩
  rw [List.length_append, List.length_singleton] at ht
  by_cases e : t = l.length
  · rw [getD_snoc_eq (by rw [h.1]; exact e), getD_snoc_eq e]; exact hs
  · rw [getD_snoc_lt (by rw [h.1]; omega), getD_snoc_lt (by omega)]
    exact h.2 t (by omega)

set_option maxRecDepth 100000 in
set_option maxHeartbeats 4000000 in
theorem missing_ok (w : World) (F : Nat → Prop) (cb mb k m g n : Nat) (ao : Option Addr) (cap : Nat) (ss : List Sd) (ns : List Nat) (e : Nat → Addr) (D0 : Nat → Nat → Nat) (f : Nat → Nat) (E : KErrs 10 w e) (hC : CodecAt w F cb mb k m) (hK : Cache NoX w mb k (k + m)) (hS : SdRow w ao ss) (hlen : ss.length ≤ 65536)
    (hG : Good k (k + m) ss) (hg0 : g0of ss = g) (ho0 : ol0of ss = (n : Int)) (hn : n ≤ 256) (hb : BytD k (psize g k n) D0) (hf : Fits g k (psize g k n) ss D0) (hp : PadZ k (punit g k n) (psize g k n) n D0) (hns : ss.map (fun x => x.ix.toNat) = ns)
    (hpay : ∀ i c, gdot (genr g k i) (fun j => D0 j c) k = pay g k n f i c) :
    Calls Tryd.prog 34 #[.pointer (some ⟨cb, 0, none⟩), .slice ao ss.length cap] w fun r w' => ∃ ho hc ts, r = .returned (.tuple #[.slice ho ts.length hc, .nilIface]) ∧ SdRow w' ho ts ∧ Alike ts (absL ns (k + m)) g n (psize g k n) (pay g k n f) ∧ Mut mb w w' ∧ Cache NoX w' mb k (k + m) := by
  have hI : Tryd.prog.isIface 48 = true := by kernel_rfl
  have hk := hC.hk
  have hkn := hC.hn
  have hbits := hG.bits
  have hlen' := hlen
  have HRe : Hid (Calls Tryd.prog 53 #[.pointer (some ⟨cb, 0, none⟩), .slice ao ss.length cap] w fun r w2 => ∃ sb da dc ob D h, r = Answer4 (.pointer (some ⟨sb, 0, none⟩)) (.slice da k dc) (.slice (some ⟨ob, 0, none⟩) n n) .nilIface ∧ RMat w2 da k (psize g k n) D ∧ BytD k (psize g k n) D ∧ Str w2 sb g k (k + m) n h (payOf ss) ∧ (∀ i, h.testBit i = decide (i ∈ ns)) ∧ (∀ i c, c < psize g k n → gdot (genr g k i) (fun j => D j c) k = pay g k n f i c) ∧ CodecAt w2 F cb mb k m ∧ Mut mb w w2 ∧ Cache NoX w2 mb k (k + m)) := by
    refine (restore_any NoX w F cb mb k m ao cap ss e E hC hK (fun b hb => False.elim hb) hS hlen).mono ?_
    rintro r w2 ⟨hM, hK2, hcase⟩
    rcases hcase with ⟨i, hgc, _⟩ | ⟨_, hNo, _⟩ | ⟨_, sb, da, dc, ob, D, hr, hR⟩
    · rw [gcls_good hG] at hgc; cases hgc
    · exfalso
      apply hNo
      rw [hg0, ho0, Int.toNat_natCast]
      exact ⟨D0, hb, hf, hp⟩
    · have h1 := hR.data
      have h2 := hR.byt
      have h3 := hR.fits
      have h4 := hR.str
      rw [ho0, Int.toNat_natCast] at hr h1 h2 h3 h4
      rw [hg0] at h1 h2 h3 h4 hbits
      have hDu := fits_uniq (by omega) hkn hG h2 hb h3 hf
      refine ⟨sb, da, dc, ob, D, _, hr, h1, h2, h4, fun i => ?_, fun i c hc => ?_, hC.keeps (hM.keepsC hK), hM, hK2⟩
      · have hi := hbits i
        rw [← hns]
        by_cases hm : i ∈ ss.map (fun x => x.ix.toNat)
        · rw [decide_eq_true hm]
          exact hi.2 (List.mem_map.1 hm)
        · rw [decide_eq_false hm]
          cases hq : (gfold (k + m) g ss).h.testBit i with
          | false => rfl
          | true => exact absurd (List.mem_map.2 (hi.1 hq)) hm
      · rw [← hpay i c]
        exact gdot_congr (fun _ _ => rfl) (fun j hj => hDu j hj c hc)
  obtain ⟨N, hN⟩ : ∃ N, k + m = N := ⟨_, rfl⟩
  have HNe : Hid (k + m = N) := hN
  have hN16 : N ≤ 16 := by omega
  obtain ⟨L, hL⟩ : ∃ L, ss.length = L := ⟨_, rfl⟩
  rw [hL] at HRe ⊢
  rw [hN]
  rw [hN] at HRe
  have hgg : g < 256 := by rcases hG.fit _ (getD_mem (d := Sd.zero) (l := ss) (i := 0) (by have := hG.len; omega)) with ⟨h1, _, h3⟩; rw [hg0] at h3; rcases h1 with h | h | h <;> omega
  have hps := psize_le g k n hk hn
  clear hC E hK hS hG hL hlen hlen' hb hf hp hg0 ho0 hpay hns hbits hN
  generalize hsz : psize g k n = size at *
  generalize pay g k n f = Pf at *
  go_enter Tryd.func34, Tryd.ntmps34
  go_wp2_with fail
  refine Calls.mono HRe.out ?_
  rintro r w2 ⟨sb, da, dc, ob, D, h, rfl, hD, hby, hStr, hbit, hdot, hC2, hM2, hK2⟩
  unfold Answer4
  have hh := hStr.hh
  have HD : Hid (RMat w2 da k size D) := hD
  have Hby : Hid (BytD k size D) := hby
  have HStr : Hid (Str w2 sb g k N n h (payOf ss)) := hStr
  have HBit : Hid (∀ i, h.testBit i = decide (i ∈ ns)) := hbit
  have HDot : Hid (∀ i c, c < size → gdot (genr g k i) (fun j => D j c) k = Pf i c) := hdot
  have HC2 : Hid (CodecAt w2 F cb mb k m) := hC2
  have HM2 : Hid (Mut mb w w2) := hM2
  have HK2 : Hid (Cache NoX w2 mb k N) := hK2
  have Hsz : Hid (psize g k n = size) := hsz
  clear HRe hD hby hStr hbit hdot hC2 hM2 hK2 hsz
  go_wp2
  go_loopw [10, 11] (fun v i wr => ∃ (j : Nat) (ts : List Sd), j ≤ N ∧ i = .int .i64 j ∧ SOut w2.heap.size wr v ts ∧ Alike ts (absL ns j) g n size Pf ∧ Below w2.heap.size w2 wr) (fun _ i _ => N - (intOf i).toNat)
  case atStart => exact ⟨0, [], Nat.zero_le _, rfl, SOut.nil _ _, Alike.nil _ _ _ _, Below.refl _ _⟩
  case round =>
    obtain ⟨j, ts, hj, rfl, hSO, hAl, hbr⟩ := hrel
    have HNn : Hid _ := codecN_drew wr F cb mb k m (HC2.out.below hbr)
    rw [HNe.out] at HNn
    have HSO : Hid (SOut w2.heap.size wr.drew u10 ts) := hSO.below (Below.refl _ _).drew
    have HAl : Hid (Alike ts (absL ns j) g n size Pf) := hAl
    have hbd : Below w2.heap.size w2 wr.drew := hbr.drew
    have HBr : Hid (Below w2.heap.size w2 wr.drew) := hbd
    by_cases hlt : j < N
    · have hlt' : (j : Int) < (N : Int) := by omega
      obtain ⟨rv, hrow, _⟩ := (HStr.out.below hbd).row
      have s5 : wr.drew.cell? ⟨sb, 5, none⟩ = some (.int .u16 h) := hrow.cell (i := 5) (by decide)
      have HHas : Hid _ := has_any h j wr.drew hh (by omega)
      rw [HBit.out j] at HHas
      clear hrow hSO hAl hbr hbd
      go_wp2_with fail
      refine Calls.mono HNn.out ?_
      rintro r w3 ⟨rfl, hw⟩
      obtain ⟨wd, hwd⟩ : ∃ wd, wr.drew = wd := ⟨_, rfl⟩
      rw [hwd] at hw HSO HBr s5 HHas
      have hw := hw.symm
      subst hw
      clear hwd HNn
      go_wp2_with fail
      refine Calls.mono HHas.out ?_
      rintro r w3 ⟨rfl, hw⟩
      have hw := hw.symm; subst hw
      clear HHas
      by_cases hm : j ∈ ns
      · rw [decide_eq_true hm]
        have HF : Hid (absL ns (j + 1) = absL ns j) := by
          show absL ns (j + 1) = absL ns j
          rw [absL_succ, if_pos hm, List.append_nil]
        clear hm
        go_wp2
        go_roundw
        case rel => exact ⟨j + 1, ts, by omega, by go_num, HSO.out, by rw [HF.out]; exact HAl.out, HBr.out⟩
        case measure => simp [intOf]; omega
      · rw [decide_eq_false hm]
        have HF : Hid (absL ns (j + 1) = absL ns j ++ [j]) := by
          show absL ns (j + 1) = absL ns j ++ [j]
          rw [absL_succ, if_neg hm]
        have HRm : Hid _ := remake_any wd F cb mb k m sb g n h j dc (payOf ss) D da (HC2.out.below HBr.out) (by rw [HNe.out]; exact HStr.out.below HBr.out) (by rw [Hsz.out]; exact (HD.out.keeps (Below.keeps HBr.out))) (by rw [Hsz.out]; exact Hby.out) (by rw [HNe.out]; exact hlt)
        clear hm s5
        go_wp2_with fail
        refine Calls.mono HRm.out ?_
        rintro r w4 ⟨hb4, pa, pc, hr, hp1, hp2, hfr⟩
        rw [Hsz.out] at hr hp1 hfr
        subst hr
        have hbw : Below w2.heap.size w2 w4 := HBr.out.trans (hb4.mono HBr.out.size)
        have HSO4 : Hid (∀ o, SOut w2.heap.size (w4.alloc o) u10 ts) := fun o => (HSO.out.below hb4).below ((Below.refl _ _).alloc (Nat.le_refl _) o)
        have HB4 : Hid (∀ o, Below w2.heap.size w2 (w4.alloc o) ∧ w2.heap.size ≤ (w4.alloc o).heap.size) := fun o => ⟨hbw.alloc hbw.size o, (hbw.alloc hbw.size o).size⟩
        have HOk4 : Hid (∀ o, SdOk (w4.alloc o) ⟨g, (j : Int), (n : Int), pa, size, pc, fun c => gdot (genr g k j) (fun j => D j c) k⟩) := fun o => ⟨hgg, by show -9223372036854775808 ≤ ((j : Nat) : Int) ∧ ((j : Nat) : Int) ≤ 9223372036854775807; omega, by show -9223372036854775808 ≤ ((n : Nat) : Int) ∧ ((n : Nat) : Int) ≤ 9223372036854775807; omega, hfr.1.below ((Below.refl _ _).alloc (Nat.le_refl _) o), hp1, hp2⟩
        have HFar : Hid (0 < size → ∀ b o, pa = some ⟨b, o, none⟩ → u10.ownBlock ≠ some b) := fun h0 b o he hq => by
          obtain ⟨gg, q1, q2, _⟩ := hfr.2 h0
          have h3 := (HSO.out.own.lt b hq).2
          rw [he] at q1
          have : b = gg := congrArg (fun x : Option Addr => (x.getD ⟨0, 0, none⟩).block) q1
          omega
        have HBlk : Hid (∀ o, o = .cells #[.int .u8 (g : Int), .int .i64 (j : Int), .int .i64 (n : Int), .slice pa size pc] 60 → (w4.alloc o).heap[w4.heap.size]? = some (.cells #[.int .u8 (g : Int), .int .i64 (j : Int), .int .i64 (n : Int), .slice pa size pc] 60 (0, 0))) := fun o ho => by rw [ho]; exact heap_alloc_new w4 _
        have HAl2 : Hid (Alike (ts ++ [⟨g, (j : Int), (n : Int), pa, size, pc, fun c => gdot (genr g k j) (fun j => D j c) k⟩]) (absL ns (j + 1)) g n size Pf) := by
          show Alike _ (absL ns (j + 1)) g n size Pf
          rw [HF.out]
          exact HAl.out.push ⟨rfl, rfl, rfl, rfl, fun c hc => HDot.out j c hc⟩
        have htl : ts.length ≤ 65536 := by
          have h1 := HAl.out.1
          have h2 := absL_len ns j
          omega
        have HOl : Hid (∀ k, u10.ownBlock = some k → w2.heap.size ≤ k) := fun k hk => (HSO.out.own.lt k hk).1
        clear hb4 hfr hbw HRm HSO HBr
        go_wp2_with (at_builtin; refine wpList_append_sd _ rfl _ _ rfl w2.heap.size u10 ts rfl (HSO4.out _) (HB4.out _).2 htl w4.heap.size 1 rfl ⟨g, (j : Int), (n : Int), pa, size, pc, fun c => gdot (genr g k j) (fun j => D j c) k⟩ (HBlk.out _ rfl) (HOk4.out _) HFar.out ?_; intro v' w5 h1 h2; have HT5 : Hid _ := h1; have HB5 : Hid (Below w2.heap.size w2 w5) := (HB4.out _).1.grown h2 (HB4.out _).2 HOl.out; clear h1 h2)
        go_roundw
        case rel => exact ⟨j + 1, _, by omega, by go_num, HT5.out, HAl2.out, HB5.out⟩
        case measure => simp [intOf]; omega
    · have hlt' : ¬ (j : Int) < (N : Int) := by omega
      have hjN : j = N := by omega
      obtain ⟨ho, hc, hv, hrow⟩ := HSO.out.form
      have HF : Hid (SdRow wr.drew ho ts ∧ Alike ts (absL ns N) g n size Pf ∧ Mut mb w wr.drew ∧ Cache NoX wr.drew mb k N) := ⟨hrow, by rw [← hjN]; exact hAl, HM2.out.trans (Below.mut hbd mb), HK2.out.below hbd⟩
      clear hrow hSO hAl hbr hbd
      subst hv
      go_wp2_with fail
      refine Calls.mono HNn.out ?_
      rintro r w3 ⟨rfl, hw⟩
      obtain ⟨wd, hwd⟩ : ∃ wd, wr.drew = wd := ⟨_, rfl⟩
      rw [hwd] at hw HF
      have hw := hw.symm
      subst hw
      clear hwd HNn
      go_wp2
      go_ret2
      exact ⟨ho, hc, ts, rfl, HF.out⟩
end Go.Proofs.Qxb6500697aDoor
