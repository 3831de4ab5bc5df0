/-
  ONE SHARD DAMAGED: WHAT VERIFY AND SUSPECTS SAY OF THE LIST AND OF ITS PARTS.
-/
import Derived.Test.Qxb6500697aDoorKSusW
import Derived.Test.Qxb6500697aDoorKDecT
import Derived.Test.Qxb6500697aDoorKPad
namespace Go.Proofs.Qxb6500697aDoor
open Go.RowKit

structure FldOk (g n size N : Nat) (x : Sd) : Prop where
  hg : x.g = g
  ix : 0 ≤ x.ix ∧ x.ix < (N : Int)
  ol : x.ol = (n : Int)
  pl : x.pl = size
theorem good_fld {k N g n : Nat} {l : List Sd} (hk : 1 ≤ k) (hg : g = 1 ∨ g = 2 ∨ g = 3) (hn : n ≤ 256) (hf : ∀ x ∈ l, FldOk g n (psize g k n) N x) (hnd : (l.map fun x => x.ix.toNat).Nodup) (hl : k ≤ l.length) : Good k N l ∧ g0of l = g ∧ ol0of l = (n : Int) := by
  have hne : l ≠ [] := fun h => by rw [h] at hl; simp at hl; omega
  have hg0 := g0of_all hne (g := g) (fun x hx => (hf x hx).hg)
  have ho0 := ol0of_all hne (n := (n : Int)) (fun x hx => (hf x hx).ol)
  refine ⟨⟨hne, fun x hx => ⟨?_, (hf x hx).ix, ?_⟩, hnd, by rw [ho0]; omega, fun x hx => ?_, hl⟩, hg0, ho0⟩
  · show x.g = 1 ∨ x.g = 2 ∨ x.g = 3
    rw [(hf x hx).hg]; exact hg
  · rw [hg0]; exact (hf x hx).hg
  · rw [hg0, ho0]; exact ⟨(hf x hx).ol, (hf x hx).pl⟩

/-- The object's own bytes. -/
def Genu (size : Nat) (P : Nat → Nat → Nat) (x : Sd) : Prop := ∀ c, c < size → x.P c = P x.ix.toNat c

theorem sprd_ok {k g n : Nat} {f : Nat → Nat} (hk : 1 ≤ k) (hk16 : k ≤ 16) (hf : ∀ i, i < n → f i < 256) {l : List Sd} (hG : ∀ x ∈ l, Genu (psize g k n) (pay g k n f) x) :
    BytD k (psize g k n) (sprd k (punit g k n) n f) ∧ Fits g k (psize g k n) l (sprd k (punit g k n) n f) ∧ PadZ k (punit g k n) (psize g k n) n (sprd k (punit g k n) n f) := by
  refine ⟨fun j _ c _ => sprd_lt _ _ _ _ hf _ _, fun x hx c hc => ?_, fun p hp1 hp2 => ?_⟩
  · rw [hG x hx c hc]
    exact (pay_dot g k n f hk16 hf _ c).symm
  · have hu : 0 < punit g k n := by
      obtain ⟨h1, ⟨r, h2⟩, _⟩ := plan_fits g k n hk
      rcases Nat.eq_zero_or_pos (punit g k n) with h0 | h0
      · rw [h0, Nat.mul_zero] at h2; rw [h2, Nat.mul_zero] at hp2; omega
      · exact h0
    rw [col_sprd k (punit g k n) n f p hu, if_neg (by omega)]

theorem genu_none {k N g n : Nat} {f : Nat → Nat} (hk : 1 ≤ k) (hk16 : k ≤ 16) (hg : g = 1 ∨ g = 2 ∨ g = 3) (hn : n ≤ 256) (hf : ∀ i, i < n → f i < 256) {l : List Sd} (hF : ∀ x ∈ l, FldOk g n (psize g k n) N x) (hnd : (l.map fun x => x.ix.toNat).Nodup) (hl : k ≤ l.length) (hG : ∀ x ∈ l, Genu (psize g k n) (pay g k n f) x) : vcls k N l = none := by
  obtain ⟨h1, h2, h3⟩ := good_fld hk hg hn hF hnd hl
  obtain ⟨h4, h5, h6⟩ := sprd_ok hk hk16 hf hG
  refine vcls_ok h1 (fun hno => hno ?_)
  rw [h2, h3, Int.toNat_natCast]
  exact ⟨_, h4, h5, h6⟩

/-- One shard of the list is not the object's. -/
theorem dam_eight {k N g n : Nat} {f : Nat → Nat} (hk : 1 ≤ k) (hN : N ≤ 16) (hk16 : k ≤ 16) (hg : g = 1 ∨ g = 2 ∨ g = 3) (hn : n ≤ 256) (hf : ∀ i, i < n → f i < 256) {l : List Sd} {x : Sd} (hF : ∀ y ∈ l, FldOk g n (psize g k n) N y) (hnd : (l.map fun y => y.ix.toNat).Nodup) (hl : k + 1 ≤ l.length) (hx : x ∈ l) (hG : ∀ y ∈ l, y.ix ≠ x.ix → Genu (psize g k n) (pay g k n f) y) (c : Nat) (hc : c < psize g k n) (hbad : x.P c ≠ pay g k n f x.ix.toNat c) : vcls k N l = some 8 := by
  obtain ⟨h1, h2, h3⟩ := good_fld hk hg hn hF hnd (by omega)
  refine vcls_no h1 ?_
  rintro ⟨D, hD1, hD2, hD3⟩
  rw [h2, h3, Int.toNat_natCast] at hD1 hD2 hD3
  obtain ⟨s, t, rfl⟩ := List.append_of_mem hx
  have hnd' := hnd
  rw [List.map_append, List.map_cons, List.nodup_append] at hnd'
  obtain ⟨n1, n2, n3⟩ := hnd'
  rw [List.nodup_cons] at n2
  have hmem : ∀ y ∈ s ++ t, y ∈ s ++ x :: t := fun y hy => by
    rcases List.mem_append.1 hy with h | h
    · exact List.mem_append.2 (.inl h)
    · exact List.mem_append.2 (.inr (List.mem_cons_of_mem _ h))
  have hdiff : ∀ y ∈ s ++ t, y.ix ≠ x.ix := fun y hy he => by
    rcases List.mem_append.1 hy with h | h
    · exact n3 y.ix.toNat (List.mem_map.2 ⟨y, h, rfl⟩) x.ix.toNat List.mem_cons_self (by rw [he])
    · exact n2.1 (List.mem_map.2 ⟨y, h, by rw [he]⟩)
  have hnd2 : ((s ++ t).map fun y => y.ix.toNat).Nodup := by
    rw [List.map_append, List.nodup_append]
    exact ⟨n1, n2.2, fun a ha b hb => n3 a ha b (List.mem_cons_of_mem _ hb)⟩
  have hl2 : k ≤ (s ++ t).length := by simp at hl ⊢; omega
  obtain ⟨q1, q2, q3⟩ := good_fld hk hg hn (fun y hy => hF y (hmem y hy)) hnd2 hl2
  obtain ⟨q4, q5, q6⟩ := sprd_ok (l := s ++ t) hk hk16 hf (fun y hy => hG y (hmem y hy) (hdiff y hy))
  have hu := fits_uniq hk16 hN q1 hD1 q4 (fun y hy => hD2 y (hmem y hy)) q5
  have h4 := hD2 x hx c hc
  apply hbad
  rw [← h4, pay_dot g k n f hk16 hf]
  exact gdot_congr (fun _ _ => rfl) (fun j hj => hu j hj c hc)

theorem susJ_one {k N L p : Nat} {ds : List Sd} (h1 : vcls k N (ds.eraseIdx p) = none) (h2 : ∀ q, q < L → q ≠ p → vcls k N (ds.eraseIdx q) = some 8) : ∀ j, j ≤ L → susJ k N ds j = if p < j then [(ds.getD p Sd.zero).ix] else []
  | 0, _ => by simp [susJ]
  | j + 1, hj => by
    rw [susJ_succ, susJ_one h1 h2 j (by omega)]
    by_cases e : j = p
    · subst e
      rw [if_pos h1, if_neg (by omega), if_pos (by omega)]
      rfl
    · have h3 := h2 j (by omega) e
      have hc : ¬ vcls k N (ds.eraseIdx j) = none := by rw [h3]; simp
      rw [if_neg hc, List.append_nil]
      by_cases hp : p < j
      · rw [if_pos hp, if_pos (by omega)]
      · rw [if_neg hp, if_neg (by omega)]

/-- The copies with one byte of copy p changed. -/
structure Dam (t : Tr) (n N g L p off v : Nat) (f : Nat → Sd) : Prop where
  eq : ∀ i, i < L → ∃ pa pc, f i = (mkSd g n (psize g t.k n) (fun _ => 0) (fun _ => 0) (t.pay g n) (t.sub.getD i 0)).with pa pc
  hp : p < L
  hoff : off < psize g t.k n
  hv : v ≠ t.pay g n (t.sub.getD p 0) off
theorem dam_facts {t : Tr} {n N g L p off v : Nat} {f : Nat → Sd} (hF : TrF t n N) (hL : t.sub.length = L) (h : Dam t n N g L p off v f) :
    (∀ i, i < L → FldOk g n (psize g t.k n) N (tamp f p off v i) ∧ (tamp f p off v i).ix = ((t.sub.getD i 0 : Nat) : Int)) ∧ (∀ i, i < L → i ≠ p → Genu (psize g t.k n) (t.pay g n) (tamp f p off v i)) ∧ (tamp f p off v p).P off = v := by
  have hlt : ∀ i, i < L → t.sub.getD i 0 < N := fun i hi => hF.slt _ (getD_mem (by rw [hL]; exact hi))
  refine ⟨fun i hi => ?_, fun i hi hne c hc => ?_, ?_⟩
  · obtain ⟨pa, pc, e⟩ := h.eq i hi
    have hlt' := hlt i hi
    have hx : (f i).ix = ((t.sub.getD i 0 : Nat) : Int) := by rw [e]; rfl
    have hgg : (f i).g = g := by rw [e]; rfl
    have hoo : (f i).ol = (n : Int) := by rw [e]; rfl
    have hpp : (f i).pl = psize g t.k n := by rw [e]; rfl
    unfold tamp
    split
    · exact ⟨⟨hgg, by show 0 ≤ (f i).ix ∧ (f i).ix < (N : Int); omega, hoo, hpp⟩, hx⟩
    · exact ⟨⟨hgg, by omega, hoo, hpp⟩, hx⟩
  · obtain ⟨pa, pc, e⟩ := h.eq i hi
    unfold tamp
    rw [if_neg hne, e]
    rfl
  · unfold tamp
    rw [if_pos rfl]
    simp

theorem dam_list {t : Tr} {n N g L p off v : Nat} {f : Nat → Sd} (hF : TrF t n N) (hL : t.sub.length = L) (hg : g = 1 ∨ g = 2 ∨ g = 3) (h : Dam t n N g L p off v f) (hk : t.k + 1 ≤ L) :
    vcls t.k N ((List.range L).map (tamp f p off v)) = some 8 ∧ (t.k + 2 ≤ L → susJ t.k N ((List.range L).map (tamp f p off v)) L = [((t.sub.getD p 0 : Nat) : Int)]) := by
  obtain ⟨h1, h2, h3⟩ := dam_facts hF hL h
  have hk1 := hF.hk
  have hN := hF.hN
  have h16 := hF.hN16
  have hp := h.hp
  obtain ⟨ds, hds⟩ : ∃ ds, (List.range L).map (tamp f p off v) = ds := ⟨_, rfl⟩
  have hdl : ds.length = L := by rw [← hds]; simp
  have hget : ∀ i (hi : i < L), ds[i]'(by rw [hdl]; exact hi) = tamp f p off v i := fun i hi => by simp [← hds]
  have hmem : ∀ x ∈ ds, ∃ i, i < L ∧ x = tamp f p off v i := fun x hx => by
    rw [← hds] at hx
    obtain ⟨i, hi, rfl⟩ := List.mem_map.1 hx
    exact ⟨i, List.mem_range.1 hi, rfl⟩
  have hix : ds.map (fun x => x.ix.toNat) = t.sub := by
    refine List.ext_getElem (by rw [List.length_map, hdl, hL]) (fun i hi1 hi2 => ?_)
    rw [List.length_map, hdl] at hi1
    rw [List.getElem_map, hget i hi1, (h1 i hi1).2, Int.toNat_natCast, getD_lt hi2]
  have hnd : (ds.map fun x => x.ix.toNat).Nodup := by rw [hix]; exact hF.nodup
  have hFld : ∀ x ∈ ds, FldOk g n (psize g t.k n) N x := fun x hx => by
    obtain ⟨i, hi, rfl⟩ := hmem x hx
    exact (h1 i hi).1
  have hGen : ∀ y ∈ ds, y.ix ≠ (tamp f p off v p).ix → Genu (psize g t.k n) (t.pay g n) y := fun y hy hne => by
    obtain ⟨i, hi, rfl⟩ := hmem y hy
    exact h2 i hi (fun e => hne (by rw [e]))
  have hbad : (tamp f p off v p).P off ≠ t.pay g n (tamp f p off v p).ix.toNat off := by
    rw [h3, (h1 p hp).2, Int.toNat_natCast]
    exact h.hv
  have hxm : tamp f p off v p ∈ ds := by rw [← hds]; exact List.mem_map.2 ⟨p, List.mem_range.2 hp, rfl⟩
  rw [hds]
  refine ⟨dam_eight hk1 h16 (by omega) hg hF.hn256 hF.byt hFld hnd (by rw [hdl]; exact hk) hxm hGen off h.hoff hbad, fun hk2 => ?_⟩
  have hsub : ∀ q, (ds.eraseIdx q).Sublist ds := fun q => List.eraseIdx_sublist ds q
  have hndq : ∀ q, ((ds.eraseIdx q).map fun x => x.ix.toNat).Nodup := fun q => List.Nodup.sublist ((hsub q).map _) hnd
  have hlq : ∀ q, q < L → (ds.eraseIdx q).length = L - 1 := fun q hq => by rw [List.length_eraseIdx, hdl, if_pos hq]
  have hmq : ∀ q, ∀ y ∈ ds.eraseIdx q, y ∈ ds := fun q y hy => (hsub q).subset hy
  have e0 : susJ t.k N ds L = if p < L then [(ds.getD p Sd.zero).ix] else [] := by
    refine susJ_one (L := L) ?_ (fun q hq hne => ?_) L (Nat.le_refl _)
    · refine genu_none hk1 (by omega) hg hF.hn256 hF.byt (fun y hy => hFld y (hmq p y hy)) (hndq p) (by rw [hlq p hp]; omega) (fun y hy => ?_)
      obtain ⟨i, hi, he⟩ := List.mem_eraseIdx_iff_getElem.1 hy
      obtain ⟨hi1, hi2⟩ := he
      rw [hdl] at hi
      rw [← hi2, hget i hi]
      exact h2 i hi hi1
    · refine dam_eight hk1 h16 (by omega) hg hF.hn256 hF.byt (fun y hy => hFld y (hmq q y hy)) (hndq q) (by rw [hlq q hq]; omega) (x := tamp f p off v p) ?_ (fun y hy hne' => hGen y (hmq q y hy) hne') off h.hoff hbad
      refine List.mem_eraseIdx_iff_getElem.2 ⟨p, by rw [hdl]; exact hp, fun e => hne e.symm, hget p hp⟩
  rw [e0, if_pos hp, getD_lt (by rw [hdl]; exact hp), hget p hp, (h1 p hp).2]

/-- Decode of a list that no rows fit. -/
theorem dec8_t {w0 w1 w5 w : World} {v : Value} {ts : List Tr} {B : Nat} {F : Nat → Prop} {t : Tr} {n N cap : Nat} {ao : Option Addr} {ss : List Sd} {e : Nat → Addr} (hT : TOut w0 w1 v ts) (ht : t ∈ ts) (hSt : St w1 w5 ts w) (h : TrOk w B F t) (hF : TrF t n N) (E : KErrs 10 w e) (hS : SdRow w ao ss) (hl : ss.length ≤ 65536) (hc : vcls t.k N ss = some 8) :
    Calls Tryd.prog 22 #[.pointer (some ⟨t.cb, 0, none⟩), .slice ao ss.length cap] w fun r w' => r = .returned (.tuple #[.slice none 0 0, errV e (some 8)]) ∧ St w1 w5 ts w' ∧ Keeps w w' := by
  have hN := hF.hN
  have h1 := decode_any NoX w F t.cb t.mb t.k t.m ao cap ss e E h.codec (hSt.tw.cache t ht) (fun b hb => False.elim hb) hS hl
  refine h1.mono ?_
  rintro r w' ⟨hM, hK, hcase⟩
  refine ⟨?_, hSt.mut hT ht hM hK, hSt.keepsMut ht hM⟩
  rw [hN] at hcase
  rcases hcase with ⟨i', hgc, hr⟩ | ⟨hG, hNo, hr⟩ | ⟨hG, ob, D, _, hD1, hD2, hD3, _⟩
  · rw [vcls_some hgc] at hc
    have e1 : i' = 8 := Option.some.inj hc
    rw [e1] at hr; exact hr
  · exact hr
  · rw [vcls_ok hG (fun hh => hh ⟨D, hD1, hD2, hD3⟩)] at hc
    cases hc
/-- Suspects of such a list. -/
theorem sus_t {w0 w1 w5 w : World} {v : Value} {ts : List Tr} {B : Nat} {F : Nat → Prop} {t : Tr} {n N cap b0 : Nat} {ss : List Sd} {e : Nat → Addr} (hT : TOut w0 w1 v ts) (ht : t ∈ ts) (hSt : St w1 w5 ts w) (h : TrOk w B F t) (hF : TrF t n N) (E : KErrs 10 w e) (hS : SdRow w (some ⟨b0, 0, none⟩) ss) (hne : 0 < ss.length) (hl : ss.length ≤ 4096) (hcap : ss.length ≤ cap) (hcap2 : cap ≤ 9223372036854775807) (hc : vcls t.k N ss = some 8) :
    Calls Tryd.prog 31 #[.pointer (some ⟨t.cb, 0, none⟩), .slice (some ⟨b0, 0, none⟩) ss.length cap] w fun r w' => ∃ sv, r = .returned (.tuple #[sv, .nilIface]) ∧ w'.ownsRow w.heap.size 3 1 sv (susJ t.k N ss ss.length).length ((sortZ (susJ t.k N ss ss.length)).map (Value.int .i64)) ∧ St w1 w5 ts w' ∧ Keeps w w' := by
  have hN := hF.hN
  have h1 := suspects_any w F t.cb t.mb t.k t.m b0 cap ss e E h.codec (hSt.tw.cache t ht) hS hne hl hcap hcap2
  refine h1.mono ?_
  rintro r w' ⟨hM, hK, hcase⟩
  rw [hN] at hcase
  rcases hcase with ⟨h2, _⟩ | ⟨i, hi, h2, _⟩ | ⟨_, sv, h3, h4⟩
  · rw [hc] at h2; cases h2
  · rw [hc] at h2
    have e1 : 8 = i := Option.some.inj h2
    omega
  · exact ⟨sv, h3, h4, hSt.mut hT ht hM hK, hSt.keepsMut ht hM⟩
end Go.Proofs.Qxb6500697aDoor
