/-
  DECODE WITHIN ONE TRIAL; A SHARD APPENDED TO COPIES.
-/
import Derived.Test.Qxb6500697aDoorKSt
import Derived.Deep.RegionLaw
namespace Go.Proofs.Qxb6500697aDoor
open Go.RowKit

/-- Decode of a list that gather refuses. -/
theorem decE_t {w0 w1 w5 w : World} {v : Value} {ts : List Tr} {B : Nat} {F : Nat → Prop} {t : Tr} {n N cap i : Nat} {ao : Option Addr} {ss : List Sd} {e : Nat → Addr} (hT : TOut w0 w1 v ts) (ht : t ∈ ts) (hSt : St w1 w5 ts w) (h : TrOk w B F t) (hF : TrF t n N) (E : KErrs 10 w e) (hS : SdRow w ao ss) (hl : ss.length ≤ 65536) (hc : gcls t.k N ss = some i) :
    Calls Tryd.prog 22 #[.pointer (some ⟨t.cb, 0, none⟩), .slice ao ss.length cap] w fun r w' => r = .returned (.tuple #[.slice none 0 0, errV e (some i)]) ∧ St w1 w5 ts w' ∧ Keeps w w' := by
  have hN := hF.hN
  have h1 := decode_any NoX w F t.cb t.mb t.k t.m ao cap ss e E h.codec (hSt.tw.cache t ht) (fun b hb => False.elim hb) hS hl
  refine h1.mono ?_
  rintro r w' ⟨hM, hK, hcase⟩
  refine ⟨?_, hSt.mut hT ht hM hK, hSt.keepsMut ht hM⟩
  rw [hN] at hcase
  rcases hcase with ⟨i', hgc, hr⟩ | ⟨hG, _⟩ | ⟨hG, _⟩
  · rw [hc] at hgc
    have e1 : i = i' := Option.some.inj hgc
    rw [e1]; exact hr
  · rw [gcls_good hG] at hc; cases hc
  · rw [gcls_good hG] at hc; cases hc

/-- Decode of k or more encoded shards. -/
theorem decOk_t {w0 w1 w5 w : World} {v : Value} {ts : List Tr} {B : Nat} {F : Nat → Prop} {t : Tr} {n N g cap : Nat} {pb po : Nat → Nat} {ao : Option Addr} {e : Nat → Addr} {ns : List Nat} (hT : TOut w0 w1 v ts) (ht : t ∈ ts) (hSt : St w1 w5 ts w) (h : TrOk w B F t) (hF : TrF t n N) (E : KErrs 10 w e) (hg : g = 1 ∨ g = 2 ∨ g = 3) (hS : SdRow w ao (t.cho ns N g n pb po)) (hnd : ns.Nodup) (hlt : ∀ i ∈ ns, i < N) (hk : t.k ≤ ns.length) :
    Calls Tryd.prog 22 #[.pointer (some ⟨t.cb, 0, none⟩), .slice ao ns.length cap] w fun r w' => ∃ ob, r = .returned (.tuple #[.slice (some ⟨ob, 0, none⟩) n n, .nilIface]) ∧ FRow w' (some ⟨ob, 0, none⟩) n (fun i => t.obs.getD i 0) ∧ St w1 w5 ts w' ∧ Keeps w w' := by
  have hn2 := hF.hn256
  have hN := hF.hN
  have h16 := hF.hN16
  have hl := sub_len hnd hlt
  have hk1 := hF.hk
  have hm1 := hF.hm
  obtain ⟨hGood, hg0, ho0, hb, hf, hp⟩ := chosen_good (ns := ns) (k := t.k) (N := N) (g := g) (n := n) (pb := pb) (po := po) (f := fun i => t.obs.getD i 0) hk1 (by omega) hg hn2 hF.byt hlt hnd hk
  have h1 := decode_any NoX w F t.cb t.mb t.k t.m ao cap (t.cho ns N g n pb po) e E h.codec (hSt.tw.cache t ht) (fun b hb => False.elim hb) hS (by rw [cho_len]; omega)
  rw [cho_len] at h1
  refine h1.mono ?_
  rintro r w' ⟨hM, hK, hcase⟩
  have h2 := hSt.mut hT ht hM hK
  rw [hN] at hcase
  rcases hcase with ⟨i, hgc, _⟩ | ⟨_, hNo, _⟩ | ⟨_, ob, D, hr, hD1, hD2, hD3, hRow, _⟩
  · rw [gcls_good hGood] at hgc; cases hgc
  · exfalso
    apply hNo
    rw [hg0, ho0, Int.toNat_natCast]
    exact ⟨_, hb, hf, hp⟩
  · rw [ho0, Int.toNat_natCast] at hr
    rw [hg0, ho0, Int.toNat_natCast] at hD1 hD2 hD3 hRow
    have hDu := fits_uniq (by omega) h16 hGood hD1 hb hD2 hf
    obtain ⟨_, ⟨rr, hrr⟩, hfn⟩ := plan_fits g t.k n hk1
    refine ⟨ob, hr, ((Row.wrow hRow hfn).frow).congr (fun p hp => ?_), h2, hSt.keepsMut ht hM⟩
    rw [col_congr (by omega) hrr hDu (Nat.lt_of_lt_of_le hp hfn)]
    have hu : 0 < punit g t.k n := by
      rcases Nat.eq_zero_or_pos (punit g t.k n) with h0 | h0
      · rw [h0, Nat.mul_zero] at hrr; rw [hrr, Nat.mul_zero] at hfn; omega
      · exact h0
    rw [col_sprd t.k (punit g t.k n) n _ p hu, if_pos hp]

/-! ### Which refusal -/
theorem cho_get (t : Tr) {ns : List Nat} {N g n : Nat} {pb po : Nat → Nat} {i : Nat} (hlt : ∀ i ∈ ns, i < N) (hi : i < ns.length) : (t.cho ns N g n pb po).getD i Sd.zero = mkSd g n (psize g t.k n) pb po (t.pay g n) (ns.getD i 0) := by
  rw [getD_lt (by rw [cho_len]; exact hi), getD_lt hi]
  have e : (t.cho ns N g n pb po)[i]'(by rw [cho_len]; exact hi) = (t.shs N g n pb po).getD ns[i] Sd.zero := by simp [Tr.cho, chosen]
  rw [e]
  exact shL_get (hlt _ (List.getElem_mem hi))

theorem cho_few {t : Tr} {n N g : Nat} {pb po : Nat → Nat} (hF : TrF t n N) (hg : g = 1 ∨ g = 2 ∨ g = 3) (hl : t.sub.length < t.k) : gcls t.k N (t.cho t.sub N g n pb po) = some 7 := by
  have hn := hF.hn256
  by_cases hne : t.cho t.sub N g n pb po = []
  · rw [gcls_two (by rw [hne]; simp) (by rw [hne]; simp)]
    exact gcls2_nil _ hne
  · have hmem : ∀ x ∈ t.cho t.sub N g n pb po, ∃ i ∈ t.sub, x = mkSd g n (psize g t.k n) pb po (t.pay g n) i := fun x hx => chosen_mem hF.slt hx
    have hg0 := g0of_all hne (g := g) (fun x hx => by obtain ⟨i, _, rfl⟩ := hmem x hx; rfl)
    have ho0 := ol0of_all hne (n := (n : Int)) (fun x hx => by obtain ⟨i, _, rfl⟩ := hmem x hx; rfl)
    rw [gcls_two (fun x hx => by
      obtain ⟨i, hi, rfl⟩ := hmem x hx
      have := hF.slt i hi
      exact ⟨hg, by show 0 ≤ ((i : Nat) : Int) ∧ ((i : Nat) : Int) < (N : Int); omega, by rw [hg0]; rfl⟩) (by rw [chosen_ix hF.slt]; exact hF.nodup)]
    refine gcls2_few hne (fun hs => ?_) (by rw [cho_len]; exact hl)
    rcases hs with h1 | h1 | ⟨x, hx, h1⟩
    · omega
    · omega
    · obtain ⟨i, hi, rfl⟩ := hmem x hx
      rw [hg0, ho0, Int.toNat_natCast] at h1
      rcases h1 with h1 | h1 <;> exact h1 rfl

theorem g0of_app {l : List Sd} (x : Sd) (h : l ≠ []) : g0of (l ++ [x]) = g0of l := by
  cases l with
  | nil => exact absurd rfl h
  | cons y l => rfl

/-- Copies of the list ss. -/
def CpsOf (f : Nat → Sd) (ss : List Sd) : Prop := ∀ i, i < ss.length → ∃ pa pc, f i = (ss.getD i Sd.zero).with pa pc
theorem CpRel.cpsOf {w wr : World} {ss : List Sd} {f : Nat → Sd} (h : CpRel w wr ss f ss.length) : CpsOf f ss := fun i hi => by
  obtain ⟨pa, pc, h1, _⟩ := h.eq i hi
  exact ⟨pa, pc, h1⟩
theorem cps_len (f : Nat → Sd) (L : Nat) : (cps f L).length = L := by simp [cps]
theorem cps_mem {t : Tr} {n N g : Nat} {pb po : Nat → Nat} {f : Nat → Sd} (hF : TrF t n N) (hc : CpsOf f (t.cho t.sub N g n pb po)) : ∀ x ∈ cps f t.sub.length, ∃ i, i < t.sub.length ∧ x = f i ∧ x.g = g ∧ x.ix = ((t.sub.getD i 0 : Nat) : Int) ∧ t.sub.getD i 0 < N := by
  intro x hx
  obtain ⟨i, hi, rfl⟩ := List.mem_map.1 hx
  have hi' := List.mem_range.1 hi
  obtain ⟨pa, pc, he⟩ := hc i (by rw [cho_len]; exact hi')
  rw [cho_get t hF.slt hi'] at he
  exact ⟨i, hi', rfl, by rw [he]; rfl, by rw [he]; rfl, hF.slt _ (getD_mem hi')⟩

theorem cho_dup {t : Tr} {n N g p : Nat} {pb po : Nat → Nat} {f : Nat → Sd} (hF : TrF t n N) (hg : g = 1 ∨ g = 2 ∨ g = 3) (hc : CpsOf f (t.cho t.sub N g n pb po)) (hp : p < t.sub.length) : gcls t.k N (cps f t.sub.length ++ [(t.cho t.sub N g n pb po).getD p Sd.zero]) = some 5 := by
  have hm := cps_mem hF hc
  have hx := cho_get t (g := g) (n := n) (pb := pb) (po := po) hF.slt hp
  have hpN := hF.slt _ (getD_mem (d := 0) hp)
  have hall : ∀ x ∈ cps f t.sub.length ++ [(t.cho t.sub N g n pb po).getD p Sd.zero], x.g = g ∧ 0 ≤ x.ix ∧ x.ix < (N : Int) := by
    intro x hx'
    rcases List.mem_append.1 hx' with h | h
    · obtain ⟨i, hi, _, h2, h3, h4⟩ := hm x h
      exact ⟨h2, by omega, by omega⟩
    · have : x = _ := List.mem_singleton.1 h
      rw [this, hx]
      exact ⟨rfl, by show 0 ≤ ((t.sub.getD p 0 : Nat) : Int); omega, by show ((t.sub.getD p 0 : Nat) : Int) < (N : Int); omega⟩
  have hg0 := g0of_all (g := g) (ss := cps f t.sub.length ++ [(t.cho t.sub N g n pb po).getD p Sd.zero]) (by simp) (fun x hx => (hall x hx).1)
  refine gcls_dup (fun x hx => ⟨by rw [(hall x hx).1]; exact hg, (hall x hx).2, by rw [hg0]; exact (hall x hx).1⟩) (fun hnd => ?_)
  rw [List.map_append, List.nodup_append] at hnd
  obtain ⟨pa, pc, he⟩ := hc p (by rw [cho_len]; exact hp)
  refine hnd.2.2 (f p).ix.toNat (List.mem_map.2 ⟨f p, List.mem_map.2 ⟨p, List.mem_range.2 hp, rfl⟩, rfl⟩) _ (List.mem_map.2 ⟨_, List.mem_singleton.2 rfl, rfl⟩) ?_
  rw [he]; rfl

theorem cho_mix {t : Tr} {n N g g' i : Nat} {pb po pb' po' : Nat → Nat} {f : Nat → Sd} (hF : TrF t n N) (hg : g = 1 ∨ g = 2 ∨ g = 3) (hg' : g' = 1 ∨ g' = 2 ∨ g' = 3) (hne : g' ≠ g) (hc : CpsOf f (t.cho t.sub N g n pb po)) (h0 : 0 < t.sub.length) (hi : i < N) : gcls t.k N (cps f t.sub.length ++ [(t.shs N g' n pb' po').getD i Sd.zero]) = some 4 := by
  have hm := cps_mem hF hc
  have hx : (t.shs N g' n pb' po').getD i Sd.zero = mkSd g' n (psize g' t.k n) pb' po' (t.pay g' n) i := shL_get hi
  have hcn : cps f t.sub.length ≠ [] := fun h => by
    have := cps_len f t.sub.length
    rw [h] at this
    simp at this
    omega
  have hg0 : g0of (cps f t.sub.length ++ [(t.shs N g' n pb' po').getD i Sd.zero]) = g := by
    rw [g0of_app _ hcn]
    exact g0of_all hcn (fun x hx => by obtain ⟨_, _, _, h2, _⟩ := hm x hx; exact h2)
  refine gcls_mix (fun x hx' => ?_) ⟨_, List.mem_append.2 (.inr (List.mem_singleton.2 rfl)), ?_⟩
  · rcases List.mem_append.1 hx' with h | h
    · obtain ⟨j, hj, _, h2, h3, h4⟩ := hm x h
      exact ⟨by rw [h2]; exact hg, by omega, by omega⟩
    · have : x = _ := List.mem_singleton.1 h
      rw [this, hx]
      exact ⟨hg', by show 0 ≤ ((i : Nat) : Int); omega, by show ((i : Nat) : Int) < (N : Int); omega⟩
  · rw [hg0, hx]; exact hne

/-! ### append within a drawn region -/
theorem SOut.mono {B B' : Nat} {w : World} {v : Value} {ss : List Sd} (h : SOut B w v ss) (hB : B' ≤ B) : SOut B' w v ss := by
  refine ⟨⟨h.own.1, ?_⟩, h.ok⟩
  rcases h.own.2 with h1 | ⟨g, cap, cur, hv, hb, hr⟩
  · exact .inl h1
  · exact .inr ⟨g, cap, cur, hv, Nat.le_trans hB hb, hr⟩

theorem step_append_sd (W : World) {ops : Array Oper} {o : Oper} {a : Act} {K : Act → World → Prop} {Q : Exit → Act → World → Prop} {E : Prop} (hgd : o.guard = none) (s x : Operand)
    (ho : o.op = .call { callee := .builtin .append, args := #[s, x], argTypes := #[36, 36] })
    (B : Nat) (v : Value) (ss : List Sd) (hs : a.eval s = v) (hT : SOut B W v ss) (hB : B ≤ W.heap.size) (hlen : ss.length ≤ 65536)
    (g c : Nat) (hx : a.eval x = .slice (some ⟨g, 0, none⟩) 1 c) (y : Sd) (hblk : W.heap[g]? = some (.cells #[.int .u8 y.g, .int .i64 y.ix, .int .i64 y.ol, .slice y.pa y.pl y.pc] 60 (0, 0)))
    (hok : SdOk W y) (hfar : 0 < y.pl → ∀ b o, y.pa = some ⟨b, o, none⟩ → v.ownBlock ≠ some b)
    (h : ∀ v' w', SOut B w' v' (ss ++ [y]) → W.grownBy w' v.ownBlock → K (a.put o.dst v') w') :
    if Region.wanted o (yielded ops a.tmps) = true then Oper.wp Tryd.prog o a W K Q else E := by
  have hw : Region.wanted o (yielded ops a.tmps) = true := by simp [Region.wanted, hgd]
  rw [if_pos hw]
  obtain ⟨i0, hi, hzz⟩ := Option.map_eq_some_iff.1 Tryd.info60
  simp only [Prod.mk.injEq] at hzz
  obtain ⟨hz0, hz1, hz2⟩ := hzz
  obtain ⟨v', w', hrun, h2, h3, _, h5⟩ := run_append_own_at (P := Tryd.prog) W B 36 o.type 60 i0 _ 4 48 Tryd.underlying36 hi hz0 hz1 hz2 rfl (by decide) v ss.length _ hT.own ⟨g, 0, none⟩ 1 c y.cells (by rfl)
    (by
      intro j y' hj
      have e : (⟨g, 0, none⟩ : Addr).add j = ⟨g, 0 + j, none⟩ := by unfold Addr.add; split <;> simp_all
      rw [e]
      simp only [World.cell?, hblk, Nat.zero_add]
      simpa [Sd.cells] using hj) (by
      intro u hu
      simp [Sd.cells] at hu
      rcases hu with rfl | rfl | rfl | rfl <;> rfl) (by unfold maxLen; omega) (by omega) hB
  unfold Oper.wp
  simp [execOp, ho, resolve, invoke, builtin, hs, hx, hrun, Result.andThen]
  exact h v' w' (hT.push hok hfar h2 h3 h5) h3

/-- Copies in any world behind wz, as a slice of one's own. -/
theorem copies_own {wz : World} {ao : Option Addr} {cap L : Nat} {ss : List Sd} (hS : SdRow wz ao ss) (hL : ss.length = L) (hl : L ≤ 4096) (hp : ∀ s ∈ ss, s.pl ≤ 140737488355328) (V : World) (hV : Below wz.heap.size wz V) :
    Calls Tryd.prog 21 #[.slice ao L cap] V fun e w' => ∃ H f, e = .returned (.slice (some ⟨H, 0, none⟩) L L) ∧ wz.heap.size ≤ H ∧ SOut wz.heap.size w' (.slice (some ⟨H, 0, none⟩) L L) (cps f L) ∧ CpsOf f ss ∧ Below V.heap.size V w' ∧ Below wz.heap.size wz w' := by
  have hSV := hS.keeps (Below.keeps hV)
  subst hL
  refine (copies_any V ao cap ss hSV hl hp).mono ?_
  rintro e w' ⟨rfl, f, hC⟩
  exact ⟨_, f, rfl, hV.size, (hC.sout hSV (by omega)).mono hV.size, hC.cpsOf, hC.bel, hV.trans (hC.bel.mono hV.size)⟩

/-- What append needs: copies as a slice of one's own, one shard in a block g. -/
structure AppR (wz W : World) (H L : Nat) (f : Nat → Sd) (x : Sd) (g : Nat) : Prop where
  so : SOut wz.heap.size W (.slice (some ⟨H, 0, none⟩) L L) (cps f L)
  sz : wz.heap.size ≤ W.heap.size
  len : L ≤ 65535
  blk : W.heap[g]? = some (.cells #[.int .u8 x.g, .int .i64 x.ix, .int .i64 x.ol, .slice x.pa x.pl x.pc] 60 (0, 0))
  ok : SdOk wz x
  bel : Below wz.heap.size wz W
theorem AppR.mk1 {wz w : World} {H L : Nat} {f : Nat → Sd} {x : Sd} (h1 : SOut wz.heap.size w (.slice (some ⟨H, 0, none⟩) L L) (cps f L)) (h2 : Below wz.heap.size wz w) (hl : L ≤ 65535) (hx : SdOk wz x) : AppR wz (w.alloc (.cells #[.int .u8 x.g, .int .i64 x.ix, .int .i64 x.ol, .slice x.pa x.pl x.pc] 60)) H L f x w.heap.size :=
  ⟨h1.below ((Below.refl _ _).alloc (Nat.le_refl _) _), (h2.alloc h2.size _).size, hl, heap_alloc_new w _, hx, h2.alloc h2.size _⟩
theorem AppR.mk1d {wz w : World} {H L : Nat} {f : Nat → Sd} {x : Sd} (h1 : SOut wz.heap.size w (.slice (some ⟨H, 0, none⟩) L L) (cps f L)) (h2 : Below wz.heap.size wz w) (hl : L ≤ 65535) (hx : SdOk wz x) : AppR wz (w.alloc (.cells #[.int .u8 x.g, .int .i64 x.ix, .int .i64 x.ol, .slice x.pa x.pl x.pc] 60)).drew H L f x w.heap.size :=
  ⟨h1.below ((Below.refl _ _).alloc (Nat.le_refl _) _).drew, (h2.alloc h2.size _).drew.size, hl, heap_alloc_drew w _, hx, (h2.alloc h2.size _).drew⟩
theorem AppR.mk2 {wz V w : World} {H L : Nat} {f : Nat → Sd} {x : Sd} (h1 : SOut wz.heap.size w (.slice (some ⟨H, 0, none⟩) L L) (cps f L)) (h2 : Below wz.heap.size wz w) (hl : L ≤ 65535) (hx : SdOk wz x) (h3 : Below V.heap.size V w) (g : Nat) (hg : V.heap[g]? = some (.cells #[.int .u8 x.g, .int .i64 x.ix, .int .i64 x.ol, .slice x.pa x.pl x.pc] 60 (0, 0))) : AppR wz w H L f x g :=
  ⟨h1, h2.size, hl, (h3.block g (heap_lt hg)).trans hg, hx, h2⟩
theorem step_append_ap {wz W : World} {H L : Nat} {f : Nat → Sd} {x : Sd} {g : Nat} (hA : AppR wz W H L f x g) {ops : Array Oper} {o : Oper} {a : Act} {K : Act → World → Prop} {Q : Exit → Act → World → Prop} {E : Prop} (hgd : o.guard = none) (s y : Operand)
    (ho : o.op = .call { callee := .builtin .append, args := #[s, y], argTypes := #[36, 36] })
    (hs : a.eval s = .slice (some ⟨H, 0, none⟩) L L) (hx : a.eval y = .slice (some ⟨g, 0, none⟩) 1 1)
    (h : ∀ ao cap w', SdRow w' ao (cps f L ++ [x]) → Below wz.heap.size wz w' → K (a.put o.dst (.slice ao (L + 1) cap)) w') :
    if Region.wanted o (yielded ops a.tmps) = true then Oper.wp Tryd.prog o a W K Q else E := by
  have hol : ∀ k, (Value.slice (some ⟨H, 0, none⟩) L L).ownBlock = some k → wz.heap.size ≤ k := fun k hk => (hA.so.own.lt k hk).1
  have hlen := hA.len
  refine step_append_sd W hgd s y ho wz.heap.size _ (cps f L) hs hA.so hA.sz (by rw [cps_len]; omega) g 1 hx x hA.blk (hA.ok.keeps (Below.keeps hA.bel)) (fun h0 b o he hq => ?_) (fun v' w' h1 h2 => ?_)
  · have h1 := hol b hq
    have h2 := hA.ok.pay.at_lt h0 he
    omega
  · obtain ⟨ao, cap, rfl, hr⟩ := h1.form
    have e : (cps f L ++ [x]).length = L + 1 := by rw [List.length_append, cps_len]; rfl
    rw [e]
    exact h ao cap w' hr (hA.bel.grown h2 hA.sz hol)

/-- Decode of the shards handed in: the object, or too few. -/
theorem dec_t {w0 w1 w5 w : World} {v : Value} {ts : List Tr} {B : Nat} {F : Nat → Prop} {t : Tr} {n N g L cap : Nat} {pb po : Nat → Nat} {ao : Option Addr} {e : Nat → Addr} (hT : TOut w0 w1 v ts) (ht : t ∈ ts) (hSt : St w1 w5 ts w) (h : TrOk w B F t) (hF : TrF t n N) (E : KErrs 10 w e) (hg : g = 1 ∨ g = 2 ∨ g = 3) (hS : SdRow w ao (t.cho t.sub N g n pb po)) (hL : t.sub.length = L) :
    Calls Tryd.prog 22 #[.pointer (some ⟨t.cb, 0, none⟩), .slice ao L cap] w fun r w' => ∃ ov ev, r = .returned (.tuple #[ov, ev]) ∧ St w1 w5 ts w' ∧ Keeps w w' ∧ ((t.k ≤ L ∧ ev = .nilIface ∧ ∃ ob, ov = .slice (some ⟨ob, 0, none⟩) n n ∧ FRow w' (some ⟨ob, 0, none⟩) n (fun i => t.obs.getD i 0)) ∨ (L < t.k ∧ ev = errV e (some 7) ∧ ov = .slice none 0 0)) := by
  have h16 := hF.hN16
  have hsl := hF.slen
  rcases Nat.lt_or_ge L t.k with hlt | hge
  · have h1 := decE_t (cap := cap) hT ht hSt h hF E hS (by rw [cho_len]; omega) (cho_few hF hg (by rw [hL]; exact hlt))
    rw [cho_len, hL] at h1
    refine h1.mono ?_
    rintro r w' ⟨rfl, h2, h3⟩
    exact ⟨_, _, rfl, h2, h3, .inr ⟨hlt, rfl, rfl⟩⟩
  · have h1 := decOk_t (cap := cap) hT ht hSt h hF E hg hS hF.nodup hF.slt (by rw [hL]; exact hge)
    rw [hL] at h1
    refine h1.mono ?_
    rintro r w' ⟨ob, rfl, h2, h3, h4⟩
    exact ⟨_, _, rfl, h3, h4, .inl ⟨hge, rfl, ob, rfl, h2⟩⟩
end Go.Proofs.Qxb6500697aDoor
