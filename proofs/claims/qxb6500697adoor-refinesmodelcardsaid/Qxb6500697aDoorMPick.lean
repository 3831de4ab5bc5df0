/-
  picked, OF THE BENCH AND OF THE MODEL.
-/
import Derived.Test.Qxb6500697aDoorKAppL
import Derived.Test.Qxb6500697aDoorMAbs
namespace Go.Proofs.Qxb6500697aDoor
open Go.RowKit

/-- The tray's shards at the places. -/
def pk (ps : List Int) (ss : List Sd) : List Sd := if ss = [] then [] else ps.map fun p => ss.getD (place p ss.length) Sd.zero
theorem pk_nil (ps : List Int) {ss : List Sd} (h : ss.length = 0) : pk ps ss = [] := by unfold pk; rw [if_pos (List.length_eq_zero_iff.1 h)]
theorem pk_take {ps : List Int} {ss : List Sd} {j : Nat} (h : 0 < ss.length) (hj : j < ps.length) : pk (ps.take (j + 1)) ss = pk (ps.take j) ss ++ [ss.getD (place (ps.getD j 0) ss.length) Sd.zero] := by
  have hne : ss ≠ [] := fun e => by rw [e] at h; simp at h
  unfold pk
  rw [if_neg hne, if_neg hne, List.take_succ_eq_append_getElem hj, List.map_append, List.map_singleton, getD_lt hj]
theorem pk_len {ps : List Int} {ss : List Sd} : (pk ps ss).length ≤ ps.length := by
  unfold pk
  split
  · simp
  · simp
theorem pk_mem {ps : List Int} {ss : List Sd} {x : Sd} (h : x ∈ pk ps ss) : x ∈ ss := by
  unfold pk at h
  split at h
  · cases h
  · rename_i hne
    obtain ⟨p, _, rfl⟩ := List.mem_map.1 h
    exact getD_mem (place_lt _ _ (List.length_pos_iff.2 hne))
theorem getD_int {l : List Int} {i : Nat} (h : i < l.length) : l.getD i 0 = l[i] := by simp [h]
theorem SL.pk {ss ts : List Sd} (h : SL ss ts) (ps : List Int) : SL (pk ps ss) (pk ps ts) := by
  have hl := h.len
  unfold Go.Proofs.Qxb6500697aDoor.pk
  by_cases e : ss = []
  · have e' : ts = [] := by rw [e] at hl; exact List.length_eq_zero_iff.1 hl.symm
    rw [if_pos e, if_pos e']; exact SL.nil
  · have e' : ts ≠ [] := fun e' => e (by rw [e'] at hl; exact List.length_eq_zero_iff.1 hl)
    rw [if_neg e, if_neg e']
    refine ⟨by simp, fun j hj => ?_⟩
    simp only [List.length_map] at hj
    rw [getD_lt (by simpa using hj), getD_lt (by simpa using hj), List.getElem_map, List.getElem_map, ← hl]
    exact h.eq _ (place_lt _ _ (List.length_pos_iff.2 e))

set_option maxRecDepth 100000 in
set_option maxHeartbeats 2000000 in
theorem picked_any (w : World) (bb : Nat) (ta : Option Addr) (tc : Nat) (ss : List Sd) (pa : Option Addr) (pc : Nat) (ps : List Int) (hbb : w.cell? ⟨bb, 1, none⟩ = some (.slice ta ss.length tc)) (hS : SdRow w ta ss) (hl : ss.length ≤ 64) (hp : IRow w pa ps) (hpl : ps.length ≤ 65536) :
    Calls Tryd.prog 39 #[.pointer (some ⟨bb, 0, none⟩), .slice pa ps.length pc] w fun r w' => ∃ v, r = .returned v ∧ SOut w.heap.size w' v (pk ps ss) ∧ Below w.heap.size w w' := by
  have HS : Hid (SdRow w ta ss) := hS
  have HP : Hid (IRow w pa ps) := hp
  obtain ⟨n, hn⟩ : ∃ n, ps.length = n := ⟨_, rfl⟩
  have Hn : Hid (ps.length = n) := hn
  obtain ⟨L, hL⟩ : ∃ L, ss.length = L := ⟨_, rfl⟩
  have HL : Hid (ss.length = L) := hL
  rw [hn] at hpl ⊢
  rw [hL] at hl hbb
  clear hS hp hn hL
  go_enter Tryd.func39, Tryd.ntmps39
  go_wp2
  go_loopw [5, 10] (fun uv i wr => ∃ (j : Nat) (v : Value), j ≤ n ∧ i = .int .i64 j ∧ uv = v ∧ SOut w.heap.size wr v (pk (ps.take j) ss) ∧ Below w.heap.size w wr) (fun _ i _ => n - (intOf i).toNat)
  case atStart => exact ⟨0, _, Nat.zero_le _, rfl, rfl, by
    have : pk (ps.take 0) ss = [] := by unfold pk; split <;> simp
    rw [this]; exact SOut.nil _ _, Below.refl _ _⟩
  case round =>
    obtain ⟨j, v5, hj, rfl, hv5, hO, hb⟩ := hrel
    have hv5 := hv5.symm
    subst hv5
    have c1 := Below.keeps hb _ _ _ hbb
    have HO : Hid (SOut w.heap.size wr v5 (pk (ps.take j) ss)) := hO
    have HB : Hid (Below w.heap.size w wr) := hb
    by_cases hlt : j < n
    · have hlt' : (j : Int) < (n : Int) := by omega
      have hne : ps ≠ [] := fun e => by have := Hn.out; rw [e] at this; simp at this; omega
      obtain ⟨pb, po, rfl, hpc⟩ := (HP.out.below hb).row hne
      have cp := hpc j (by rw [Hn.out]; exact hlt)
      have hwf := HP.out.wf (ps.getD j 0) (getD_mem (by rw [Hn.out]; exact hlt))
      obtain ⟨z, hz⟩ : ∃ z, ps.getD j 0 = z := ⟨_, rfl⟩
      rw [hz] at cp hwf
      obtain ⟨hz1, hz2⟩ := hwf
      by_cases hL0 : L = 0
      · have hL0' : ¬ (0 : Int) < (L : Int) := by omega
        have HF : Hid (SOut w.heap.size wr v5 (pk (ps.take (j + 1)) ss)) := by
          have h := HO.out
          rw [pk_nil _ (by rw [HL.out]; exact hL0)] at h ⊢
          exact h
        clear hO hb hpc hne hz
        go_wp2
        go_roundw
        case rel => exact ⟨j + 1, _, by omega, by go_num, rfl, HF.out, HB.out⟩
        case measure => simp [intOf]; omega
      · have hL1 : 0 < L := by omega
        have hL0' : (0 : Int) < (L : Int) := by omega
        have hps := place_lt z L hL1
        have HPl : Hid (∀ V, Calls Tryd.prog 27 #[.int .i64 z, .int .i64 (L : Int)] V fun r w' => r = .returned (.int .i64 ((place z L : Nat) : Int)) ∧ w' = V) := fun V => place_any z L V hL1 (by omega) hz1 hz2
        obtain ⟨q, hq⟩ : ∃ q, place z L = q := ⟨_, rfl⟩
        rw [hq] at hps HPl
        have hqs : q < ss.length := by rw [HL.out]; exact hps
        have hqL' : (q : Int) < (L : Int) := by omega
        obtain ⟨tb, rfl, e0, e1, e2, e3⟩ := HS.out.at_ hqs
        have hxok := (HS.out.keeps (Below.keeps hb)).ok ss[q] (List.getElem_mem hqs)
        have hxw := HS.out.ok ss[q] (List.getElem_mem hqs)
        obtain ⟨x, hx⟩ : ∃ x, ss[q] = x := ⟨_, rfl⟩
        rw [hx] at e0 e1 e2 e3 hxok hxw
        have HXok : Hid (SdOk wr x) := hxok
        have HPk : Hid (pk (ps.take (j + 1)) ss = pk (ps.take j) ss ++ [x]) := by
          show pk (ps.take (j + 1)) ss = pk (ps.take j) ss ++ [x]
          rw [pk_take (by omega) (by rw [Hn.out]; exact hlt), hz, HL.out, hq, getD_lt hqs, hx]
        have HFar : Hid (0 < x.pl → ∀ b o, x.pa = some ⟨b, o, none⟩ → v5.ownBlock ≠ some b) := fun h0 b o he e => by
          have h1 := (hO.own.lt b e).1
          have h2 := hxw.pay.at_lt h0 he
          omega
        have HLk : Hid ((pk (ps.take j) ss).length ≤ 65536) := by
          have h1 := pk_len (ps := ps.take j) (ss := ss)
          have h2 : (ps.take j).length ≤ ps.length := by simp; omega
          have h3 := Hn.out
          show (pk (ps.take j) ss).length ≤ 65536
          omega
        clear hO hb hpc hne hz hq hx hxok hxw
        have HKd : Hid (∀ V, Below w.heap.size w V → V.cell? ⟨bb, 1, none⟩ = some (.slice (some ⟨tb, 0, none⟩) L tc) ∧ V.cell? ⟨tb, q * 4, none⟩ = some (.int .u8 (x.g : Int)) ∧ V.cell? ⟨tb, q * 4 + 1, none⟩ = some (.int .i64 x.ix) ∧ V.cell? ⟨tb, q * 4 + 2, none⟩ = some (.int .i64 x.ol) ∧ V.cell? ⟨tb, q * 4 + 3, none⟩ = some (.slice x.pa x.pl x.pc)) := fun V hV => ⟨Below.keeps hV _ _ _ hbb, Below.keeps hV _ _ _ e0, Below.keeps hV _ _ _ e1, Below.keeps hV _ _ _ e2, Below.keeps hV _ _ _ e3⟩
        have HBd : Hid (Below w.heap.size w wr.drew ∧ ∀ o, Below w.heap.size w (wr.alloc o).drew) := ⟨HB.out.drew, fun o => (HB.out.alloc HB.out.size o).drew⟩
        have HGr : Hid (∀ o w9, World.grownBy (wr.alloc o).drew w9 v5.ownBlock → Below w.heap.size w w9) := fun o w9 hg => (HB.out.alloc HB.out.size o).drew.grown hg (HB.out.alloc HB.out.size o).drew.size (fun k hk => (HO.out.own.lt k hk).1)
        have HAp : Hid (AppS w.heap.size (wr.alloc (.cells #[.int .u8 x.g, .int .i64 x.ix, .int .i64 x.ol, .slice x.pa x.pl x.pc] 60)).drew v5 (pk (ps.take j) ss) x wr.heap.size) :=
          ⟨HO.out.below ((Below.refl _ _).alloc (Nat.le_refl _) _).drew, (HBd.out.2 _).size, HLk.out, heap_alloc_drew wr _, HXok.out.keeps (Below.keeps ((Below.refl _ _).alloc (Nat.le_refl _) _).drew), HFar.out⟩
        clear e0 e1 e2 e3
        go_upto_region 6 with fail
        clear cp hbb
        go_region_held3 (fun w' => w'.cell? ⟨bb, 1, none⟩ = some (.slice (some ⟨tb, 0, none⟩) L tc) ∧ w'.cell? ⟨tb, q * 4, none⟩ = some (.int .u8 (x.g : Int)) ∧ w'.cell? ⟨tb, q * 4 + 1, none⟩ = some (.int .i64 x.ix) ∧ w'.cell? ⟨tb, q * 4 + 2, none⟩ = some (.int .i64 x.ol) ∧ w'.cell? ⟨tb, q * 4 + 3, none⟩ = some (.slice x.pa x.pl x.pc))
          (first | with_reducible exact HKd.out _ HBd.out.1 | with_reducible exact HKd.out _ (HBd.out.2 _) | with_reducible exact HKd.out _ G2.out)
          (first
          | (go_at_call 27; refine (HPl.out _).mono ?_; rintro r w9 ⟨rfl, hw⟩; rw [hw]; clear hw w9)
          | ((with_reducible refine step_append_lits HAp.out ?_ ?_ ?_); rfl; rfl; intro v' w9 g1 g2; have G1 : Hid (SOut w.heap.size w9 v' (pk (ps.take j) ss ++ [x])) := g1; have G2 : Hid (Below w.heap.size w w9) := HGr.out _ _ g2; clear g1 g2))
        all_goals
          go_wp2
          go_roundw
          case rel => exact ⟨j + 1, _, by omega, by go_num, rfl, by rw [HPk.out]; exact G1.out, G2.out⟩
          case measure => simp [intOf]; omega
    · have hlt' : ¬ (j : Int) < (n : Int) := by omega
      have HF : Hid (SOut w.heap.size wr v5 (pk ps ss)) := by
        have h := HO.out
        rw [List.take_of_length_le (by have := Hn.out; omega)] at h
        exact h
      clear hO hb
      go_wp2
      go_ret
      exact ⟨_, rfl, HF.out, HB.out⟩

/-- What the model's picked answers. -/
def PkPost (w : World) (ss : List Sd) (ps : List Int) (r : Ending) (w' : World) : Prop := ∃ v ts, r = .returned v ∧ SOut w.heap.size w' v ts ∧ SL (pk ps ss) ts ∧ Below w.heap.size w w'
theorem Sd.with_same (x : Sd) (pa : Option Addr) (pc : Nat) : x.same (x.with pa pc) := ⟨rfl, rfl, rfl, rfl, fun _ _ => rfl⟩

set_option maxRecDepth 100000 in
set_option maxHeartbeats 2000000 in
theorem mpicked_any (w : World) (sb : Nat) (ta : Option Addr) (tc : Nat) (ss : List Sd) (pa : Option Addr) (pc : Nat) (ps : List Int) (hbb : w.cell? ⟨sb, 2, none⟩ = some (.slice ta ss.length tc)) (hS : SdRow w ta ss) (hl : ss.length ≤ 64) (hpy : ∀ s ∈ ss, s.pl ≤ 140737488355328) (hp : IRow w pa ps) (hpl : ps.length ≤ 65536) :
    Calls Tryd.prog 46 #[.pointer (some ⟨sb, 0, none⟩), .slice pa ps.length pc] w (PkPost w ss ps) := by
  have HS : Hid (SdRow w ta ss) := hS
  have HP : Hid (IRow w pa ps) := hp
  have HPy : Hid (∀ s ∈ ss, s.pl ≤ 140737488355328) := hpy
  obtain ⟨n, hn⟩ : ∃ n, ps.length = n := ⟨_, rfl⟩
  have Hn : Hid (ps.length = n) := hn
  obtain ⟨L, hL⟩ : ∃ L, ss.length = L := ⟨_, rfl⟩
  have HL : Hid (ss.length = L) := hL
  rw [hn] at hpl ⊢
  rw [hL] at hl hbb
  clear hS hp hn hL hpy
  go_enter Tryd.func46, Tryd.ntmps46
  go_wp2
  go_loopw [5, 10] (fun uv i wr => ∃ (j : Nat) (v : Value) (ts : List Sd), j ≤ n ∧ i = .int .i64 j ∧ uv = v ∧ SOut w.heap.size wr v ts ∧ SL (pk (ps.take j) ss) ts ∧ Below w.heap.size w wr) (fun _ i _ => n - (intOf i).toNat)
  case atStart => exact ⟨0, _, [], Nat.zero_le _, rfl, rfl, SOut.nil _ _, by
    have : pk (ps.take 0) ss = [] := by unfold pk; split <;> simp
    rw [this]; exact SL.nil, Below.refl _ _⟩
  case round =>
    obtain ⟨j, v5, ts, hj, rfl, hv5, hO, hsl, hb⟩ := hrel
    have hv5 := hv5.symm
    subst hv5
    have c1 := Below.keeps hb _ _ _ hbb
    have HO : Hid (SOut w.heap.size wr v5 ts) := hO
    have HSl : Hid (SL (pk (ps.take j) ss) ts) := hsl
    have HB : Hid (Below w.heap.size w wr) := hb
    by_cases hlt : j < n
    · have hlt' : (j : Int) < (n : Int) := by omega
      have hne : ps ≠ [] := fun e => by have := Hn.out; rw [e] at this; simp at this; omega
      obtain ⟨pb, po, rfl, hpc⟩ := (HP.out.below hb).row hne
      have cp := hpc j (by rw [Hn.out]; exact hlt)
      have hwf := HP.out.wf (ps.getD j 0) (getD_mem (by rw [Hn.out]; exact hlt))
      obtain ⟨z, hz⟩ : ∃ z, ps.getD j 0 = z := ⟨_, rfl⟩
      rw [hz] at cp hwf
      obtain ⟨hz1, hz2⟩ := hwf
      by_cases hL0 : L = 0
      · have hL0' : ¬ (0 : Int) < (L : Int) := by omega
        have HF : Hid (SL (pk (ps.take (j + 1)) ss) ts) := by
          have h := HSl.out
          rw [pk_nil _ (by rw [HL.out]; exact hL0)] at h ⊢
          exact h
        clear hO hb hpc hne hz hsl
        go_wp2
        go_roundw
        case rel => exact ⟨j + 1, _, ts, by omega, by go_num, rfl, HO.out, HF.out, HB.out⟩
        case measure => simp [intOf]; omega
      · have hL1 : 0 < L := by omega
        have hL0' : (0 : Int) < (L : Int) := by omega
        have hps := place_lt z L hL1
        have HPl : Hid (∀ V, Calls Tryd.prog 27 #[.int .i64 z, .int .i64 (L : Int)] V fun r w' => r = .returned (.int .i64 ((place z L : Nat) : Int)) ∧ w' = V) := fun V => place_any z L V hL1 (by omega) hz1 hz2
        obtain ⟨q, hq⟩ : ∃ q, place z L = q := ⟨_, rfl⟩
        rw [hq] at hps HPl
        have hqs : q < ss.length := by rw [HL.out]; exact hps
        have hqL' : (q : Int) < (L : Int) := by omega
        obtain ⟨tb, rfl, e0, e1, e2, e3⟩ := HS.out.at_ hqs
        have hxok := (HS.out.keeps (Below.keeps hb)).ok ss[q] (List.getElem_mem hqs)
        have hxp := HPy.out ss[q] (List.getElem_mem hqs)
        obtain ⟨x, hx⟩ : ∃ x, ss[q] = x := ⟨_, rfl⟩
        rw [hx] at e0 e1 e2 e3 hxok hxp
        have HPk : Hid (pk (ps.take (j + 1)) ss = pk (ps.take j) ss ++ [x]) := by
          show pk (ps.take (j + 1)) ss = pk (ps.take j) ss ++ [x]
          rw [pk_take (by omega) (by rw [Hn.out]; exact hlt), hz, HL.out, hq, getD_lt hqs, hx]
        have hlk : ts.length ≤ 65536 := by
          have h1 := pk_len (ps := ps.take j) (ss := ss)
          have h2 : (ps.take j).length ≤ ps.length := by simp; omega
          have h3 := Hn.out
          have h4 := hsl.len
          omega
        have HCl : Hid (Calls Tryd.prog 52 #[.agg #[.int .u8 x.g, .int .i64 x.ix, .int .i64 x.ol, .slice x.pa x.pl x.pc]] wr.drew fun e w' => ∃ pa pc, e = .returned (.agg #[.int .u8 x.g, .int .i64 x.ix, .int .i64 x.ol, .slice pa x.pl pc]) ∧ Below w.heap.size w w' ∧
            AppS w.heap.size (w'.alloc (.cells #[.int .u8 x.g, .int .i64 x.ix, .int .i64 x.ol, .slice pa x.pl pc] 60)) v5 ts (x.with pa pc) w'.heap.size) := by
          refine (sclone_any x wr.drew (hxok.keeps (Below.keeps (Below.refl _ _).drew)) hxp).mono ?_
          rintro e w' ⟨hb', pa, pc, h1, h2, h3, h4⟩
          have hbr : Below wr.heap.size wr w' := (Below.refl _ _).drew.trans hb'
          have hbw : Below w.heap.size w w' := hb.trans (hbr.mono hb.size)
          have ha : Below w'.heap.size w' (w'.alloc (.cells #[.int .u8 x.g, .int .i64 x.ix, .int .i64 x.ol, .slice pa x.pl pc] 60)) := (Below.refl _ _).alloc (Nat.le_refl _) _
          refine ⟨pa, pc, h1, hbw, (hO.below hbr).below ha, Nat.le_trans hbw.size ha.size, hlk, heap_alloc_new w' _, ?_, fun h0 b o he e => ?_⟩
          · exact ⟨hxok.hg, hxok.hix, hxok.hol, (h4.1.keeps (Below.keeps ha) : FRow _ pa x.pl x.P), h2, h3⟩
          · have h5 := (hO.own.lt b e).2
            obtain ⟨g, h6, h7, _⟩ := h4.2 h0
            have he' : pa = some ⟨b, o, none⟩ := he
            rw [he'] at h6
            have h8 : b = g := congrArg (fun x : Option Addr => (x.getD ⟨0, 0, none⟩).block) h6
            have h9 : wr.drew.heap.size = wr.heap.size := rfl
            omega
        have HKd : Hid (∀ V, Below w.heap.size w V → V.cell? ⟨sb, 2, none⟩ = some (.slice (some ⟨tb, 0, none⟩) L tc) ∧ V.cell? ⟨tb, q * 4, none⟩ = some (.int .u8 (x.g : Int)) ∧ V.cell? ⟨tb, q * 4 + 1, none⟩ = some (.int .i64 x.ix) ∧ V.cell? ⟨tb, q * 4 + 2, none⟩ = some (.int .i64 x.ol) ∧ V.cell? ⟨tb, q * 4 + 3, none⟩ = some (.slice x.pa x.pl x.pc)) := fun V hV => ⟨Below.keeps hV _ _ _ hbb, Below.keeps hV _ _ _ e0, Below.keeps hV _ _ _ e1, Below.keeps hV _ _ _ e2, Below.keeps hV _ _ _ e3⟩
        have HBd : Hid (Below w.heap.size w wr.drew) := HB.out.drew
        have HAl : Hid (∀ w8 o, Below w.heap.size w w8 → Below w.heap.size w (w8.alloc o)) := fun w8 o h => h.alloc h.size o
        have HGr : Hid (∀ W w9, Below w.heap.size w W → World.grownBy W w9 v5.ownBlock → Below w.heap.size w w9) := fun W w9 hW hg => hW.grown hg hW.size (fun k hk => (HO.out.own.lt k hk).1)
        clear hO hb hpc hne hz hq hx hxok hxp e0 e1 e2 e3 hsl hlk
        go_upto_region 6 with fail
        clear cp hbb c1
        go_region_held3 (fun w' => w'.cell? ⟨sb, 2, none⟩ = some (.slice (some ⟨tb, 0, none⟩) L tc) ∧ w'.cell? ⟨tb, q * 4, none⟩ = some (.int .u8 (x.g : Int)) ∧ w'.cell? ⟨tb, q * 4 + 1, none⟩ = some (.int .i64 x.ix) ∧ w'.cell? ⟨tb, q * 4 + 2, none⟩ = some (.int .i64 x.ol) ∧ w'.cell? ⟨tb, q * 4 + 3, none⟩ = some (.slice x.pa x.pl x.pc))
          (first | with_reducible exact HKd.out _ HBd.out | with_reducible exact HKd.out _ B8.out | with_reducible exact HKd.out _ (HAl.out _ _ B8.out) | with_reducible exact HKd.out _ G2.out)
          (first
          | (go_at_call 27; refine (HPl.out _).mono ?_; rintro r w9 ⟨rfl, hw⟩; rw [hw]; clear hw w9)
          | (go_at_call 52; refine HCl.out.mono ?_; rintro r w8 ⟨pa, pc, rfl, b8, a8⟩; have B8 : Hid (Below w.heap.size w w8) := b8; have A8 : Hid (AppS w.heap.size (w8.alloc (.cells #[.int .u8 x.g, .int .i64 x.ix, .int .i64 x.ol, .slice pa x.pl pc] 60)) v5 ts (x.with pa pc) w8.heap.size) := a8; clear b8 a8)
          | ((with_reducible refine step_append_lits A8.out ?_ ?_ ?_); rfl; rfl; intro v' w9 g1 g2; have G1 : Hid (SOut w.heap.size w9 v' (ts ++ [x.with pa pc])) := g1; have G2 : Hid (Below w.heap.size w w9) := HGr.out _ _ (HAl.out _ _ B8.out) g2; clear g1 g2))
        all_goals
          go_wp2
          go_roundw
          case rel => exact ⟨j + 1, _, ts ++ [x.with pa pc], by omega, by go_num, rfl, G1.out, by rw [HPk.out]; exact HSl.out.push (Sd.with_same x pa pc), G2.out⟩
          case measure => simp [intOf]; omega
    · have hlt' : ¬ (j : Int) < (n : Int) := by omega
      have HF : Hid (SL (pk ps ss) ts) := by
        have h := HSl.out
        rw [List.take_of_length_le (by have := Hn.out; omega)] at h
        exact h
      clear hO hb hsl
      go_wp2
      go_ret
      exact ⟨_, ts, rfl, HO.out, HF.out, HB.out⟩
end Go.Proofs.Qxb6500697aDoor
