/-
  THE WALK OF Tamper.
-/
import Derived.Test.Qxb6500697aDoorMTamP
import Derived.Test.Qxb6500697aDoorKSplit
import Derived.Deep.RegionLaw
namespace Go.Proofs.Qxb6500697aDoor
open Go.RowKit

/-- What a step of the kind KTamper makes of a shard. -/
def tampS (x : Sd) (o : KOp) : Sd :=
  if o.field = 0 then { x with g := place o.value 256 }
  else if o.field = 1 then { x with ix := o.value }
  else if o.field = 2 then { x with ol := o.value }
  else if o.field = 3 then (if 0 < x.pl then { x with P := fun i => if i = place o.value x.pl then x.P i ^^^ o.mask else x.P i } else x)
  else if o.field = 4 then (if 0 < x.pl then { x with pl := x.pl - 1 } else x)
  else if o.field = 5 then { x with pl := x.pl + 1, P := fun i => if i = x.pl then o.mask else x.P i }
  else x
theorem tampS_same {x y : Sd} (h : x.same y) (o : KOp) : (tampS x o).same (tampS y o) := by
  obtain ⟨h1, h2, h3, h4, h5⟩ := h
  unfold tampS
  rw [← h4]
  by_cases a0 : o.field = 0
  · simp only [if_pos a0]; exact ⟨rfl, h2, h3, rfl, h5⟩
  · simp only [if_neg a0]
    by_cases a1 : o.field = 1
    · simp only [if_pos a1]; exact ⟨h1, rfl, h3, rfl, h5⟩
    · simp only [if_neg a1]
      by_cases a2 : o.field = 2
      · simp only [if_pos a2]; exact ⟨h1, h2, rfl, rfl, h5⟩
      · simp only [if_neg a2]
        by_cases a3 : o.field = 3
        · simp only [if_pos a3]
          by_cases hp : 0 < x.pl
          · simp only [if_pos hp]
            refine ⟨h1, h2, h3, rfl, fun i hi => ?_⟩
            have := h5 i hi
            simp only [this]
          · simp only [if_neg hp]; exact ⟨h1, h2, h3, h4, h5⟩
        · simp only [if_neg a3]
          by_cases a4 : o.field = 4
          · simp only [if_pos a4]
            by_cases hp : 0 < x.pl
            · simp only [if_pos hp]
              exact ⟨h1, h2, h3, rfl, fun i hi => h5 i (by have hi : i < x.pl - 1 := hi; omega)⟩
            · simp only [if_neg hp]; exact ⟨h1, h2, h3, h4, h5⟩
          · simp only [if_neg a4]
            by_cases a5 : o.field = 5
            · simp only [if_pos a5]
              refine ⟨h1, h2, h3, rfl, fun i hi => ?_⟩
              have hi : i < x.pl + 1 := hi
              by_cases e : i = x.pl
              · simp [e]
              · simp only [if_neg e]; exact h5 i (by omega)
            · simp only [if_neg a5]; exact ⟨h1, h2, h3, h4, h5⟩

/-- A step of a script, as a value. -/
def opV (o : KOp) : Value := .agg #[.int .u8 o.kind, .int .i64 o.k, .int .i64 o.m, .int .u8 o.gen, .slice o.da o.bs.length o.dc, .slice o.pa o.pick.length o.pc, .int .i64 o.index, .int .u8 o.field, .int .i64 o.value, .int .u8 o.mask]
abbrev opB (o : KOp) : Obj := .cells #[.int .u8 o.kind, .int .i64 o.k, .int .i64 o.m, .int .u8 o.gen, .slice o.da o.bs.length o.dc, .slice o.pa o.pick.length o.pc, .int .i64 o.index, .int .u8 o.field, .int .i64 o.value, .int .u8 o.mask] 34

def TmPost (B : Nat) (w : World) (v : Value) (ss : List Sd) (q : Nat) (o : KOp) (r : Ending) (w' : World) : Prop := r = .returned (.tuple #[]) ∧ ∃ y, (tampS (ss.getD q Sd.zero) o).same y ∧ Tray B w' v (ss.set q y) ∧ Chg (tblk v ss) w w' ∧ ∀ b, y.pv.ownBlock = some b → (ss.getD q Sd.zero).pv.ownBlock = some b ∨ w.heap.size ≤ b

set_option maxRecDepth 100000 in
/-- append of one byte to a payload of one's own. -/
theorem step_append_byl {W : World} {d : Option Tmp} {ty : TypeId} {ps : String} {af : Array Edge} {s y : Operand} {ops : Array Oper} {a : Act} {K : Act → World → Prop} {Q : Exit → Act → World → Prop} {E : Prop}
    {B : Nat} {v : Value} {n g m : Nat} {P : Nat → Nat} (hT : W.ownsRow B 5 1 v n (bytV n P)) (hB : B ≤ W.heap.size) (hlen : n ≤ 70368744177664) (hc : W.cell? ⟨g, 0, none⟩ = some (.int .u8 (m : Int)))
    (hs : a.eval s = v) (hx : a.eval y = .slice (some ⟨g, 0, none⟩) 1 1)
    (h : ∀ v' w', w'.ownsRow B 5 1 v' (n + 1) (bytV (n + 1) (fun i => if i = n then m else P i)) → W.grownBy w' v.ownBlock → (v'.ownBlock = v.ownBlock ∨ v'.ownBlock = some W.heap.size) → K (a.put d v') w') :
    if Region.wanted { dst := d, op := .call { callee := .builtin .append, args := #[s, y], argTypes := #[30, 30] }, type := ty, pos := ps, after := af, guard := none } (yielded ops a.tmps) = true then Oper.wp Tryd.prog { dst := d, op := .call { callee := .builtin .append, args := #[s, y], argTypes := #[30, 30] }, type := ty, pos := ps, after := af, guard := none } a W K Q else E := by
  have hw : Region.wanted { dst := d, op := .call { callee := .builtin .append, args := #[s, y], argTypes := #[30, 30] }, type := ty, pos := ps, after := af, guard := none } (yielded ops a.tmps) = true := by simp [Region.wanted]
  rw [if_pos hw]
  obtain ⟨i0, hi, hzz⟩ := Option.map_eq_some_iff.1 Tryd.info5
  simp only [Prod.mk.injEq] at hzz
  obtain ⟨hz0, hz1, hz2⟩ := hzz
  obtain ⟨v', w', hrun, h2, h3, _, h5⟩ := run_append_own_at (P := Tryd.prog) W B 30 ty 5 i0 _ 1 1 Tryd.underlying30 hi hz0 hz1 hz2 rfl (by decide) v n _ hT ⟨g, 0, none⟩ 1 1 [.int .u8 (m : Int)] (by rfl)
    (by
      intro j y' hj
      cases j with
      | zero =>
        have e : (⟨g, 0, none⟩ : Addr).add 0 = ⟨g, 0, none⟩ := by unfold Addr.add; split <;> simp_all
        rw [e, hc]; simpa using hj
      | succ j => simp at hj) (by intro u hu; simp at hu; rw [hu]; rfl) (by unfold maxLen; omega) (by omega) hB
  unfold Oper.wp
  simp [execOp, resolve, invoke, builtin, hs, hx, hrun, Result.andThen]
  refine h v' w' ?_ h3 h5
  have e : bytV (n + 1) (fun i => if i = n then m else P i) = bytV n P ++ [.int .u8 (m : Int)] := by
    unfold bytV
    rw [List.range_succ, List.map_append, List.map_append]
    congr 1
    · rw [List.map_map, List.map_map]
      refine List.map_congr_left (fun i hi => ?_)
      have := List.mem_range.1 hi
      simp [show i ≠ n by omega]
    · simp
  rw [e]; exact h2

theorem TmPost.below {B : Nat} {w w' w'' : World} {v : Value} {ss : List Sd} {q : Nat} {o : KOp} {r : Ending} (h : TmPost B w v ss q o r w') (hb : Below w'.heap.size w' w'') : TmPost B w v ss q o r w'' := by
  obtain ⟨h1, y, h2, h3, h4, h5⟩ := h
  exact ⟨h1, y, h2, h3.below hb, h4.trans (Below.chg hb _), h5⟩
theorem bytV_set (n off u : Nat) (P : Nat → Nat) : bytV n (fun i => if i = off then u else P i) = (bytV n P).set off (.int .u8 (u : Int)) := by
  refine List.ext_getElem (by simp [bytV]) (fun i h1 h2 => ?_)
  rw [List.getElem_set]
  simp only [bytV, List.getElem_map, List.getElem_range]
  by_cases e : off = i
  · rw [if_pos e, if_pos e.symm]
  · rw [if_neg e, if_neg (fun h => e h.symm)]
/-- A payload that is there. -/
theorem OwnP.at_ {B : Nat} {w : World} {x : Sd} (h : OwnP B w x) (h0 : 0 < x.pl) : ∃ g, x.pa = some ⟨g, 0, none⟩ ∧ B ≤ g ∧ x.pl ≤ x.pc ∧ x.pc ≤ 9223372036854775807 ∧ (∀ i, i < x.pl → w.cell? ⟨g, i, none⟩ = some (.int .u8 ((x.P i : Nat) : Int))) ∧ ∀ i, w.frozen? ⟨g, i, none⟩ = false := by
  rcases h.2 with ⟨_, h1⟩ | ⟨g, cap, cur, hv, hb, hg, hle, hm, hs, ht⟩
  · omega
  · unfold Sd.pv at hv
    have e1 : x.pa = some ⟨g, 0, none⟩ ∧ x.pc = cap := by
      injection hv with e1 e2 e3
      exact ⟨e1, e3⟩
    refine ⟨g, e1.1, hb, by rw [e1.2]; exact hle, by rw [e1.2]; unfold maxLen at hm; omega, fun i hi => ?_, fun i => by simp [World.frozen?, hg]⟩
    have h2 : (cur.toList.take (x.pl * 1))[i]? = some (.int .u8 ((x.P i : Nat) : Int)) := by rw [ht]; simp [bytV, hi]
    rw [List.getElem?_take] at h2
    split at h2
    · simp only [World.cell?, hg]; simpa using h2
    · cases h2

set_option maxRecDepth 100000 in
set_option maxHeartbeats 2000000 in
theorem tamper_any (B : Nat) (w : World) (H len cap q : Nat) (ss : List Sd) (o : KOp) (hT : Tray B w (.slice (some ⟨H, 0, none⟩) len cap) ss) (hq : q < ss.length) (hv1 : -9223372036854775808 ≤ o.value) (hv2 : o.value ≤ 9223372036854775807) (hm : o.mask < 256) (hpl : (ss.getD q Sd.zero).pl ≤ 1099511627776) :
    Calls Tryd.prog 40 #[.pointer (some ⟨H, q * 4, none⟩), opV o] w (TmPost B w (.slice (some ⟨H, 0, none⟩) len cap) ss q o) := by
  have hvb : (Value.slice (some ⟨H, 0, none⟩) len cap).ownBlock = some H := rfl
  obtain ⟨v, hv⟩ : ∃ v, Value.slice (some ⟨H, 0, none⟩) len cap = v := ⟨_, rfl⟩
  rw [hv] at hT hvb ⊢
  obtain ⟨W, hW⟩ : ∃ W, w.alloc (opB o) = W := ⟨_, rfl⟩
  have hbW : Below w.heap.size w W := by rw [← hW]; exact (Below.refl _ _).alloc (Nat.le_refl _) _
  have hB0 : W.heap[w.heap.size]? = some (.cells #[.int .u8 o.kind, .int .i64 o.k, .int .i64 o.m, .int .u8 o.gen, .slice o.da o.bs.length o.dc, .slice o.pa o.pick.length o.pc, .int .i64 o.index, .int .u8 o.field, .int .i64 o.value, .int .u8 o.mask] 34 (0, 0)) := by rw [← hW]; exact heap_alloc_new w _
  have c7 : W.cell? ⟨w.heap.size, 7, none⟩ = some (.int .u8 o.field) := by simp [World.cell?, hB0]
  have c8 : W.cell? ⟨w.heap.size, 8, none⟩ = some (.int .i64 o.value) := by simp [World.cell?, hB0]
  have c9 : W.cell? ⟨w.heap.size, 9, none⟩ = some (.int .u8 o.mask) := by simp [World.cell?, hB0]
  have hTW := hT.below hbW
  have HT : Hid (Tray B W v ss) := hTW
  have HW : Hid (Chg (tblk v ss) w W) := Below.chg hbW _
  have hsz : w.heap.size < W.heap.size := by rw [← hW]; simp
  obtain ⟨hao, hcp, hve, hrow⟩ := hTW.row
  rw [← hv] at hve
  have hae : (some ⟨H, 0, none⟩ : Option Addr) = hao := by cases hve; rfl
  subst hae
  obtain ⟨H', hHe, d0, d1, d2, d3⟩ := hrow.at_ hq
  obtain rfl : H = H' := congrArg (fun x : Option Addr => (x.getD ⟨0, 0, none⟩).block) hHe
  obtain ⟨x, hx⟩ : ∃ x, ss.getD q Sd.zero = x := ⟨_, rfl⟩
  have hxg : ss[q] = x := by rw [← hx, getD_lt hq]
  rw [hxg] at d0 d1 d2 d3
  rw [hx] at hpl
  obtain ⟨hxo, hxr⟩ := hTW.pay x (by rw [← hx]; exact getD_mem' hq)
  have HXo : Hid (OwnP B W x ∧ RngS x) := ⟨hxo, hxr⟩
  have Hx : Hid (ss.getD q Sd.zero = x ∧ ss[q] = x) := ⟨hx, hxg⟩
  have hHlt := cell_lt d0
  have fH : ∀ i, W.frozen? ⟨H, i, none⟩ = false := fun i => by
    rcases hTW.hdr.2 with ⟨h1, _⟩ | ⟨g', cp, cur, h1, _, hg', _⟩
    · rw [h1] at hvb; cases hvb
    · rw [h1] at hvb
      have e : g' = H := by simpa [Value.ownBlock] using hvb
      subst e
      simp [World.frozen?, hg']
  have Hvb : Hid (v.ownBlock = some H) := hvb
  have HHd : Hid (∀ u (i : Nat), i < 4 → ∀ y, y.cells = (ss[q]).cells.set i u → OwnP B W y → RngS y → (∀ b, y.pv.ownBlock = some b → x.pv.ownBlock = some b) → (tampS x o).same y → TmPost B w v ss q o (.returned (.tuple #[])) (W.setCell ⟨H, q * 4 + i, none⟩ u)) := fun u i hi y h1 h2 h3 h4 h5 => by
    refine ⟨rfl, y, by rw [hx]; exact h5, hTW.putCell hq hvb hi h1 h2 h3 (fun b hb => .inl (by rw [hx]; exact h4 b hb)), (Below.chg hbW _).trans (Only.chg (d := H) ((Only.refl _ _).setCell _ _) (.inl hvb)), fun b hb => .inl (by rw [hx]; exact h4 b hb)⟩
  unfold opV
  unfold opB at hW
  clear hT hTW hrow hHe hve hx hxg hB0 hbW hvb hv hxo
  have HPl : Hid (∀ (z : Nat) (V : World), 0 < z → z ≤ 1099511627776 → Calls Tryd.prog 27 #[.int .i64 o.value, .int .i64 (z : Int)] V fun r w' => r = .returned (.int .i64 ((place o.value z : Nat) : Int)) ∧ w' = V) := fun z V h1 h2 => place_any o.value z V h1 h2 hv1 hv2
  by_cases a0 : o.field = 0
  · have b0 : ((o.field : Int) == 0) = true := by simp; omega
    have HP : Hid (Calls Tryd.prog 27 #[.int .i64 o.value, .int .i64 256] W fun r w' => r = .returned (.int .i64 ((place o.value 256 : Nat) : Int)) ∧ w' = W) := HPl.out 256 W (by omega) (by omega)
    have hpl2 := place_lt o.value 256 (by omega)
    have HF : Hid (TmPost B w v ss q o (.returned (.tuple #[])) (W.setCell ⟨H, q * 4 + 0, none⟩ (.int .u8 ((place o.value 256 : Nat) : Int)))) := HHd.out _ 0 (by omega) { x with g := place o.value 256 } (by rw [Hx.out.2]; rfl) HXo.out.1 ⟨by have := hpl2; show place o.value 256 < 256; omega, HXo.out.2.hix, HXo.out.2.hol, HXo.out.2.byt⟩ (fun b hb => hb) (by unfold tampS; rw [if_pos a0]; exact Sd.same.rfl' _)
    obtain ⟨z, hz⟩ : ∃ z, place o.value 256 = z := ⟨_, rfl⟩
    rw [hz] at HP hpl2 HF
    clear HHd HPl hz a0
    go_enter Tryd.func40, Tryd.ntmps40
    go_wp2_with fail
    refine Calls.mono HP.out ?_
    rintro r w' ⟨rfl, hw⟩
    have hw := hw.symm; subst hw
    clear HP
    go_wp2
    go_end0
    exact HF.out
  · have b0 : ((o.field : Int) == 0) = false := by simp; omega
    by_cases a1 : o.field = 1
    · have b1 : ((o.field : Int) == 1) = true := by simp; omega
      have HF : Hid (TmPost B w v ss q o (.returned (.tuple #[])) (W.setCell ⟨H, q * 4 + 1, none⟩ (.int .i64 o.value))) := HHd.out _ 1 (by omega) { x with ix := o.value } (by rw [Hx.out.2]; rfl) HXo.out.1 ⟨HXo.out.2.hg, ⟨hv1, hv2⟩, HXo.out.2.hol, HXo.out.2.byt⟩ (fun b hb => hb) (by unfold tampS; rw [if_neg a0, if_pos a1]; exact Sd.same.rfl' _)
      clear HHd HPl a0 a1
      go_enter Tryd.func40, Tryd.ntmps40
      go_wp2
      go_end0
      exact HF.out
    · have b1 : ((o.field : Int) == 1) = false := by simp; omega
      by_cases a2 : o.field = 2
      · have b2 : ((o.field : Int) == 2) = true := by simp; omega
        have HF : Hid (TmPost B w v ss q o (.returned (.tuple #[])) (W.setCell ⟨H, q * 4 + 2, none⟩ (.int .i64 o.value))) := HHd.out _ 2 (by omega) { x with ol := o.value } (by rw [Hx.out.2]; rfl) HXo.out.1 ⟨HXo.out.2.hg, HXo.out.2.hix, ⟨hv1, hv2⟩, HXo.out.2.byt⟩ (fun b hb => hb) (by unfold tampS; rw [if_neg a0, if_neg a1, if_pos a2]; exact Sd.same.rfl' _)
        clear HHd HPl a0 a1 a2
        go_enter Tryd.func40, Tryd.ntmps40
        go_wp2
        go_end0
        exact HF.out
      · have b2 : ((o.field : Int) == 2) = false := by simp; omega
        -- nothing is changed
        have HNo : Hid ((tampS x o).same x → TmPost B w v ss q o (.returned (.tuple #[])) W) := fun h => ⟨rfl, x, by rw [Hx.out.1]; exact h, by
          have e : ss.set q x = ss := by
            refine List.ext_getElem (by simp) (fun i h1 h2 => ?_)
            rw [List.getElem_set]
            by_cases e : q = i
            · subst e; rw [if_pos rfl]; exact Hx.out.2.symm
            · rw [if_neg e]
          rw [e]; exact HT.out, HW.out, fun b hb => .inl (by rw [Hx.out.1]; exact hb)⟩
        by_cases a3 : o.field = 3
        · have b3 : ((o.field : Int) == 3) = true := by simp; omega
          by_cases hp0 : 0 < x.pl
          · have hp0' : (0 : Int) < (x.pl : Int) := by omega
            obtain ⟨g, hpa, hgB, hpc1, hpc2, hcs, hfz⟩ := HXo.out.1.at_ hp0
            have HP : Hid (∀ V, Calls Tryd.prog 27 #[.int .i64 o.value, .int .i64 (x.pl : Int)] V fun r w' => r = .returned (.int .i64 ((place o.value x.pl : Nat) : Int)) ∧ w' = V) := fun V => HPl.out x.pl V hp0 (by omega)
            have hoff := place_lt o.value x.pl hp0
            have hby := HXo.out.2.byt _ hoff
            have cb := hcs _ hoff
            have fb := hfz (place o.value x.pl)
            have hpb : x.pv.ownBlock = some g := pv_block hpa
            have hxor := u8_xor_nat (x.P (place o.value x.pl)) o.mask hby hm
            have hx8 := xor8n (x.P (place o.value x.pl)) o.mask hby hm
            have HF : Hid (∀ nq, TmPost B w v ss q o (.returned (.tuple #[])) ((W.drewN nq).setCell ⟨g, place o.value x.pl, none⟩ (.int .u8 ((x.P (place o.value x.pl) ^^^ o.mask : Nat) : Int)))) := by
              intro nq
              have hbd : Below W.heap.size W (W.drewN nq) := drewN_below _ _ _
              have hTd := HT.out.below hbd
              have hO : Only g (W.drewN nq) ((W.drewN nq).setCell ⟨g, place o.value x.pl, none⟩ (.int .u8 ((x.P (place o.value x.pl) ^^^ o.mask : Nat) : Int))) := (Only.refl _ _).setCell _ _
              have hxm : x ∈ ss := by rw [← Hx.out.1]; exact getD_mem' hq
              have hgH : v.ownBlock ≠ some g := HT.out.far x hxm g hpb
              have hyo : OwnP B ((W.drewN nq).setCell ⟨g, place o.value x.pl, none⟩ (.int .u8 ((x.P (place o.value x.pl) ^^^ o.mask : Nat) : Int))) { x with P := fun i => if i = place o.value x.pl then x.P (place o.value x.pl) ^^^ o.mask else x.P i } := by
                have h1 := own_set (hTd.pay x hxm).1 hpb (p := place o.value x.pl) (.int .u8 ((x.P (place o.value x.pl) ^^^ o.mask : Nat) : Int))
                rw [← bytV_set] at h1
                exact h1
              refine ⟨rfl, { x with P := fun i => if i = place o.value x.pl then x.P (place o.value x.pl) ^^^ o.mask else x.P i }, ?_, hTd.upd ?_ hyo ⟨HXo.out.2.hg, HXo.out.2.hix, HXo.out.2.hol, fun i hi => ?_⟩ (fun i hi hne b hb => ⟨hO.block b (fun e => ?_), fun e => ?_⟩) (fun b hb => ?_), (HW.out.trans (Below.chg hbd _)).trans (Only.chg hO (.inr ⟨x, hxm, hpb⟩)), fun b hb => .inl (by rw [Hx.out.1]; exact hb)⟩
              · rw [Hx.out.1]
                unfold tampS
                rw [if_neg a0, if_neg a1, if_neg a2, if_pos a3, if_pos hp0]
                refine ⟨rfl, rfl, rfl, rfl, fun i _ => ?_⟩
                show (if i = place o.value x.pl then x.P i ^^^ o.mask else x.P i) = if i = place o.value x.pl then x.P (place o.value x.pl) ^^^ o.mask else x.P i
                by_cases e : i = place o.value x.pl
                · rw [if_pos e, if_pos e, e]
                · rw [if_neg e, if_neg e]
              · rw [flat_same ss q _ hq (by rw [Hx.out.2]; rfl)]
                exact own_block hTd.hdr (fun b hb => hO.block b (fun e => hgH (by rw [← e]; exact hb)))
              · show (if i = place o.value x.pl then x.P (place o.value x.pl) ^^^ o.mask else x.P i) < 256
                split
                · exact hx8
                · exact HXo.out.2.byt i hi
              · exact HT.out.apart i q hi hq hne b hb (by rw [Hx.out.1, e]; exact hpb)
              · exact HT.out.apart i q hi hq hne b hb (by rw [Hx.out.1]; exact e)
              · exact HT.out.far x hxm b hb
            obtain ⟨off, hof⟩ : ∃ off, place o.value x.pl = off := ⟨_, rfl⟩
            rw [hof] at HP hoff cb fb hxor hx8 HF hby
            have hoff' : (off : Int) < (x.pl : Int) := by omega
            obtain ⟨vo, hvo⟩ : ∃ vo, x.P off = vo := ⟨_, rfl⟩
            rw [hvo] at cb hxor hx8 HF hby
            obtain ⟨vn, hvn⟩ : ∃ vn, vo ^^^ o.mask = vn := ⟨_, rfl⟩
            rw [hvn] at hxor hx8 HF
            rw [hpa] at d3
            have hgw := cell_lt cb
            clear HHd HPl a0 a1 a2 a3 HNo hcs hfz hpb hof hvo hvn hpa
            go_enter Tryd.func40, Tryd.ntmps40
            go_wp2
            clear hW
            refine region_last (C := fun w' => ∃ n, w' = W.drewN n) 18 #[true, true, true, true, true, true, true, true, true, true, true, true, true, true, true, true, true, true, false] (by kernel_rfl) (by kernel_rfl) ⟨1, rfl⟩ ?_
            simp only [List.take_succ_cons, List.take_zero]
            repeat (go_big_quiet_step (first | (go_at_call 27; with_reducible exact Calls.quiet_of_same (HP.out _))))
            refine wpQuiet_nil ?_
            rintro w' ⟨nq, rfl⟩
            refine ⟨_, rfl, rfl, ?_⟩
            refine wp_of_run_skip1 (w' := (W.drewN nq).setCell ⟨g, off, none⟩ (.int .u8 (vn : Int))) (by go_simp) ?_
            go_wp2_with fail
            go_end0
            exact HF.out nq
          · have hp0' : ¬ (0 : Int) < (x.pl : Int) := by omega
            have HF : Hid (TmPost B w v ss q o (.returned (.tuple #[])) W) := HNo.out (by unfold tampS; rw [if_neg a0, if_neg a1, if_neg a2, if_pos a3, if_neg hp0]; exact Sd.same.rfl' _)
            clear HHd HPl a0 a1 a2 a3 HNo
            go_enter Tryd.func40, Tryd.ntmps40
            go_wp2
            go_end0
            exact HF.out
        · have b3 : ((o.field : Int) == 3) = false := by simp; omega
          by_cases a4 : o.field = 4
          · have b4 : ((o.field : Int) == 4) = true := by simp; omega
            by_cases hp0 : 0 < x.pl
            · have hp0' : (0 : Int) < (x.pl : Int) := by omega
              obtain ⟨g, hpa, hgB, hpc1, hpc2, hcs, hfz⟩ := HXo.out.1.at_ hp0
              have hpb : x.pv.ownBlock = some g := pv_block hpa
              obtain ⟨k1, hk1⟩ : ∃ k1, x.pl - 1 = k1 := ⟨_, rfl⟩
              have zk : (x.pl : Int) - 1 = (k1 : Int) := by omega
              have HF : Hid (TmPost B w v ss q o (.returned (.tuple #[])) (W.setCell ⟨H, q * 4 + 3, none⟩ (.slice (some ⟨g, 0, none⟩) k1 x.pc)).drew) := by
                have h1 : OwnP B W { x with pl := k1 } := by
                  have h2 : W.ownsRow B 5 1 (.slice (some ⟨g, 0, none⟩) x.pl x.pc) x.pl (bytV x.pl x.P) := by
                    have h3 := HXo.out.1
                    unfold OwnP Sd.pv at h3
                    rw [hpa] at h3; exact h3
                  have h4 := own_cut h2 (k := k1) (by omega)
                  show W.ownsRow B 5 1 (.slice x.pa k1 x.pc) k1 (bytV k1 x.P)
                  rw [hpa]; exact h4
                have h5 := HHd.out (.slice (some ⟨g, 0, none⟩) k1 x.pc) 3 (by omega) { x with pl := k1 } (by rw [Hx.out.2, ← hpa]; rfl) h1 ⟨HXo.out.2.hg, HXo.out.2.hix, HXo.out.2.hol, fun i hi => HXo.out.2.byt i (by have hi : i < k1 := hi; omega)⟩ (fun b hb => by
                    have e : ({ x with pl := k1 } : Sd).pv.ownBlock = x.pv.ownBlock := by
                      show (Value.slice x.pa k1 x.pc).ownBlock = (Value.slice x.pa x.pl x.pc).ownBlock
                      rw [hpa]; rfl
                    rw [← e]; exact hb) (by
                    unfold tampS
                    rw [if_neg a0, if_neg a1, if_neg a2, if_neg a3, if_pos a4, if_pos hp0, hk1]; exact Sd.same.rfl' _)
                exact h5.below (Below.refl _ _).drew
              rw [hpa] at d3
              have hkc : (k1 : Int) ≤ (x.pc : Int) := by omega
              have hk0 : (0 : Int) ≤ (k1 : Int) := by omega
              have hwk : IntKind.i64.wrap (k1 : Int) = (k1 : Int) := by simp [IntKind.wrap, IntKind.bits, IntKind.signed]; omega
              clear HHd HPl a0 a1 a2 a3 a4 HNo hcs hfz hpb hpa hk1
              go_enter Tryd.func40, Tryd.ntmps40
              go_wp2
              clear hW
              go_region
              all_goals
                go_wp2
                go_end0
                exact HF.out
            · have hp0' : ¬ (0 : Int) < (x.pl : Int) := by omega
              have HF : Hid (TmPost B w v ss q o (.returned (.tuple #[])) W) := HNo.out (by unfold tampS; rw [if_neg a0, if_neg a1, if_neg a2, if_neg a3, if_pos a4, if_neg hp0]; exact Sd.same.rfl' _)
              clear HHd HPl a0 a1 a2 a3 a4 HNo
              go_enter Tryd.func40, Tryd.ntmps40
              go_wp2
              go_end0
              exact HF.out
          · have b4 : ((o.field : Int) == 4) = false := by simp; omega
            by_cases a5 : o.field = 5
            · have b5 : ((o.field : Int) == 5) = true := by simp; omega
              have hxm : x ∈ ss := by rw [← Hx.out.1]; exact getD_mem' hq
              have HV : Hid (∀ m', m' = o.mask → (W.alloc (.cells #[.int .u8 (m' : Int)] 5)).drew.ownsRow B 5 1 (.slice x.pa x.pl x.pc) x.pl (bytV x.pl x.P) ∧ B ≤ (W.alloc (.cells #[.int .u8 (m' : Int)] 5)).drew.heap.size ∧ (W.alloc (.cells #[.int .u8 (m' : Int)] 5)).drew.cell? ⟨W.heap.size, 0, none⟩ = some (.int .u8 (o.mask : Int))) := fun m' hm' => by
                subst hm'
                have hb : Below W.heap.size W (W.alloc (.cells #[.int .u8 (o.mask : Int)] 5)).drew := ((Below.refl _ _).alloc (Nat.le_refl _) _).drew
                refine ⟨own_block HXo.out.1 (fun b hb' => hb.block b (HXo.out.1.lt b hb').2), ?_, ?_⟩
                · have h1 : B ≤ H := (HT.out.hdr.lt H Hvb.out).1
                  have h2 := hb.size
                  omega
                · have h3 : (W.alloc (.cells #[.int .u8 (o.mask : Int)] 5)).drew.heap[W.heap.size]? = some (.cells #[.int .u8 (o.mask : Int)] 5 (0, 0)) := heap_alloc_drew W _
                  generalize (W.alloc (.cells #[.int .u8 (o.mask : Int)] 5)).drew = V at h3 ⊢
                  simp [World.cell?, h3]
              have HFin : Hid (∀ v' w9, w9.ownsRow B 5 1 v' (x.pl + 1) (bytV (x.pl + 1) (fun i => if i = x.pl then o.mask else x.P i)) → (W.alloc (.cells #[.int .u8 (o.mask : Int)] 5)).drew.grownBy w9 (Value.slice x.pa x.pl x.pc).ownBlock → (v'.ownBlock = (Value.slice x.pa x.pl x.pc).ownBlock ∨ v'.ownBlock = some (W.alloc (.cells #[.int .u8 (o.mask : Int)] 5)).drew.heap.size) →
                  (∃ pa' pc', v' = .slice pa' (x.pl + 1) pc') ∧ w9.cell? ⟨H, q * 4 + 3, none⟩ = some (.slice x.pa x.pl x.pc) ∧ w9.frozen? ⟨H, q * 4 + 3, none⟩ = false ∧ TmPost B w v ss q o (.returned (.tuple #[])) (w9.setCell ⟨H, q * 4 + 3, none⟩ v')) := by
                intro v' w9 h1 h2 h3
                have hbV : Below W.heap.size W (W.alloc (.cells #[.int .u8 (o.mask : Int)] 5)).drew := ((Below.refl _ _).alloc (Nat.le_refl _) _).drew
                have hVs : (W.alloc (.cells #[.int .u8 (o.mask : Int)] 5)).drew.heap.size = W.heap.size + 1 := alloc_size W _
                have hxv : ∀ b, (Value.slice x.pa x.pl x.pc).ownBlock = some b → x.pv.ownBlock = some b := fun b hb => hb
                have hHne : (Value.slice x.pa x.pl x.pc).ownBlock ≠ some H := fun e => HT.out.far x hxm H e Hvb.out
                have hblkH : w9.heap[H]? = W.heap[H]? := (h2.block H (by omega) (fun e => hHne e.symm)).trans (hbV.block H hHlt)
                obtain ⟨pa', pc', hv', hpc', hpc2'⟩ : ∃ pa' pc', v' = .slice pa' (x.pl + 1) pc' ∧ x.pl + 1 ≤ pc' ∧ pc' ≤ 9223372036854775807 := by
                  rcases h1.2 with ⟨_, h0⟩ | ⟨g', cp, cur, hv, _, _, hle, hmx, _⟩
                  · omega
                  · exact ⟨_, _, hv, hle, by unfold maxLen at hmx; omega⟩
                have hy9 : OwnP B w9 { x with pa := pa', pc := pc', pl := x.pl + 1, P := fun i => if i = x.pl then o.mask else x.P i } := by
                  show w9.ownsRow B 5 1 (.slice pa' (x.pl + 1) pc') (x.pl + 1) _
                  rw [← hv']; exact h1
                have hyb : ∀ b, ({ x with pa := pa', pc := pc', pl := x.pl + 1, P := fun i => if i = x.pl then o.mask else x.P i } : Sd).pv.ownBlock = some b → x.pv.ownBlock = some b ∨ b = W.heap.size + 1 := fun b hb => by
                  have hb : (Value.slice pa' (x.pl + 1) pc').ownBlock = some b := hb
                  rw [← hv'] at hb
                  rcases h3 with h3 | h3
                  · rw [h3] at hb; exact .inl hb
                  · rw [h3, hVs] at hb
                    exact .inr (Option.some.inj hb).symm
                have hO : Only H w9 (w9.setCell ⟨H, q * 4 + 3, none⟩ v') := (Only.refl _ _).setCell _ _
                have hyv : ∀ b, ({ x with pa := pa', pc := pc', pl := x.pl + 1, P := fun i => if i = x.pl then o.mask else x.P i } : Sd).pv.ownBlock = some b → v.ownBlock ≠ some b := fun b hb e => by
                  rcases hyb b hb with h | h
                  · exact HT.out.far x hxm b h e
                  · have := (HT.out.hdr.lt b e).2
                    omega
                have hyH : ∀ b, ({ x with pa := pa', pc := pc', pl := x.pl + 1, P := fun i => if i = x.pl then o.mask else x.P i } : Sd).pv.ownBlock = some b → b ≠ H := fun b hb e => hyv b hb (by rw [e]; exact Hvb.out)
                refine ⟨⟨pa', pc', hv'⟩, by simp only [World.cell?, hblkH]; exact d3, by simp only [World.frozen?, hblkH]; exact fH (q * 4 + 3), rfl, { x with pa := pa', pc := pc', pl := x.pl + 1, P := fun i => if i = x.pl then o.mask else x.P i }, ?_, HT.out.upd ?_ (own_block hy9 (fun b hb => hO.block b (hyH b hb))) ⟨HXo.out.2.hg, HXo.out.2.hix, HXo.out.2.hol, fun i hi => ?_⟩ (fun i hi hne b hb => ⟨?_, fun e => ?_⟩) hyv, ?_, fun b hb => ?_⟩
                · rw [Hx.out.1]
                  unfold tampS
                  rw [if_neg a0, if_neg a1, if_neg a2, if_neg a3, if_neg a4, if_pos a5]
                  exact ⟨rfl, rfl, rfl, rfl, fun _ _ => rfl⟩
                · rw [flat_set ss q 3 _ v' hq (by omega) (by rw [Hx.out.2, hv']; rfl)]
                  exact own_set (own_block HT.out.hdr (fun b hb => by
                    have e : H = b := by rw [Hvb.out] at hb; exact Option.some.inj hb
                    rw [← e]; exact hblkH)) Hvb.out v'
                · have hi : i < x.pl + 1 := hi
                  show (if i = x.pl then o.mask else x.P i) < 256
                  split
                  · exact hm
                  · exact HXo.out.2.byt i (by omega)
                · have hbx : x.pv.ownBlock ≠ some b := fun e => HT.out.apart i q hi hq hne b hb (by rw [Hx.out.1]; exact e)
                  have hbH : b ≠ H := fun e => HT.out.far _ (getD_mem' hi) b hb (by rw [e]; exact Hvb.out)
                  have hbl := ((HT.out.pay _ (getD_mem' hi)).1.lt b hb).2
                  exact (hO.block b hbH).trans ((h2.block b (by omega) (fun e => hbx e.symm)).trans (hbV.block b hbl))
                · rcases hyb b e with h | h
                  · exact HT.out.apart i q hi hq hne b hb (by rw [Hx.out.1]; exact h)
                  · have := ((HT.out.pay _ (getD_mem' hi)).1.lt b hb).2
                    omega
                · exact ((HW.out.trans (Below.chg hbV _)).trans (grown_chg h2 (fun b hb => .inr ⟨x, hxm, hb⟩))).trans (Only.chg hO (.inl Hvb.out))
                · rcases hyb b hb with h | h
                  · exact .inl (by rw [Hx.out.1]; exact h)
                  · exact .inr (by omega)
              clear HHd HPl a0 a1 a2 a3 a4 a5 HNo hxm
              go_enter Tryd.func40, Tryd.ntmps40
              go_wp2
              clear hW
              go_region_law ((with_reducible refine step_append_byl (HV.out _ rfl).1 (HV.out _ rfl).2.1 ?_ (HV.out _ rfl).2.2 ?_ ?_ ?_); omega; rfl; rfl; intro v' w9 h1 h2 h3; have hq9 := HFin.out v' w9 h1 h2 h3; obtain ⟨⟨pa', pc', hv'⟩, e1, e2, e3⟩ := hq9; subst hv'; have HF : Hid (TmPost B w v ss q o (.returned (.tuple #[])) (w9.setCell ⟨H, q * 4 + 3, none⟩ (.slice pa' (x.pl + 1) pc'))) := e3; clear h1 h2 h3 e3)
              all_goals
                go_wp2
                go_end0
                exact HF.out
            · have b5 : ((o.field : Int) == 5) = false := by simp; omega
              have HF : Hid (TmPost B w v ss q o (.returned (.tuple #[])) W) := HNo.out (by unfold tampS; rw [if_neg a0, if_neg a1, if_neg a2, if_neg a3, if_neg a4, if_neg a5]; exact Sd.same.rfl' _)
              clear HHd HPl a0 a1 a2 a3 a4 a5 HNo
              go_enter Tryd.func40, Tryd.ntmps40
              go_wp2
              go_end0
              exact HF.out
end Go.Proofs.Qxb6500697aDoor
