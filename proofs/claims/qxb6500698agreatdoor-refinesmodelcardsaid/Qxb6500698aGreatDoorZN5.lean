/-
  THE STEPS OF THE MODEL: KFeed, KFill.
-/
import Derived.Test.Qxb6500698aGreatDoorZN4
import Derived.Deep.RegionHeld3
import Derived.Deep.RegionLaw
namespace Go.Proofs.Qxb6500698aGreatDoor
open Go.RowKit

/-- What append needs. -/
structure AppB (B : Nat) (W : World) (v : Value) (bs : List Nat) (ao : Option Addr) (ns : List Nat) : Prop where
  own : OwnB W B v bs
  row : BRow W ao ns
  len : bs.length + ns.length ≤ 140737488355328
  sz : B ≤ W.heap.size
theorem step_append_bl {W : World} {d : Option Tmp} {ty : TypeId} {ps : String} {af : Array Edge} {s y : Operand} {ops : Array Oper} {a : Act} {K : Act → World → Prop} {Q : Exit → Act → World → Prop} {E : Prop}
    {B : Nat} {v : Value} {bs ns : List Nat} {ao : Option Addr} {c : Nat} (hA : AppB B W v bs ao ns) (hs : a.eval s = v) (hx : a.eval y = .slice ao ns.length c)
    (h : ∀ v' w', OwnB w' B v' (bs ++ ns) → Gr v v' W w' → K (a.put d v') w') :
    if Region.wanted { dst := d, op := .call { callee := .builtin .append, args := #[s, y], argTypes := #[29, 29] }, type := ty, pos := ps, after := af, guard := none } (yielded ops a.tmps) = true then Oper.wp Tryz.prog { dst := d, op := .call { callee := .builtin .append, args := #[s, y], argTypes := #[29, 29] }, type := ty, pos := ps, after := af, guard := none } a W K Q else E := by
  rw [if_pos (by simp [Region.wanted])]
  obtain ⟨i0, hi, hz0, hz1, hz2⟩ := info_parts Tryz.info5
  have hown : W.ownsRow B 5 1 v bs.length (bs.map fun y => Value.int .u8 ((y : Nat) : Int)) := hA.own
  by_cases hn : ns = []
  · subst hn
    have hr := run_append_zero (P := Tryz.prog) W 29 ty 5 i0 Tryz.underlying29 hi B 1 v bs.length _ hown ao c
    have hw := h v W (by simpa using hA.own) (Gr.refl _ _)
    have hx' : a.eval y = .slice ao 0 c := hx
    unfold Oper.wp execOp
    simp only [resolve, invoke, builtin, Sem.run_bind, Sem.run_pure, Result.andThen_ok, List.map_toArray, List.map_cons, List.map_nil, hs, hx', hr]
    exact hw
  · obtain ⟨b, o', rfl, hc⟩ := hA.row.row hn
    have hlen := hA.len
    obtain ⟨v', w', hr, h2, h3, _, h5⟩ := run_append_own_at (P := Tryz.prog) W B 29 ty 5 i0 (.int .u8 0) 1 1 Tryz.underlying29 hi hz0 hz1 hz2 rfl (by decide) v bs.length _ hown ⟨b, o', none⟩ ns.length c (ns.map fun y => Value.int .u8 ((y : Nat) : Int)) (by simp) hA.row.news (bytes_oneCell ns)
      (by unfold maxLen; omega) (by omega) hA.sz
    have hw := h v' w' (by unfold OwnB; rw [List.map_append, List.length_append]; exact h2) (Gr.mk0 h3 h5)
    unfold Oper.wp execOp
    simp only [resolve, invoke, builtin, Sem.run_bind, Sem.run_pure, Result.andThen_ok, List.map_toArray, List.map_cons, List.map_nil, hs, hx, hr]
    exact hw

set_option maxRecDepth 100000 in
set_option maxHeartbeats 2000000 in
theorem zm1 {B : Nat} {w : World} {l : Ml} {s : ZSt} {o : OpD} (h : InN B w l s o) (h0 : o.kind = 1) :
    Calls Tryz.prog 9 #[.pointer (some ⟨l.sb, 0, none⟩), opV o] w (StM B w l s o) := by
  obtain ⟨W, hW⟩ : ∃ W, (w.alloc (opB o)).alloc ans0 = W := ⟨_, rfl⟩
  have hP := proM h hW
  have c0 : W.cell? ⟨w.heap.size, 0, none⟩ = some (.int .u8 (o.kind : Int)) := hP.cell 0
  have c1 : W.cell? ⟨w.heap.size, 1, none⟩ = some (.slice o.da o.bs.length o.dc) := hP.cell 1
  have m0 : W.cell? ⟨l.sb, 0, none⟩ = some (.slice l.fa s.F.length l.fc) := hP.zm.cell 0
  have mf0 := hP.zm.fr 0
  have b0 : ((o.kind : Int) == 0) = false := by simp; omega
  have b1 : ((o.kind : Int) == 1) = true := by simp; omega
  have HP : Hid (ProM B w W l s o) := hP
  have hbd : Below W.heap.size W W.drew := (Below.refl _ _).drew
  have hBW : B ≤ W.heap.size := by have h1 := hP.Bw; have h2 := hP.sz; omega
  have hz : zstep s o = (zfeed s o.bs, ⟨0, 0, (s.F ++ o.bs).length, 0, [], 0⟩) := by
    unfold zstep
    rw [if_neg (by omega), if_pos h0]
  obtain ⟨q, hq⟩ : ∃ q, (s.F ++ o.bs).length = q := ⟨_, rfl⟩
  rw [hq] at hz
  have HZS : Hid (zstep s o = (zfeed s o.bs, ⟨0, 0, q, 0, [], 0⟩)) := hz
  have hfm := h.fm
  have hbl := h.op.bl
  have hql : q ≤ 9223372036854775807 := by rw [List.length_append] at hq; omega
  have hwq : IntKind.u64.wrap (q : Int) = (q : Int) := by simp [IntKind.wrap, IntKind.bits, IntKind.signed]; omega
  have hZd := hP.zm.below hbd
  have HAp : Hid (AppB B W.drew (.slice l.fa s.F.length l.fc) s.F o.da o.bs) := ⟨hZd.ownF, (h.op.data.below hP.bel).below hbd, by omega, by show B ≤ W.heap.size; omega⟩
  have HF0 : Hid (∀ v' w1, OwnB w1 B v' (s.F ++ o.bs) → Gr (.slice l.fa s.F.length l.fc) v' W.drew w1 → ∃ ya yc, v' = .slice ya q yc ∧ w1.cell? ⟨l.sb, 0, none⟩ = some (.slice l.fa s.F.length l.fc) ∧ w1.frozen? ⟨l.sb, 0, none⟩ = false ∧ MSt B W (w1.setCell ⟨l.sb, 0, none⟩ (.slice ya q yc)) l { l with fa := ya, fc := yc } s (zfeed s o.bs)) := fun v' w1 g1 g2 => by
    obtain ⟨ya, yc, hy⟩ := OwnB.form g1
    subst hy
    obtain ⟨x1, x2, x3⟩ := hZd.fed g1 g2 (fun x hx => by
      rcases List.mem_append.1 hx with hx | hx
      · exact hP.zm.fb x hx
      · exact h.op.data.lt x hx)
    rw [hq] at x3
    exact ⟨ya, yc, by rw [hq], x1, x2, (MSt.start hP.zm hbd).trans x3⟩
  clear hz hbd hBW hfm hbl hql hZd
  unfold opB ans0 at hW
  unfold opV
  clear h hP h0
  go_enter Tryz.func9, Tryz.ntmps9
  go_upto_region 7 with fail
  clear hW
  go_region_law (first
    | ((with_reducible refine step_append_bl (c := o.dc) HAp.out ?_ ?_ ?_); rfl; rfl; intro v' w1 g1 g2; obtain ⟨ya, yc, hy, x1, x2, x3⟩ := HF0.out v' w1 g1 g2; subst hy; have HX : Hid _ := x3; clear x3 g1 g2))
  all_goals
    have hS1 := HX.out
    obtain ⟨V1, hV1⟩ : ∃ V1, w1.setCell ⟨l.sb, 0, none⟩ (.slice ya q yc) = V1 := ⟨_, rfl⟩
    rw [hV1] at hS1
    (try rw [hV1])
    have k0 : V1.cell? ⟨l.sb, 0, none⟩ = some (.slice ya q yc) := by rw [← hq]; exact hS1.zm.cell 0
    have hres := hS1.res HP.out
    have HRes : Hid (Res V1 (w.heap.size + 1)) := hres
    have HF : Hid _ := StM.mk0 hS1 HP.out HZS.out
    obtain ⟨r0, r1, r2, r3, r4, r5, rf⟩ := hres.cells
    clear hres hS1 HX HF0 HAp HZS x1 x2 hq
    go_wp2
    exact retStepM rfl rfl HRes.out HF.out

set_option maxRecDepth 100000 in
set_option maxHeartbeats 2000000 in
theorem zm2 {B : Nat} {w : World} {l : Ml} {s : ZSt} {o : OpD} (h : InN B w l s o) (h0 : o.kind = 2) :
    Calls Tryz.prog 9 #[.pointer (some ⟨l.sb, 0, none⟩), opV o] w (StM B w l s o) := by
  obtain ⟨W, hW⟩ : ∃ W, (w.alloc (opB o)).alloc ans0 = W := ⟨_, rfl⟩
  have hP := proM h hW
  have c0 : W.cell? ⟨w.heap.size, 0, none⟩ = some (.int .u8 (o.kind : Int)) := hP.cell 0
  have c2 : W.cell? ⟨w.heap.size, 2, none⟩ = some (.int .u8 (o.b : Int)) := hP.cell 2
  have c3 : W.cell? ⟨w.heap.size, 3, none⟩ = some (.int .i64 o.n) := hP.cell 3
  have m0 : W.cell? ⟨l.sb, 0, none⟩ = some (.slice l.fa s.F.length l.fc) := hP.zm.cell 0
  have mf0 := hP.zm.fr 0
  have b0 : ((o.kind : Int) == 0) = false := by simp; omega
  have b1 : ((o.kind : Int) == 1) = false := by simp; omega
  have b2 : ((o.kind : Int) == 2) = true := by simp; omega
  have HP : Hid (ProM B w W l s o) := hP
  have hbd : Below W.heap.size W W.drew := (Below.refl _ _).drew
  have hBW : B ≤ W.heap.size := by have h1 := hP.Bw; have h2 := hP.sz; omega
  have hz : zstep s o = (zfeed s (List.replicate (fill o.n) o.b), ⟨0, 0, (s.F ++ List.replicate (fill o.n) o.b).length, 0, [], 0⟩) := by
    unfold zstep
    rw [if_neg (by omega), if_neg (by omega), if_pos h0]
  have hfl : fill o.n ≤ 65536 := by unfold fill; omega
  have hob := h.op.hb
  obtain ⟨n, hn⟩ : ∃ n, fill o.n = n := ⟨_, rfl⟩
  rw [hn] at hz hfl
  have hlr : (s.F ++ List.replicate n o.b).length = s.F.length + n := by simp
  rw [hlr] at hz
  have HZS : Hid (zstep s o = (zfeed s (List.replicate n o.b), ⟨0, 0, s.F.length + n, 0, [], 0⟩)) := hz
  have hfm := h.fm
  have HFc : Hid (∀ V, Calls Tryz.prog 18 #[.int .i64 o.n] V fun r w' => r = .returned (.int .i64 (n : Int)) ∧ w' = V) := fun V => by
    rw [← hn]; exact fillCount_any o.n V h.op.hn.1 h.op.hn.2
  have HSt : Hid (MSt B W W l { l with fa := l.fa, fc := l.fc } s (zfeed s (List.replicate 0 o.b))) := by
    have e1 : zfeed s (List.replicate 0 o.b) = s := by unfold zfeed; simp
    show MSt B W W l l s _
    rw [e1]; exact MSt.refl hP.zm
  have HFz : Hid (fill o.n = n) := hn
  clear hz hbd hlr hn hBW
  unfold opB ans0 at hW
  unfold opV
  clear h hP h0
  go_enter Tryz.func9, Tryz.ntmps9
  go_wp2_with fail
  clear hW m0 mf0
  go_loopw [5] (fun i wr => ∃ j fa fc, j ≤ n ∧ i = .int .i64 (j : Nat) ∧ MSt B W wr l { l with fa := fa, fc := fc } s (zfeed s (List.replicate j o.b))) (fun i _ => n - (intOf i).toNat)
  case atStart => exact ⟨0, l.fa, l.fc, Nat.zero_le _, rfl, HSt.out⟩
  case round =>
    obtain ⟨j, fa, fc, hj, rfl, hS⟩ := hrel
    have k2 : wr.cell? ⟨w.heap.size, 2, none⟩ = some (.int .u8 (o.b : Int)) := hS.opc HP.out 2
    have k3 : wr.cell? ⟨w.heap.size, 3, none⟩ = some (.int .i64 o.n) := hS.opc HP.out 3
    have hlj : (s.F ++ List.replicate j o.b).length = s.F.length + j := by simp
    obtain ⟨q, hq⟩ : ∃ q, (s.F ++ List.replicate j o.b).length = q := ⟨_, rfl⟩
    have k0 : wr.cell? ⟨l.sb, 0, none⟩ = some (.slice fa q fc) := by rw [← hq]; exact hS.zm.cell 0
    have HFw : Hid _ := HFc.out wr
    by_cases hlt : j < n
    · have hlt' : (j : Int) < (n : Int) := by omega
      have hl : ∀ x ∈ [o.b], x < 256 := by intro x hx; simp at hx; omega
      have hal : Below wr.heap.size wr (wr.alloc (.cells #[.int .u8 (o.b : Int)] 5)).drew := ((Below.refl _ _).alloc (Nat.le_refl _) _).drew
      have hZa := hS.zm.below hal
      have k0a : (wr.alloc (.cells #[.int .u8 (o.b : Int)] 5)).cell? ⟨l.sb, 0, none⟩ = some (.slice fa q fc) := by rw [← hq]; exact (hS.zm.below ((Below.refl _ _).alloc (Nat.le_refl _) _)).cell 0
      have hsz := Nat.le_trans hS.zm.hB (Nat.le_of_lt hS.zm.lt)
      have hrep : s.F ++ List.replicate j o.b ++ [o.b] = s.F ++ List.replicate (j + 1) o.b := by rw [List.append_assoc, ← List.replicate_succ']
      have HAp : Hid (AppB B (wr.alloc (.cells #[.int .u8 (o.b : Int)] 5)).drew (.slice fa q fc) (s.F ++ List.replicate j o.b) (some ⟨wr.heap.size, 0, none⟩) [o.b]) := ⟨by rw [← hq]; exact hZa.ownF, (lit_row wr [o.b] hl).below ((Below.refl _ _).drew), by rw [hlj]; simp; omega, by rw [show ((wr.alloc (.cells #[.int .u8 (o.b : Int)] 5)).drew).heap.size = wr.heap.size + 1 by simp [World.drew]]; omega⟩
      have HF0 : Hid (∀ v' w1, OwnB w1 B v' (s.F ++ List.replicate j o.b ++ [o.b]) → Gr (.slice fa q fc) v' (wr.alloc (.cells #[.int .u8 (o.b : Int)] 5)).drew w1 → ∃ ya yl yc, v' = .slice ya yl yc ∧ w1.cell? ⟨l.sb, 0, none⟩ = some (.slice fa q fc) ∧ w1.frozen? ⟨l.sb, 0, none⟩ = false ∧ MSt B W (w1.setCell ⟨l.sb, 0, none⟩ (.slice ya yl yc)) l { l with fa := ya, fc := yc } s (zfeed s (List.replicate (j + 1) o.b))) := fun v' w1 g1 g2 => by
        rw [hrep] at g1
        obtain ⟨ya, yc, hy⟩ := OwnB.form g1
        subst hy
        rw [← hq] at g2
        obtain ⟨x1, x2, x3⟩ := hZa.fed g1 g2 (fun x hx => by
          rcases List.mem_append.1 hx with hx | hx
          · exact HP.out.zm.fb x hx
          · rw [(List.mem_replicate.1 hx).2]; exact hob)
        rw [← hq]
        exact ⟨ya, _, yc, rfl, x1, x2, (hS.below hal).trans x3⟩
      clear hS hq hlj hal hZa hsz hrep hl
      go_wp2_with fail
      refine Calls.mono HFw.out ?_
      rintro r w9 ⟨rfl, hw⟩
      rw [hw]
      clear hw w9 HFw
      go_upto_region 13 with fail
      go_region_law (first
        | ((with_reducible refine step_append_bl (c := 1) HAp.out ?_ ?_ ?_); rfl; rfl; intro v' w1 g1 g2; obtain ⟨ya, yl, yc, hy, x1, x2, x3⟩ := HF0.out v' w1 g1 g2; subst hy; have HX : Hid _ := x3; clear x3 g1 g2))
      all_goals
        go_wp2
        go_roundw
        case rel => exact ⟨j + 1, ya, yc, by omega, by go_num, HX.out⟩
        case measure => simp [intOf]; omega
    · have hjn : j = n := by omega
      subst hjn
      rw [hlj] at hq
      subst hq
      have hlt' : ¬ (j : Int) < (j : Int) := by omega
      have hwq : IntKind.u64.wrap ((s.F.length + j : Nat) : Int) = ((s.F.length + j : Nat) : Int) := by simp [IntKind.wrap, IntKind.bits, IntKind.signed]; omega
      have hres := hS.res HP.out
      have HRes : Hid (Res wr (w.heap.size + 1)) := hres
      have HF : Hid _ := StM.mk0 hS HP.out HZS.out
      obtain ⟨r0, r1, r2, r3, r4, r5, rf⟩ := hres.cells
      clear hres hS hlj HZS
      generalize s.F.length + j = q at *
      go_wp2_with fail
      refine Calls.mono HFw.out ?_
      rintro r w9 ⟨rfl, hw⟩
      rw [hw]
      clear hw w9 HFw
      go_wp2
      exact retStepM rfl rfl HRes.out HF.out
end Go.Proofs.Qxb6500698aGreatDoor
