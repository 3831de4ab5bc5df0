/-
  THE STEPS OF THE REAL MACHINES: KBytes, KOpen, KFinish.
-/
import Derived.Test.Qxb6500698aGreatDoorZT4
namespace Go.Proofs.Qxb6500698aGreatDoor
open Go.RowKit
/-- A box's cells. -/
theorem box_cells {X : World} {R : Nat} {a b c d u f : Value} {t : TypeId} (h : X.heap[R]? = some (.cells #[a, b, c, d, u, f] t (0, 0))) : X.cell? ⟨R, 0, none⟩ = some a ∧ X.cell? ⟨R, 1, none⟩ = some b ∧ X.cell? ⟨R, 2, none⟩ = some c ∧ X.cell? ⟨R, 3, none⟩ = some d ∧ X.cell? ⟨R, 4, none⟩ = some u ∧ X.cell? ⟨R, 5, none⟩ = some f ∧ ∀ i, X.frozen? ⟨R, i, none⟩ = false := by
  refine ⟨?_, ?_, ?_, ?_, ?_, ?_, fun i => ?_⟩ <;> simp [World.cell?, World.frozen?, h]

set_option maxRecDepth 100000 in
set_option maxHeartbeats 2000000 in
theorem zr10 {B : Nat} {w : World} {e : Nat → Addr} {l : Rl} {s : ZSt} {o : OpD} (h : InZ B w e l s o) (h0 : o.kind = 10) :
    Calls Tryz.prog 7 #[.pointer (some ⟨l.d, 0, none⟩), opV o] w (StR B w e l s o) := by
  obtain ⟨W, hW⟩ : ∃ W, (w.alloc (opB o)).alloc ans0 = W := ⟨_, rfl⟩
  have hP := pro h hW
  have c0 : W.cell? ⟨w.heap.size, 0, none⟩ = some (.int .u8 (o.kind : Int)) := hP.cell 0

  have b0 : ((o.kind : Int) == 0) = false := by simp; omega
  have b1 : ((o.kind : Int) == 1) = false := by simp; omega
  have b2 : ((o.kind : Int) == 2) = false := by simp; omega
  have b3 : ((o.kind : Int) == 3) = false := by simp; omega
  have b4 : ((o.kind : Int) == 4) = false := by simp; omega
  have b5 : ((o.kind : Int) == 5) = false := by simp; omega
  have b6 : ((o.kind : Int) == 6) = false := by simp; omega
  have b7 : ((o.kind : Int) == 7) = false := by simp; omega
  have b8 : ((o.kind : Int) == 8) = false := by simp; omega
  have b9 : ((o.kind : Int) == 9) = false := by simp; omega
  have b10 : ((o.kind : Int) == 10) = true := by simp; omega
  have HP : Hid (Pro B w W e l s o) := hP
  have HZ : Hid (ZR B w e l s) := h.zr
  have hbd : Below W.heap.size W W.drew := (Below.refl _ _).drew
  have hz : zstep s o = (s, ⟨0, 0, s.O.length, 0, s.O, errCode s.oe⟩) := by
    unfold zstep
    rw [if_neg (by omega), if_neg (by omega), if_neg (by omega), if_neg (by omega), if_neg (by omega), if_neg (by omega), if_neg (by omega), if_neg (by omega), if_neg (by omega), if_neg (by omega), if_pos h0]
    rfl
  obtain ⟨va, vc, hv, _, _, hrow, hbk, hob⟩ := BRow.of_owns hP.zr.wr.own hP.zr.wr.byt
  have HW0 : Hid (Calls Tryz.prog 29 #[.pointer (some ⟨l.d, 0, none⟩)] W fun r w' => r = .returned (ansV 0 0 s.O.length 0 none 0 0 (errCode s.oe)) ∧ Below W.heap.size W w' ∧ W.heap.size ≤ w'.heap.size) := (wrote_any hP.E.E hP.zr).mono (fun r w' h1 => ⟨h1.1, h1.2, h1.2.size⟩)
  have HBy : Hid (∀ V, Below W.heap.size W V → Calls Tryz.prog 30 #[.pointer (some ⟨l.wb, 0, none⟩)] V fun r X => r = .returned (.slice va s.O.length vc) ∧ X = V) := fun V h1 => (wbytes_any (hP.zr.below h1).wr).mono (fun r X ⟨h2, h3⟩ => ⟨by rw [h2, hv], h3⟩)
  have HK7 : Hid (∀ V, Below W.heap.size W V → V.cell? ⟨l.d, 7, none⟩ = some (.pointer (some ⟨l.wb, 0, none⟩))) := fun V hV => (hP.zr.below hV).m7
  have HE : Hid (∀ X R1, Below W.heap.size W X → W.heap.size ≤ R1 → R1 ≠ w.heap.size + 1 ∧ Res X (w.heap.size + 1) ∧ Res (X.setCell ⟨R1, 4, none⟩ (.slice va s.O.length vc)) (w.heap.size + 1) ∧ StR B w e l s o (.returned (ansV 0 0 s.O.length 0 va s.O.length vc (errCode s.oe))) (ansW (X.setCell ⟨R1, 4, none⟩ (.slice va s.O.length vc)) (w.heap.size + 1) (.int .u32 ((0 : Nat) : Int)) (.int .u32 ((0 : Nat) : Int)) (.int .u64 (s.O.length : Int)) (.int .u64 ((0 : Nat) : Int)) (.slice va s.O.length vc) (.int .u8 (errCode s.oe : Int)))) := fun X R1 hX hR => by
    have hb := hX.setCell (p := ⟨R1, 4, none⟩) hR (.slice va s.O.length vc)
    have hS := RSt.start hP.zr hb
    refine ⟨by have := hP.sz; omega, (RSt.start hP.zr hX).res hP h.zr, hS.res hP h.zr, StR.mk1 hS hP h.zr hz (hrow.below hb) (fun _ b o' he => .inl ?_)⟩
    rw [hob, he]; rfl
  obtain ⟨nb, hnb⟩ : ∃ nb, W.heap.size = nb := ⟨_, rfl⟩
  rw [hnb] at HW0 HBy HE HK7
  generalize s.O.length = q at *
  generalize errCode s.oe = ec at *
  clear hz hbd hv hrow hbk hob hnb
  unfold opB ans0 at hW
  unfold opV
  clear h hP h0
  go_enter Tryz.func7, Tryz.ntmps7
  go_wp2_with fail
  refine Calls.mono HW0.out ?_
  rintro r V1 ⟨rfl, hb1, hb1s⟩
  have HB1 : Hid (Below nb W V1) := hb1
  have HB1s : Hid (nb ≤ V1.heap.size) := hb1s
  clear hb1 hb1s hW HW0
  go_upto_region 29 with fail
  obtain ⟨X0, hX0⟩ : ∃ X0, V1.alloc (.cells #[.int .u32 0, .int .u32 0, .int .u64 (q : Int), .int .u64 0, .slice none 0 0, .int .u8 (ec : Int)] 36) = X0 := ⟨_, rfl⟩
  rw [hX0]
  have hbx : X0.heap[V1.heap.size]? = some (.cells #[.int .u32 0, .int .u32 0, .int .u64 (q : Int), .int .u64 0, .slice none 0 0, .int .u8 (ec : Int)] 36 (0, 0)) := by rw [← hX0]; exact heap_alloc_new V1 _
  have hb2 : Below nb W X0 := by rw [← hX0]; exact HB1.out.alloc HB1s.out _
  have hR1 := HB1s.out
  clear hX0 HB1 HB1s
  generalize V1.heap.size = R1 at *
  obtain ⟨hne, hres, hres2, hfin⟩ := HE.out X0 R1 hb2 hR1
  have k7 := HK7.out X0 hb2
  have HBy2 : Hid _ := HBy.out X0 hb2
  have HF : Hid _ := hfin
  have HRes : Hid _ := hres2
  have hne' := Ne.symm hne
  obtain ⟨r0, r1, r2, r3, r4, r5, rf⟩ := hres.cells
  obtain ⟨y0, y1, y2, y3, y4, y5, yf⟩ := box_cells hbx
  clear hfin hres hres2 hbx HBy HE HK7 hb2 hR1
  go_wp2_with fail
  refine Calls.mono HBy2.out ?_
  rintro r _ ⟨rfl, rfl⟩
  clear HBy2
  go_wp2
  exact retStep rfl rfl HRes.out HF.out

set_option maxRecDepth 100000 in
set_option maxHeartbeats 2000000 in
theorem zr18 {B : Nat} {w : World} {e : Nat → Addr} {l : Rl} {s : ZSt} {o : OpD} (h : InZ B w e l s o) (h0 : o.kind = 18) :
    Calls Tryz.prog 7 #[.pointer (some ⟨l.d, 0, none⟩), opV o] w (StR B w e l s o) := by
  obtain ⟨W, hW⟩ : ∃ W, (w.alloc (opB o)).alloc ans0 = W := ⟨_, rfl⟩
  have hP := pro h hW
  have c0 : W.cell? ⟨w.heap.size, 0, none⟩ = some (.int .u8 (o.kind : Int)) := hP.cell 0

  have b0 : ((o.kind : Int) == 0) = false := by simp; omega
  have b1 : ((o.kind : Int) == 1) = false := by simp; omega
  have b2 : ((o.kind : Int) == 2) = false := by simp; omega
  have b3 : ((o.kind : Int) == 3) = false := by simp; omega
  have b4 : ((o.kind : Int) == 4) = false := by simp; omega
  have b5 : ((o.kind : Int) == 5) = false := by simp; omega
  have b6 : ((o.kind : Int) == 6) = false := by simp; omega
  have b7 : ((o.kind : Int) == 7) = false := by simp; omega
  have b8 : ((o.kind : Int) == 8) = false := by simp; omega
  have b9 : ((o.kind : Int) == 9) = false := by simp; omega
  have b10 : ((o.kind : Int) == 10) = false := by simp; omega
  have b11 : ((o.kind : Int) == 11) = false := by simp; omega
  have b12 : ((o.kind : Int) == 12) = false := by simp; omega
  have b13 : ((o.kind : Int) == 13) = false := by simp; omega
  have b14 : ((o.kind : Int) == 14) = false := by simp; omega
  have b15 : ((o.kind : Int) == 15) = false := by simp; omega
  have b16 : ((o.kind : Int) == 16) = false := by simp; omega
  have b17 : ((o.kind : Int) == 17) = false := by simp; omega
  have b18 : ((o.kind : Int) == 18) = true := by simp; omega
  have HP : Hid (Pro B w W e l s o) := hP
  have HZ : Hid (ZR B w e l s) := h.zr
  have hbd : Below W.heap.size W W.drew := (Below.refl _ _).drew
  have hz : zstep s o = (s, ⟨0, 0, s.I.length, 0, [], errCode (if s.ie = none ∧ s.I ≠ [] then some 4 else s.ie)⟩) := by
    unfold zstep
    rw [if_neg (by omega), if_neg (by omega), if_neg (by omega), if_neg (by omega), if_neg (by omega), if_neg (by omega), if_neg (by omega), if_neg (by omega), if_neg (by omega), if_neg (by omega), if_neg (by omega), if_neg (by omega), if_neg (by omega), if_neg (by omega), if_neg (by omega), if_neg (by omega), if_neg (by omega), if_neg (by omega), if_pos h0]
    rfl
  have HW0 : Hid (Calls Tryz.prog 31 #[.pointer (some ⟨l.d, 0, none⟩), .int .u64 (0 : Int), .slice none 0 0] W fun r w' => r = .returned (ansV 0 0 s.I.length 0 none 0 0 (errCode s.ie)) ∧ Below W.heap.size W w' ∧ W.heap.size ≤ w'.heap.size) := (read_any 0 0 0 none hP.E.E hP.zr).mono (fun r w' h1 => ⟨h1.1, h1.2, h1.2.size⟩)
  have hi6 : ∀ i, (if s.ie = none ∧ s.I ≠ [] then some 4 else s.ie) = some i → i < 6 := fun i hi => by
    by_cases h1 : s.ie = none ∧ s.I ≠ []
    · rw [if_pos h1] at hi; cases hi; omega
    · rw [if_neg h1] at hi; exact hP.zr.rd.ie6 i hi
  have HFi : Hid (∀ V, Below W.heap.size W V → Calls Tryz.prog 38 #[.pointer (some ⟨l.rb, 0, none⟩)] V fun r X => r = .returned (errV e (if s.ie = none ∧ s.I ≠ [] then some 4 else s.ie)) ∧ Below W.heap.size W X ∧ ∀ R : Nat, X.heap[R]? = V.heap[R]?) := fun V hV => by
    have hZ := hP.zr.below hV
    refine (rfin_any (hP.E.E.below hV) hZ.rd).mono (fun r X ⟨h1, m, h2⟩ => ⟨?_, by rw [h2]; exact hV.trans (drewN_below _ _ _), fun R => by rw [h2, (World.drewN_alike V m).1]⟩)
    rw [h1]
    have e1 : (s.ie = none ∧ l.off < l.bs.length) = (s.ie = none ∧ s.I ≠ []) := by
      rw [hZ.hI]
      simp only [ne_eq, List.drop_eq_nil_iff, Nat.not_le]
    simp only [e1]
  have HCo : Hid (∀ V, Below W.heap.size W V → Calls Tryz.prog 37 #[errV e (if s.ie = none ∧ s.I ≠ [] then some 4 else s.ie)] V fun r w' => r = .returned (.int .u8 ((errCode (if s.ie = none ∧ s.I ≠ [] then some 4 else s.ie) : Nat) : Int)) ∧ w' = V) := fun V hV => code_any V e (hP.E.E.below hV) _ hi6
  have HK8 : Hid (∀ V, Below W.heap.size W V → V.cell? ⟨l.d, 8, none⟩ = some (.pointer (some ⟨l.rb, 0, none⟩))) := fun V hV => (hP.zr.below hV).m8
  have HE : Hid (∀ X R1, Below W.heap.size W X → W.heap.size ≤ R1 → R1 ≠ w.heap.size + 1 ∧ Res X (w.heap.size + 1) ∧ Res (X.setCell ⟨R1, 5, none⟩ (.int .u8 (errCode (if s.ie = none ∧ s.I ≠ [] then some 4 else s.ie) : Int))) (w.heap.size + 1) ∧ StR B w e l s o (.returned (ansV 0 0 s.I.length 0 none 0 0 (errCode (if s.ie = none ∧ s.I ≠ [] then some 4 else s.ie)))) (ansW (X.setCell ⟨R1, 5, none⟩ (.int .u8 (errCode (if s.ie = none ∧ s.I ≠ [] then some 4 else s.ie) : Int))) (w.heap.size + 1) (.int .u32 ((0 : Nat) : Int)) (.int .u32 ((0 : Nat) : Int)) (.int .u64 (s.I.length : Int)) (.int .u64 ((0 : Nat) : Int)) (.slice none 0 0) (.int .u8 (errCode (if s.ie = none ∧ s.I ≠ [] then some 4 else s.ie) : Int)))) := fun X R1 hX hR => by
    have hb := hX.setCell (p := ⟨R1, 5, none⟩) hR (.int .u8 (errCode (if s.ie = none ∧ s.I ≠ [] then some 4 else s.ie) : Int))
    have hS := RSt.start hP.zr hb
    exact ⟨by have := hP.sz; omega, (RSt.start hP.zr hX).res hP h.zr, hS.res hP h.zr, StR.mk0 hS hP h.zr hz⟩
  obtain ⟨nb, hnb⟩ : ∃ nb, W.heap.size = nb := ⟨_, rfl⟩
  rw [hnb] at HW0 HFi HCo HE HK8
  generalize s.I.length = q at *
  generalize errCode s.ie = ec at *
  generalize errCode (if s.ie = none ∧ s.I ≠ [] then some 4 else s.ie) = ec2 at *
  generalize errV e (if s.ie = none ∧ s.I ≠ [] then some 4 else s.ie) = ev at *
  clear hz hbd hnb hi6
  unfold opB ans0 at hW
  unfold opV
  clear h hP h0
  go_enter Tryz.func7, Tryz.ntmps7
  go_wp2_with fail
  refine Calls.mono HW0.out ?_
  rintro r V1 ⟨rfl, hb1, hb1s⟩
  have HB1 : Hid (Below nb W V1) := hb1
  have HB1s : Hid (nb ≤ V1.heap.size) := hb1s
  clear hb1 hb1s hW HW0
  go_upto_region 50 with fail
  obtain ⟨X0, hX0⟩ : ∃ X0, V1.alloc (.cells #[.int .u32 0, .int .u32 0, .int .u64 (q : Int), .int .u64 0, .slice none 0 0, .int .u8 (ec : Int)] 36) = X0 := ⟨_, rfl⟩
  rw [hX0]
  have hbx : X0.heap[V1.heap.size]? = some (.cells #[.int .u32 0, .int .u32 0, .int .u64 (q : Int), .int .u64 0, .slice none 0 0, .int .u8 (ec : Int)] 36 (0, 0)) := by rw [← hX0]; exact heap_alloc_new V1 _
  have hb2 : Below nb W X0 := by rw [← hX0]; exact HB1.out.alloc HB1s.out _
  have hR1 := HB1s.out
  clear hX0 HB1 HB1s
  generalize V1.heap.size = R1 at *
  have k8 := HK8.out X0 hb2
  have HBx : Hid _ := hbx
  have HR1 : Hid _ := hR1
  have HFi2 : Hid _ := HFi.out X0 hb2
  clear hbx hR1 hb2 HFi HK8
  go_wp2_with fail
  refine Calls.mono HFi2.out ?_
  rintro r X ⟨rfl, hb3, hblk⟩
  obtain ⟨hne, hres, hres2, hfin⟩ := HE.out X R1 hb3 HR1.out
  have HCo2 : Hid _ := HCo.out X hb3
  have HF : Hid _ := hfin
  have HRes : Hid _ := hres2
  have hne' := Ne.symm hne
  obtain ⟨r0, r1, r2, r3, r4, r5, rf⟩ := hres.cells
  obtain ⟨y0, y1, y2, y3, y4, y5, yf⟩ := box_cells ((hblk R1).trans HBx.out)
  clear hfin hres hres2 HBx HE hb3 HR1 hblk HFi2 HCo k8
  go_wp2_with fail
  refine Calls.mono HCo2.out ?_
  rintro r _ ⟨rfl, rfl⟩
  clear HCo2
  go_wp2
  exact retStep rfl rfl HRes.out HF.out

set_option maxRecDepth 100000 in
set_option maxHeartbeats 2000000 in
theorem zr11 {B : Nat} {w : World} {e : Nat → Addr} {l : Rl} {s : ZSt} {o : OpD} (h : InZ B w e l s o) (h0 : o.kind = 11) :
    Calls Tryz.prog 7 #[.pointer (some ⟨l.d, 0, none⟩), opV o] w (StR B w e l s o) := by
  obtain ⟨W, hW⟩ : ∃ W, (w.alloc (opB o)).alloc ans0 = W := ⟨_, rfl⟩
  have hP := pro h hW
  have c0 : W.cell? ⟨w.heap.size, 0, none⟩ = some (.int .u8 (o.kind : Int)) := hP.cell 0

  have b0 : ((o.kind : Int) == 0) = false := by simp; omega
  have b1 : ((o.kind : Int) == 1) = false := by simp; omega
  have b2 : ((o.kind : Int) == 2) = false := by simp; omega
  have b3 : ((o.kind : Int) == 3) = false := by simp; omega
  have b4 : ((o.kind : Int) == 4) = false := by simp; omega
  have b5 : ((o.kind : Int) == 5) = false := by simp; omega
  have b6 : ((o.kind : Int) == 6) = false := by simp; omega
  have b7 : ((o.kind : Int) == 7) = false := by simp; omega
  have b8 : ((o.kind : Int) == 8) = false := by simp; omega
  have b9 : ((o.kind : Int) == 9) = false := by simp; omega
  have b10 : ((o.kind : Int) == 10) = false := by simp; omega
  have b11 : ((o.kind : Int) == 11) = true := by simp; omega
  have HP : Hid (Pro B w W e l s o) := hP
  have HZ : Hid (ZR B w e l s) := h.zr
  have hbd : Below W.heap.size W W.drew := (Below.refl _ _).drew
  have hz : zstep s o = (zrs s s.O none, readA (zrs s s.O none) 0 []) := by
    unfold zstep
    rw [if_neg (by omega), if_neg (by omega), if_neg (by omega), if_neg (by omega), if_neg (by omega), if_neg (by omega), if_neg (by omega), if_neg (by omega), if_neg (by omega), if_neg (by omega), if_neg (by omega), if_pos h0]
  have HZS : Hid (zstep s o = (zrs s s.O none, readA (zrs s s.O none) 0 [])) := hz
  have hol := hP.zr.wr.len
  have hlm := hP.zr.wr.hlim
  obtain ⟨va, vc, hv, _, _, hrow, hbk, hob⟩ := BRow.of_owns hP.zr.wr.own hP.zr.wr.byt
  have HBy : Hid (Calls Tryz.prog 30 #[.pointer (some ⟨l.wb, 0, none⟩)] W fun r X => r = .returned (.slice va s.O.length vc) ∧ X = W) := (wbytes_any hP.zr.wr).mono (fun r X ⟨h2, h3⟩ => ⟨by rw [h2, hv], h3⟩)
  have m7 := hP.zr.m7
  have HOw : Hid (OwnB W W.heap.size (.slice none 0 0) [] ∧ BRow W va s.O) := ⟨by simpa [OwnB] using World.ownsRow_nil W W.heap.size 5 1, hrow⟩
  have hsum : ([] : List Nat).length + s.O.length ≤ 140737488355328 := by simp; omega
  have HNr : Hid (∀ V ya yc, Calls Tryz.prog 13 #[.slice ya s.O.length yc] V fun r w' => r = .returned (.pointer (some ⟨V.heap.size, 0, none⟩)) ∧ w' = V.alloc (.cells #[.slice ya s.O.length yc, .int .i64 0, .nilIface] 92)) := fun V ya yc => newReader_any ya s.O.length yc
  have HS00 : Hid (∀ V v' , OwnB V W.heap.size v' ([] ++ s.O) → W.grownBy V (Value.ownBlock (.slice none 0 0)) → ∃ ya yc, v' = .slice ya s.O.length yc ∧ (let X := V.alloc (.cells #[.slice ya s.O.length yc, .int .i64 0, .nilIface] 92)
      X.cell? ⟨l.d, 8, none⟩ = some (.pointer (some ⟨l.rb, 0, none⟩)) ∧ X.frozen? ⟨l.d, 8, none⟩ = false ∧ RSt B W (X.setCell ⟨l.d, 8, none⟩ (.pointer (some ⟨V.heap.size, 0, none⟩))) e l { l with rb := V.heap.size, ao := ya, bs := s.O, cap := yc, off := 0 } (zrs s s.O none))) := fun V v' h1 h2 => by
    obtain ⟨ya, yc, hy, hc1, hc2, hyr, hyb, _⟩ := BRow.of_owns (bs := s.O) h1 hP.zr.wr.byt
    unfold maxLen at hc2
    have hbV : Below W.heap.size W V := ⟨h2.os, h2.tape, h2.output, h2.size, fun b hb => h2.block b hb (fun hx => by cases hx)⟩
    have hbX : Below W.heap.size W (V.alloc (.cells #[.slice ya s.O.length yc, .int .i64 0, .nilIface] 92)) := hbV.alloc hbV.size _
    have hyx : BRow (V.alloc (.cells #[.slice ya s.O.length yc, .int .i64 0, .nilIface] 92)) ya s.O := hyr.below ((Below.refl _ _).alloc (Nat.le_refl _) _)
    exact ⟨ya, yc, hy, (hP.zr.below hbX).m8, (hP.zr.below hbX).mf 8, hP.zr.newR hbX hbV.size (heap_alloc_new V _) hyx hc1 (by omega) (by omega) (fun h0 b o' he => ⟨.inr (hyb b o' he).1, by have := hyr.at_lt h0 he; omega⟩)⟩
  have hWl : W.heap.size ≤ W.heap.size := Nat.le_refl _
  obtain ⟨nb, hnb⟩ : ∃ nb, W.heap.size = nb := ⟨_, rfl⟩
  rw [hnb] at HOw HS00
  have hnb' : nb ≤ W.heap.size := by omega
  clear hz hbd hv hrow hbk hob hol hlm hWl hnb
  unfold opB ans0 at hW
  unfold opV
  clear h hP h0
  go_enter Tryz.func7, Tryz.ntmps7
  go_wp2_with fail
  refine Calls.mono HBy.out ?_
  rintro r w9 ⟨rfl, hw⟩
  rw [hw]
  clear hw w9 HBy
  go_wp2_with (at_builtin; refine wpList_append_bytes _ rfl _ _ rfl nb (.slice none 0 0) [] s.O rfl HOw.out.1 va vc rfl HOw.out.2 hsum hnb' ?_; intro v' V0 g1 g2 g3; obtain ⟨ya, yc, hy, x8, xf, hS00⟩ := HS00.out V0 v' g1 g2; subst hy; have HS01 : Hid _ := hS00; clear g1 g2 g3 hS00 HS00; have HN1 : Hid _ := HNr.out V0 ya yc)
  refine Calls.mono HN1.out ?_
  rintro r w9 ⟨rfl, hw⟩
  rw [hw]
  clear hw w9 HN1 hW HNr HOw hsum hnb'
  generalize V0.heap.size = rb' at *
  generalize hX : V0.alloc (.cells #[.slice ya s.O.length yc, .int .i64 0, .nilIface] 92) = X at *
  obtain ⟨V1, hV1⟩ : ∃ V1, X.setCell ⟨l.d, 8, none⟩ (.pointer (some ⟨rb', 0, none⟩)) = V1 := ⟨_, rfl⟩
  rw [hV1] at HS01
  have hS1 := HS01.out
  clear HS01 hX
  have HS1 : Hid (RSt B W V1 e l { l with rb := rb', ao := ya, bs := s.O, cap := yc, off := 0 } (zrs s s.O none)) := hS1
  have HRd : Hid (Calls Tryz.prog 31 #[.pointer (some ⟨l.d, 0, none⟩), .int .u64 (0 : Int), .slice none 0 0] V1 fun r w' => r = .returned (ansV 0 0 ((zrs s s.O none)).I.length 0 none 0 0 (errCode ((zrs s s.O none)).ie)) ∧ Below V1.heap.size V1 w') := read_any (l := { l with rb := rb', ao := ya, bs := s.O, cap := yc, off := 0 }) 0 0 0 none (hS1.eb HP.out.zr HP.out.E).E hS1.zr
  clear hS1
  generalize hq : ((zrs s s.O none)).I.length = q at *
  generalize hec : errCode ((zrs s s.O none)).ie = ec at *
  go_wp2_with fail
  refine Calls.mono HRd.out ?_
  rintro r V2 ⟨rfl, hb2⟩
  have hS2 := HS1.out.below hb2
  have hres := hS2.res HP.out HZ.out
  have HF : Hid (StR B w e l s o (.returned (ansV 0 0 q 0 none 0 0 ec)) (ansW V2 (w.heap.size + 1) (.int .u32 ((0 : Nat) : Int)) (.int .u32 ((0 : Nat) : Int)) (.int .u64 (q : Int)) (.int .u64 (0 : Int)) (.slice none 0 0) (.int .u8 (ec : Int)))) := StR.mk0 hS2 HP.out HZ.out (by rw [HZS.out, ← hq, ← hec]; rfl)
  clear hS2 hb2 HRd HS1 HZS hq hec
  have HRes : Hid (Res V2 (w.heap.size + 1)) := hres
  obtain ⟨r0, r1, r2, r3, r4, r5, rf⟩ := hres.cells
  clear hres HP HZ
  go_wp2
  exact retStep rfl rfl HRes.out HF.out
end Go.Proofs.Qxb6500698aGreatDoor
