/-
  THE STEPS OF THE REAL MACHINES: KNew, KOpenRaw, KGet, KSkip, KCheckFletcher.
-/
import Derived.Test.Qxb6500698aGreatDoorZT2
namespace Go.Proofs.Qxb6500698aGreatDoor
open Go.RowKit
section
variable {B : Nat} {w V : World} {e : Nat → Addr} {l : Rl} {s : ZSt}
/-- A new reader. -/
theorem ZR.newR {rb' c : Nat} {a : Option Addr} {bs : List Nat} (h : ZR B w e l s) (hb : Below w.heap.size w V) (hrb : w.heap.size ≤ rb') (hat : RdAt V rb' a bs.length c 0 .nilIface) (hrow : BRow V a bs) (hc1 : bs.length ≤ c) (hc2 : c ≤ 9223372036854775807) (hl : bs.length ≤ 65536) (ha : bs ≠ [] → ∀ b o, a = some ⟨b, o, none⟩ → (b < B ∨ w.heap.size ≤ b) ∧ b ≠ rb') :
    RSt B w (V.setCell ⟨l.d, 8, none⟩ (.pointer (some ⟨rb', 0, none⟩))) e l { l with rb := rb', ao := a, bs := bs, cap := c, off := 0 } (zrs s bs none) := by
  have hV := h.below hb
  have hO : Only l.d V (V.setCell ⟨l.d, 8, none⟩ (.pointer (some ⟨rb', 0, none⟩))) := (Only.refl _ _).setCell _ _
  have ld := h.fl.lt
  have lt := h.tab.lt
  have lc := h.dig.lt
  have lw := h.wr.at_.lt
  have n1 := h.n1
  have n2 := h.n2
  have n3 := h.n3
  have hBB := h.hB
  have hBw : B ≤ w.heap.size := Nat.le_trans hBB.1 (Nat.le_of_lt ld)
  have hvl : ∀ b, l.v.ownBlock = some b → b < w.heap.size ∧ B ≤ b := fun b hx => ⟨(h.wr.own.lt b hx).2, (h.wr.own.lt b hx).1⟩
  have hne : ∀ b, bs ≠ [] → (∃ o, a = some ⟨b, o, none⟩) → b ≠ l.d ∧ b ≠ l.cd ∧ b ≠ l.wb ∧ l.v.ownBlock ≠ some b := fun b h0 ⟨o, he⟩ => by
    have h1 := (ha h0 b o he).1
    have h2 := h.wr.hB
    refine ⟨by omega, by omega, by omega, fun hx => ?_⟩
    have := hvl b hx
    omega
  refine ⟨⟨?_, hV.dig.of_block (hO.block _ (Ne.symm n1.2.1)), tabs_keep hV.tab (hO.block _ (Ne.symm n1.1)), hV.wr.keep (fun b hx => hO.block b (fun e1 => ?_)) (Nat.le_of_eq hO.size.symm), ⟨hat.of_block (hO.block _ (by omega)), brow_keep hrow (fun h0 b o he => hO.block b (hne b h0 ⟨o, he⟩).1), Nat.zero_le _, hc1, hc2, hl, (fun i hi => by cases hi), fun h0 b o he => (ha h0 b o he).2, by show B ≤ rb'; omega⟩, rfl, h.hB, ⟨n1.1, n1.2.1, n1.2.2.1, by show l.d ≠ rb'; omega⟩, ⟨n2.1, n2.2.1, by show l.tb ≠ rb'; omega⟩, ⟨n3.1, by show l.cd ≠ rb'; omega, by show l.wb ≠ rb'; omega⟩, fun b hx => ?_, fun b hx => hne b hx.1 hx.2, h.fb⟩, ?_, fun b hx => ?_, rfl, rfl, fun b hx => ?_⟩
  · obtain ⟨low, h1, h2, h3⟩ := hV.fl
    refine ⟨low, h1, ?_, h3⟩
    unfold FdAt at *
    simp [World.setCell, Array.getElem?_modify, h2, zrs]
    rfl
  · rcases hx with hx | hx
    · exact n1.2.2.1 (by rw [← hx, e1])
    · exact (h.nv b hx).1 e1
  · have h1 := h.nv b hx
    have h2 := hvl b hx
    exact ⟨h1.1, h1.2.1, h1.2.2.1, by show b ≠ rb'; omega⟩
  · exact (Below.chg hb _).trans (Only.chg hO (.inl rfl))
  · rcases hx with hx | hx | hx | hx | hx
    · exact .inl (.inl hx)
    · exact .inl (.inr (.inl hx))
    · exact .inl (.inr (.inr (.inl hx)))
    · exact .inr (by have hx : b = rb' := hx; omega)
    · exact .inl (.inr (.inr (.inr (.inr hx))))
  · obtain ⟨h0, o, he⟩ := hx
    rcases (ha h0 b o he).1 with h1 | h1
    · exact .inl h1
    · exact .inr (.inr h1)
/-- A new writer. -/
theorem ZR.newW {wb' lim : Nat} (h : ZR B w e l s) (hb : Below w.heap.size w V) (hwb : w.heap.size ≤ wb') (hat : WrAt V wb' (.slice none 0 0) lim .nilIface) (hl : lim ≤ 1024) :
    RSt B w (V.setCell ⟨l.d, 7, none⟩ (.pointer (some ⟨wb', 0, none⟩))) e l { l with wb := wb', v := .slice none 0 0 } { s with O := [], lim := lim, oe := none } := by
  have hV := h.below hb
  have hO : Only l.d V (V.setCell ⟨l.d, 7, none⟩ (.pointer (some ⟨wb', 0, none⟩))) := (Only.refl _ _).setCell _ _
  have ld := h.fl.lt
  have lt := h.tab.lt
  have lc := h.dig.lt
  have lr := h.rd.at_.lt
  have n1 := h.n1
  have n2 := h.n2
  have n3 := h.n3
  have hBB := h.hB
  refine ⟨⟨?_, hV.dig.of_block (hO.block _ (Ne.symm n1.2.1)), tabs_keep hV.tab (hO.block _ (Ne.symm n1.1)), ⟨hat.of_block (hO.block _ (by omega)), (by simpa [OwnB] using World.ownsRow_nil (V.setCell ⟨l.d, 7, none⟩ (.pointer (some ⟨wb', 0, none⟩))) B 5 1), (by intro x hx; cases hx), Nat.zero_le _, hl, (by intro hx; cases hx), (fun i hi => by cases hi), (by show B ≤ wb'; omega)⟩, hV.rd.keep (hO.block _ (Ne.symm n1.2.2.2)) (brow_keep hV.rd.row (fun h0 b o he => hO.block b (h.nr b ⟨h0, o, he⟩).1)), h.hI, h.hB, ⟨n1.1, n1.2.1, by show l.d ≠ wb'; omega, n1.2.2.2⟩, ⟨n2.1, by show l.tb ≠ wb'; omega, n2.2.2⟩, ⟨by show l.cd ≠ wb'; omega, n3.2.1, by show wb' ≠ l.rb; omega⟩, (fun b hx => (by cases hx)), fun b hx => ?_, h.fb⟩, ?_, fun b hx => ?_, rfl, rfl, fun b hx => .inr (.inl hx)⟩
  · obtain ⟨low, h1, h2, h3⟩ := hV.fl
    refine ⟨low, h1, ?_, h3⟩
    unfold FdAt at *
    simp [World.setCell, Array.getElem?_modify, h2]
  · have h1 := h.nr b hx
    have h2 := h.blt b hx
    exact ⟨h1.1, h1.2.1, by show b ≠ wb'; omega, by intro hy; cases hy⟩
  · exact (Below.chg hb _).trans (Only.chg hO (.inl rfl))
  · rcases hx with hx | hx | hx | hx | hx
    · exact .inl (.inl hx)
    · exact .inl (.inr (.inl hx))
    · exact .inr (by have hx : b = wb' := hx; omega)
    · exact .inl (.inr (.inr (.inr (.inl hx))))
    · cases hx
end
set_option maxHeartbeats 400000 in
theorem limit_any (n : Int) (w : World) (hn : -9223372036854775808 ≤ n) (hn2 : n ≤ 9223372036854775807) :
    Calls Tryz.prog 23 #[.int .i64 n] w fun e w' => e = .returned (.int .i64 ((zlim n : Nat) : Int)) ∧ w' = w := by
  have hf : ((zlim n : Nat) : Int) = n % 1025 := by unfold zlim; omega
  rw [hf]
  go_enter Tryz.func23, Tryz.ntmps23
  go_wp2_with (go_at_call 52; refine (wrap_any _ _ _ (by omega) (by omega) hn hn2).mono ?_; rintro e w' ⟨rfl, rfl⟩)
  go_ret
  exact ⟨rfl, rfl⟩

set_option maxRecDepth 100000 in
set_option maxHeartbeats 2000000 in
theorem zr4 {B : Nat} {w : World} {e : Nat → Addr} {l : Rl} {s : ZSt} {o : OpD} (h : InZ B w e l s o) (h0 : o.kind = 4) :
    Calls Tryz.prog 7 #[.pointer (some ⟨l.d, 0, none⟩), opV o] w (StR B w e l s o) := by
  obtain ⟨W, hW⟩ : ∃ W, (w.alloc (opB o)).alloc ans0 = W := ⟨_, rfl⟩
  have hP := pro h hW
  have c0 : W.cell? ⟨w.heap.size, 0, none⟩ = some (.int .u8 (o.kind : Int)) := hP.cell 0
  have c3 : W.cell? ⟨w.heap.size, 3, none⟩ = some (.int .i64 o.n) := hP.cell 3
  have b0 : ((o.kind : Int) == 0) = false := by simp; omega
  have b1 : ((o.kind : Int) == 1) = false := by simp; omega
  have b2 : ((o.kind : Int) == 2) = false := by simp; omega
  have b3 : ((o.kind : Int) == 3) = false := by simp; omega
  have b4 : ((o.kind : Int) == 4) = true := by simp; omega
  have HP : Hid (Pro B w W e l s o) := hP
  have HZ : Hid (ZR B w e l s) := h.zr
  have hbd : Below W.heap.size W W.drew := (Below.refl _ _).drew
  have hz : zstep s o = ({ s with O := [], lim := zlim o.n, oe := none }, wroteA { s with O := [], lim := zlim o.n, oe := none }) := by
    unfold zstep
    rw [if_neg (by omega), if_neg (by omega), if_neg (by omega), if_neg (by omega), if_pos h0]
  have HZS : Hid (zstep s o = ({ s with O := [], lim := zlim o.n, oe := none }, wroteA { s with O := [], lim := zlim o.n, oe := none })) := hz
  have hzl : zlim o.n ≤ 1024 := by unfold zlim; omega
  have m7 := hP.zr.m7
  have mf := hP.zr.mf 7
  have HLi : Hid (Calls Tryz.prog 23 #[.int .i64 o.n] W fun e w' => e = .returned (.int .i64 ((zlim o.n : Nat) : Int)) ∧ w' = W) := limit_any o.n W h.op.hn.1 h.op.hn.2
  have HNw : Hid (Calls Tryz.prog 12 #[.int .i64 ((zlim o.n : Nat) : Int)] W fun r w' => r = .returned (.pointer (some ⟨W.heap.size, 0, none⟩)) ∧ w' = W.alloc (.cells #[.slice none 0 0, .int .i64 ((zlim o.n : Nat) : Int), .nilIface] 90)) := newWriter_any (zlim o.n) hzl
  obtain ⟨X, hX⟩ : ∃ X, W.alloc (.cells #[.slice none 0 0, .int .i64 ((zlim o.n : Nat) : Int), .nilIface] 90) = X := ⟨_, rfl⟩
  have hbX : Below W.heap.size W X := by rw [← hX]; exact (Below.refl _ _).alloc (Nat.le_refl _) _
  have hXat : WrAt X W.heap.size (.slice none 0 0) (zlim o.n) .nilIface := by rw [← hX]; exact heap_alloc_new W _
  have hS0 := hP.zr.newW hbX (Nat.le_refl _) hXat hzl
  have HS00 : Hid (RSt B W (X.setCell ⟨l.d, 7, none⟩ (.pointer (some ⟨W.heap.size, 0, none⟩))) e l { l with wb := W.heap.size, v := .slice none 0 0 } { s with O := [], lim := zlim o.n, oe := none }) := hS0
  have x7 := (hP.zr.below hbX).m7
  have xf := (hP.zr.below hbX).mf 7
  rw [hX] at HNw
  obtain ⟨wb', hwb'⟩ : ∃ wb', W.heap.size = wb' := ⟨_, rfl⟩
  rw [hwb'] at HNw HS00
  clear hz hbd hzl hbX hXat hS0 hwb' hX
  unfold opB ans0 at hW
  unfold opV
  clear h hP h0
  go_enter Tryz.func7, Tryz.ntmps7
  go_wp2_with fail
  refine Calls.mono HLi.out ?_
  rintro r w9 ⟨rfl, hw⟩
  rw [hw]
  clear hw w9 HLi
  go_wp2_with fail
  refine Calls.mono HNw.out ?_
  rintro r w9 ⟨rfl, hw⟩
  rw [hw]
  clear hw w9 HNw hW m7 mf
  obtain ⟨V1, hV1⟩ : ∃ V1, X.setCell ⟨l.d, 7, none⟩ (.pointer (some ⟨wb', 0, none⟩)) = V1 := ⟨_, rfl⟩
  rw [hV1] at HS00
  have hS1 := HS00.out
  clear HS00
  have HS1 : Hid (RSt B W V1 e l { l with wb := wb', v := .slice none 0 0 } { s with O := [], lim := zlim o.n, oe := none }) := hS1
  have HWr : Hid (Calls Tryz.prog 29 #[.pointer (some ⟨l.d, 0, none⟩)] V1 fun r w' => r = .returned (ansV 0 0 ({ s with O := [], lim := zlim o.n, oe := none }).O.length 0 none 0 0 (errCode ({ s with O := [], lim := zlim o.n, oe := none }).oe)) ∧ Below V1.heap.size V1 w') := wrote_any (l := { l with wb := wb', v := .slice none 0 0 }) (hS1.eb HP.out.zr HP.out.E).E hS1.zr
  clear hS1
  generalize hq : ({ s with O := [], lim := zlim o.n, oe := none }).O.length = q at *
  generalize hec : errCode ({ s with O := [], lim := zlim o.n, oe := none }).oe = ec at *
  go_wp2_with fail
  refine Calls.mono HWr.out ?_
  rintro r V2 ⟨rfl, hb2⟩
  have hS2 := HS1.out.below hb2
  have hres := hS2.res HP.out HZ.out
  have HF : Hid (StR B w e l s o (.returned (ansV 0 0 q 0 none 0 0 ec)) (ansW V2 (w.heap.size + 1) (.int .u32 ((0 : Nat) : Int)) (.int .u32 ((0 : Nat) : Int)) (.int .u64 (q : Int)) (.int .u64 ((0 : Nat) : Int)) (.slice none 0 0) (.int .u8 (ec : Int)))) := StR.mk0 hS2 HP.out HZ.out (by rw [HZS.out, ← hq, ← hec]; rfl)
  clear hS2 hb2 HWr HS1 HZS hq hec
  have HRes : Hid (Res V2 (w.heap.size + 1)) := hres
  obtain ⟨r0, r1, r2, r3, r4, r5, rf⟩ := hres.cells
  clear hres HP HZ
  go_wp2
  exact retStep rfl rfl HRes.out HF.out

set_option maxRecDepth 100000 in
set_option maxHeartbeats 2000000 in
theorem zr12 {B : Nat} {w : World} {e : Nat → Addr} {l : Rl} {s : ZSt} {o : OpD} (h : InZ B w e l s o) (h0 : o.kind = 12) :
    Calls Tryz.prog 7 #[.pointer (some ⟨l.d, 0, none⟩), opV o] w (StR B w e l s o) := by
  obtain ⟨W, hW⟩ : ∃ W, (w.alloc (opB o)).alloc ans0 = W := ⟨_, rfl⟩
  have hP := pro h hW
  have c0 : W.cell? ⟨w.heap.size, 0, none⟩ = some (.int .u8 (o.kind : Int)) := hP.cell 0
  have c1 : W.cell? ⟨w.heap.size, 1, none⟩ = some (.slice o.da o.bs.length o.dc) := hP.cell 1
  have b0 : ((o.kind : Int) == 0) = false := by simp; omega
  have b1 : ((o.kind : Int) == 1) = false := by simp; omega
  have b2 : ((o.kind : Int) == 2) = false := by simp; omega
  have b3 : ((o.kind : Int) == 3) = false := by simp; omega
  have b4 : ((o.kind : Int) == 4) = false := by simp; omega
  have b5 : ((o.kind : Int) == 5) = false := by simp; omega
  have b6 : ((o.kind : Int) == 6) = false := by simp; omega
  have b7 : ((o.kind : Int) == 7) = false := by simp; omega
  have b8 : ((o.kind : Int) == 8) = false := by simp; omega
  have b9 : ((o.kind : Int) == 9) = false := by simp; omega
  have b10 : ((o.kind : Int) == 10) = false := by simp; omega
  have b11 : ((o.kind : Int) == 11) = false := by simp; omega
  have b12 : ((o.kind : Int) == 12) = true := by simp; omega
  have HP : Hid (Pro B w W e l s o) := hP
  have HZ : Hid (ZR B w e l s) := h.zr
  have hbd : Below W.heap.size W W.drew := (Below.refl _ _).drew
  have hz : zstep s o = (zrs s o.bs none, readA (zrs s o.bs none) 0 []) := by
    unfold zstep
    rw [if_neg (by omega), if_neg (by omega), if_neg (by omega), if_neg (by omega), if_neg (by omega), if_neg (by omega), if_neg (by omega), if_neg (by omega), if_neg (by omega), if_neg (by omega), if_neg (by omega), if_neg (by omega), if_pos h0]
  have HZS : Hid (zstep s o = (zrs s o.bs none, readA (zrs s o.bs none) 0 [])) := hz
  have HNr : Hid (Calls Tryz.prog 13 #[.slice o.da o.bs.length o.dc] W fun r w' => r = .returned (.pointer (some ⟨W.heap.size, 0, none⟩)) ∧ w' = W.alloc (.cells #[.slice o.da o.bs.length o.dc, .int .i64 0, .nilIface] 92)) := newReader_any o.da o.bs.length o.dc
  obtain ⟨X, hX⟩ : ∃ X, W.alloc (.cells #[.slice o.da o.bs.length o.dc, .int .i64 0, .nilIface] 92) = X := ⟨_, rfl⟩
  have hbX : Below W.heap.size W X := by rw [← hX]; exact (Below.refl _ _).alloc (Nat.le_refl _) _
  have hXat : RdAt X W.heap.size o.da o.bs.length o.dc 0 .nilIface := by rw [← hX]; exact heap_alloc_new W _
  have hsz := hP.sz
  have hBw := hP.Bw
  have HS00 : Hid (RSt B W (X.setCell ⟨l.d, 8, none⟩ (.pointer (some ⟨W.heap.size, 0, none⟩))) e l { l with rb := W.heap.size, ao := o.da, bs := o.bs, cap := o.dc, off := 0 } (zrs s o.bs none)) := hP.zr.newR hbX (Nat.le_refl _) hXat ((h.op.data.below hP.bel).below hbX) h.op.cap h.op.cap2 h.op.bl (fun h0 b o' he => by have h1 := h.op.lo h0 b o' he; exact ⟨.inl h1, by omega⟩)
  have x8 := (hP.zr.below hbX).m8
  have xf := (hP.zr.below hbX).mf 8
  rw [hX] at HNr
  obtain ⟨rb', hrb'⟩ : ∃ rb', W.heap.size = rb' := ⟨_, rfl⟩
  rw [hrb'] at HNr HS00
  clear hz hbd hbX hXat hrb' hX hsz hBw
  unfold opB ans0 at hW
  unfold opV
  clear h hP h0
  go_enter Tryz.func7, Tryz.ntmps7
  go_wp2_with fail
  refine Calls.mono HNr.out ?_
  rintro r w9 ⟨rfl, hw⟩
  rw [hw]
  clear hw w9 HNr hW
  obtain ⟨V1, hV1⟩ : ∃ V1, X.setCell ⟨l.d, 8, none⟩ (.pointer (some ⟨rb', 0, none⟩)) = V1 := ⟨_, rfl⟩
  rw [hV1] at HS00
  have hS1 := HS00.out
  clear HS00
  have HS1 : Hid (RSt B W V1 e l { l with rb := rb', ao := o.da, bs := o.bs, cap := o.dc, off := 0 } (zrs s o.bs none)) := hS1
  have HRd : Hid (Calls Tryz.prog 31 #[.pointer (some ⟨l.d, 0, none⟩), .int .u64 (0 : Int), .slice none 0 0] V1 fun r w' => r = .returned (ansV 0 0 ((zrs s o.bs none)).I.length 0 none 0 0 (errCode ((zrs s o.bs none)).ie)) ∧ Below V1.heap.size V1 w') := read_any (l := { l with rb := rb', ao := o.da, bs := o.bs, cap := o.dc, off := 0 }) 0 0 0 none (hS1.eb HP.out.zr HP.out.E).E hS1.zr
  clear hS1
  generalize hq : ((zrs s o.bs none)).I.length = q at *
  generalize hec : errCode ((zrs s o.bs none)).ie = ec at *
  go_wp2_with fail
  refine Calls.mono HRd.out ?_
  rintro r V2 ⟨rfl, hb2⟩
  have hS2 := HS1.out.below hb2
  have hres := hS2.res HP.out HZ.out
  have HF : Hid (StR B w e l s o (.returned (ansV 0 0 q 0 none 0 0 ec)) (ansW V2 (w.heap.size + 1) (.int .u32 ((0 : Nat) : Int)) (.int .u32 ((0 : Nat) : Int)) (.int .u64 (q : Int)) (.int .u64 (0 : Int)) (.slice none 0 0) (.int .u8 (ec : Int)))) := StR.mk0 hS2 HP.out HZ.out (by rw [HZS.out, ← hq, ← hec]; rfl)
  clear hS2 hb2 HRd HS1 HZS hq hec
  have HRes : Hid (Res V2 (w.heap.size + 1)) := hres
  obtain ⟨r0, r1, r2, r3, r4, r5, rf⟩ := hres.cells
  clear hres HP HZ
  go_wp2
  exact retStep rfl rfl HRes.out HF.out

set_option maxRecDepth 100000 in
set_option maxHeartbeats 2000000 in
theorem zr13 {B : Nat} {w : World} {e : Nat → Addr} {l : Rl} {s : ZSt} {o : OpD} (h : InZ B w e l s o) (h0 : o.kind = 13) :
    Calls Tryz.prog 7 #[.pointer (some ⟨l.d, 0, none⟩), opV o] w (StR B w e l s o) := by
  obtain ⟨W, hW⟩ : ∃ W, (w.alloc (opB o)).alloc ans0 = W := ⟨_, rfl⟩
  have hP := pro h hW
  have c0 : W.cell? ⟨w.heap.size, 0, none⟩ = some (.int .u8 (o.kind : Int)) := hP.cell 0
  have c5 : W.cell? ⟨w.heap.size, 5, none⟩ = some (.int .i64 o.width) := hP.cell 5
  have b0 : ((o.kind : Int) == 0) = false := by simp; omega
  have b1 : ((o.kind : Int) == 1) = false := by simp; omega
  have b2 : ((o.kind : Int) == 2) = false := by simp; omega
  have b3 : ((o.kind : Int) == 3) = false := by simp; omega
  have b4 : ((o.kind : Int) == 4) = false := by simp; omega
  have b5 : ((o.kind : Int) == 5) = false := by simp; omega
  have b6 : ((o.kind : Int) == 6) = false := by simp; omega
  have b7 : ((o.kind : Int) == 7) = false := by simp; omega
  have b8 : ((o.kind : Int) == 8) = false := by simp; omega
  have b9 : ((o.kind : Int) == 9) = false := by simp; omega
  have b10 : ((o.kind : Int) == 10) = false := by simp; omega
  have b11 : ((o.kind : Int) == 11) = false := by simp; omega
  have b12 : ((o.kind : Int) == 12) = false := by simp; omega
  have b13 : ((o.kind : Int) == 13) = true := by simp; omega
  have HP : Hid (Pro B w W e l s o) := hP
  have HZ : Hid (ZR B w e l s) := h.zr
  have hbd : Below W.heap.size W W.drew := (Below.refl _ _).drew
  have hz : zstep s o = (zrs s (zui s.I s.ie o.width).2.1 (zui s.I s.ie o.width).2.2, readA (zrs s (zui s.I s.ie o.width).2.1 (zui s.I s.ie o.width).2.2) (zui s.I s.ie o.width).1 []) := by
    unfold zstep
    rw [if_neg (by omega), if_neg (by omega), if_neg (by omega), if_neg (by omega), if_neg (by omega), if_neg (by omega), if_neg (by omega), if_neg (by omega), if_neg (by omega), if_neg (by omega), if_neg (by omega), if_neg (by omega), if_neg (by omega), if_pos h0]
  obtain ⟨S1, hS1e⟩ : ∃ S1, zrs s (zui s.I s.ie o.width).2.1 (zui s.I s.ie o.width).2.2 = S1 := ⟨_, rfl⟩
  obtain ⟨x, hxe⟩ : ∃ x, (zui s.I s.ie o.width).1 = x := ⟨_, rfl⟩
  rw [hS1e, hxe] at hz
  have HZS : Hid (zstep s o = (S1, readA S1 x [])) := hz
  have HOp : Hid (Calls Tryz.prog 32 #[.pointer (some ⟨l.d, 0, none⟩), .int .i64 o.width] W fun r w' => r = .returned (.int .u64 (x : Int)) ∧ ∃ off', RSt B W w' e l { l with off := off' } S1) := by
    have he := zuint_zui (bs := l.bs) (off := l.off) (ie := s.ie) (n := o.width)
    rw [← hP.zr.hI] at he
    refine (get_any o.width h.op.hw.1 h.op.hw.2 hP.E hP.zr).mono ?_
    rintro r w' ⟨h1, h2⟩
    rw [he.1, hxe] at h1
    rw [he.2.1, he.2.2] at h2
    exact ⟨h1, _, by rw [← hS1e]; exact h2⟩
  clear hz hbd hS1e hxe
  unfold opB ans0 at hW
  unfold opV
  clear h hP h0
  go_enter Tryz.func7, Tryz.ntmps7
  go_wp2_with fail
  refine Calls.mono HOp.out ?_
  rintro r V1 ⟨rfl, off', hS1⟩
  clear HOp hW
  have HS1 : Hid (RSt B W V1 e l { l with off := off' } S1) := hS1
  have HRd : Hid (Calls Tryz.prog 31 #[.pointer (some ⟨l.d, 0, none⟩), .int .u64 (x : Int), .slice none 0 0] V1 fun r w' => r = .returned (ansV 0 0 (S1).I.length x none 0 0 (errCode (S1).ie)) ∧ Below V1.heap.size V1 w') := read_any (l := { l with off := off' }) x 0 0 none (hS1.eb HP.out.zr HP.out.E).E hS1.zr
  clear hS1
  generalize hq : (S1).I.length = q at *
  generalize hec : errCode (S1).ie = ec at *
  go_wp2_with fail
  refine Calls.mono HRd.out ?_
  rintro r V2 ⟨rfl, hb2⟩
  have hS2 := HS1.out.below hb2
  have hres := hS2.res HP.out HZ.out
  have HF : Hid (StR B w e l s o (.returned (ansV 0 0 q x none 0 0 ec)) (ansW V2 (w.heap.size + 1) (.int .u32 ((0 : Nat) : Int)) (.int .u32 ((0 : Nat) : Int)) (.int .u64 (q : Int)) (.int .u64 (x : Int)) (.slice none 0 0) (.int .u8 (ec : Int)))) := StR.mk0 hS2 HP.out HZ.out (by rw [HZS.out, ← hq, ← hec]; rfl)
  clear hS2 hb2 HRd HS1 HZS hq hec
  have HRes : Hid (Res V2 (w.heap.size + 1)) := hres
  obtain ⟨r0, r1, r2, r3, r4, r5, rf⟩ := hres.cells
  clear hres HP HZ
  go_wp2
  exact retStep rfl rfl HRes.out HF.out

set_option maxRecDepth 100000 in
set_option maxHeartbeats 2000000 in
theorem zr15 {B : Nat} {w : World} {e : Nat → Addr} {l : Rl} {s : ZSt} {o : OpD} (h : InZ B w e l s o) (h0 : o.kind = 15) :
    Calls Tryz.prog 7 #[.pointer (some ⟨l.d, 0, none⟩), opV o] w (StR B w e l s o) := by
  obtain ⟨W, hW⟩ : ∃ W, (w.alloc (opB o)).alloc ans0 = W := ⟨_, rfl⟩
  have hP := pro h hW
  have c0 : W.cell? ⟨w.heap.size, 0, none⟩ = some (.int .u8 (o.kind : Int)) := hP.cell 0
  have c3 : W.cell? ⟨w.heap.size, 3, none⟩ = some (.int .i64 o.n) := hP.cell 3
  have b0 : ((o.kind : Int) == 0) = false := by simp; omega
  have b1 : ((o.kind : Int) == 1) = false := by simp; omega
  have b2 : ((o.kind : Int) == 2) = false := by simp; omega
  have b3 : ((o.kind : Int) == 3) = false := by simp; omega
  have b4 : ((o.kind : Int) == 4) = false := by simp; omega
  have b5 : ((o.kind : Int) == 5) = false := by simp; omega
  have b6 : ((o.kind : Int) == 6) = false := by simp; omega
  have b7 : ((o.kind : Int) == 7) = false := by simp; omega
  have b8 : ((o.kind : Int) == 8) = false := by simp; omega
  have b9 : ((o.kind : Int) == 9) = false := by simp; omega
  have b10 : ((o.kind : Int) == 10) = false := by simp; omega
  have b11 : ((o.kind : Int) == 11) = false := by simp; omega
  have b12 : ((o.kind : Int) == 12) = false := by simp; omega
  have b13 : ((o.kind : Int) == 13) = false := by simp; omega
  have b14 : ((o.kind : Int) == 14) = false := by simp; omega
  have b15 : ((o.kind : Int) == 15) = true := by simp; omega
  have HP : Hid (Pro B w W e l s o) := hP
  have HZ : Hid (ZR B w e l s) := h.zr
  have hbd : Below W.heap.size W W.drew := (Below.refl _ _).drew
  have hz : zstep s o = (zrs s (zrd s.I s.ie o.n).2.1 (zrd s.I s.ie o.n).2.2, readA (zrs s (zrd s.I s.ie o.n).2.1 (zrd s.I s.ie o.n).2.2) 0 []) := by
    unfold zstep
    rw [if_neg (by omega), if_neg (by omega), if_neg (by omega), if_neg (by omega), if_neg (by omega), if_neg (by omega), if_neg (by omega), if_neg (by omega), if_neg (by omega), if_neg (by omega), if_neg (by omega), if_neg (by omega), if_neg (by omega), if_neg (by omega), if_neg (by omega), if_pos h0]
  obtain ⟨S1, hS1e⟩ : ∃ S1, zrs s (zrd s.I s.ie o.n).2.1 (zrd s.I s.ie o.n).2.2 = S1 := ⟨_, rfl⟩
  rw [hS1e] at hz
  have HZS : Hid (zstep s o = (S1, readA S1 0 [])) := hz
  have HOp : Hid (Calls Tryz.prog 34 #[.pointer (some ⟨l.rb, 0, none⟩), .int .i64 o.n] W.drew fun r w' => r = .returned (.tuple #[]) ∧ ∃ off', RSt B W w' e l { l with off := off' } S1) := by
    have he := znext_zrd (bs := l.bs) (off := l.off) (ie := s.ie) (n := o.n)
    rw [← hP.zr.hI] at he
    have hZd := hP.zr.below hbd
    have hEd := (RSt.start hP.zr hbd).eb hP.zr hP.E
    refine (rskip_any o.n h.op.hn.1 h.op.hn.2 hEd.E hZd.rd).mono ?_
    rintro r w' ⟨h1, h2, h3⟩
    have h4 := hZd.reader h2 h3
    rw [he.2.1, he.2.2] at h4
    exact ⟨h1, _, (RSt.start hP.zr hbd).trans (by rw [← hS1e]; exact h4)⟩
  have HKd : Hid (W.drew.cell? ⟨l.d, 8, none⟩ = some (.pointer (some ⟨l.rb, 0, none⟩)) ∧ W.drew.cell? ⟨w.heap.size, 3, none⟩ = some (.int .i64 o.n)) := ⟨(hP.zr.below hbd).m8, (RSt.start hP.zr hbd).opc hP h.zr 3 |>.trans (hP.cell 3)⟩
  have HKv : Hid (∀ V off', RSt B W V e l { l with off := off' } S1 → V.cell? ⟨l.d, 8, none⟩ = some (.pointer (some ⟨l.rb, 0, none⟩)) ∧ V.cell? ⟨w.heap.size, 3, none⟩ = some (.int .i64 o.n)) := fun V off' hS => ⟨hS.zr.m8, (hS.opc hP h.zr 3).trans (hP.cell 3)⟩
  clear hz hbd hS1e
  unfold opB ans0 at hW
  unfold opV
  clear h hP h0
  go_enter Tryz.func7, Tryz.ntmps7
  go_upto_region 42 with fail
  clear hW
  go_region_held3 (fun w' => w'.cell? ⟨l.d, 8, none⟩ = some (.pointer (some ⟨l.rb, 0, none⟩)) ∧ w'.cell? ⟨w.heap.size, 3, none⟩ = some (.int .i64 o.n))
    (first | with_reducible exact HKd.out | with_reducible exact HKx.out)
    (first
      | (go_at_call 34; refine HOp.out.mono ?_; rintro r V1 ⟨rfl, off', hS1⟩; have HS0 : Hid (RSt B W V1 e l { l with off := off' } S1) := hS1; have HKx : Hid (V1.cell? ⟨l.d, 8, none⟩ = some (.pointer (some ⟨l.rb, 0, none⟩)) ∧ V1.cell? ⟨w.heap.size, 3, none⟩ = some (.int .i64 o.n)) := HKv.out V1 off' hS1; clear hS1))
  have hS1 := HS0.out
  clear HOp HKd HKv HKx HS0
  have HS1 : Hid (RSt B W V1 e l { l with off := off' } S1) := hS1
  have HRd : Hid (Calls Tryz.prog 31 #[.pointer (some ⟨l.d, 0, none⟩), .int .u64 (0 : Int), .slice none 0 0] V1 fun r w' => r = .returned (ansV 0 0 (S1).I.length 0 none 0 0 (errCode (S1).ie)) ∧ Below V1.heap.size V1 w') := read_any (l := { l with off := off' }) 0 0 0 none (hS1.eb HP.out.zr HP.out.E).E hS1.zr
  clear hS1
  generalize hq : (S1).I.length = q at *
  generalize hec : errCode (S1).ie = ec at *
  go_wp2_with fail
  refine Calls.mono HRd.out ?_
  rintro r V2 ⟨rfl, hb2⟩
  have hS2 := HS1.out.below hb2
  have hres := hS2.res HP.out HZ.out
  have HF : Hid (StR B w e l s o (.returned (ansV 0 0 q 0 none 0 0 ec)) (ansW V2 (w.heap.size + 1) (.int .u32 ((0 : Nat) : Int)) (.int .u32 ((0 : Nat) : Int)) (.int .u64 (q : Int)) (.int .u64 (0 : Int)) (.slice none 0 0) (.int .u8 (ec : Int)))) := StR.mk0 hS2 HP.out HZ.out (by rw [HZS.out, ← hq, ← hec]; rfl)
  clear hS2 hb2 HRd HS1 HZS hq hec
  have HRes : Hid (Res V2 (w.heap.size + 1)) := hres
  obtain ⟨r0, r1, r2, r3, r4, r5, rf⟩ := hres.cells
  clear hres HP HZ
  go_wp2
  exact retStep rfl rfl HRes.out HF.out
end Go.Proofs.Qxb6500698aGreatDoor
