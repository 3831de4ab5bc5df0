/-
  THE STEPS OF THE MODEL: none, KReset, KPutRaw, KNew.
-/
import Derived.Test.Qxb6500698aGreatDoorZN0
import Derived.Deep.RegionHeld3
namespace Go.Proofs.Qxb6500698aGreatDoor
open Go.RowKit

section
variable {B : Nat} {w : World} {l : Ml} {s : ZSt}
/-- A new writer. -/
theorem ZM.newW (h : ZM B w l s) (lim : Nat) (hl : lim ≤ 1024) : MSt B w (((w.setCell ⟨l.sb, 1, none⟩ (.slice none 0 0)).setCell ⟨l.sb, 2, none⟩ (.int .i64 (lim : Int))).setCell ⟨l.sb, 3, none⟩ (.int .u8 0)) l { l with oa := none, oc := 0 } s { s with O := [], lim := lim, oe := none } := by
  have hO : Only l.sb w (((w.setCell ⟨l.sb, 1, none⟩ (.slice none 0 0)).setCell ⟨l.sb, 2, none⟩ (.int .i64 (lim : Int))).setCell ⟨l.sb, 3, none⟩ (.int .u8 0)) := (((Only.refl _ _).setCell _ _).setCell _ _).setCell _ _
  refine ⟨{ h with at_ := ?_, ownF := own_same h.ownF (fun b hb => hO.block b (fun e => h.nF (by rw [own_blk] at hb; rw [hb, e]))) (Nat.le_of_eq hO.size.symm), ownO := (by simpa [OwnB] using World.ownsRow_nil _ B 5 1), rowI := brow_keep h.rowI (fun h0 b o ha => hO.block b (h.nI b ⟨h0, o, ha⟩).1), ol := Nat.zero_le _, lim := hl, ob := (by intro x hx; cases hx), nO := (by intro hx; cases hx), nFO := (fun b _ hx => (by cases hx)), nI := (fun b hb => ⟨(h.nI b hb).1, (h.nI b hb).2.1, (by intro hx; cases hx)⟩) }, Only.chg hO (.inl rfl), rfl, fun b hb => ?_, fun b hb => ?_⟩
  · have h1 := h.at_
    simp [World.setCell, Array.getElem?_modify, h1]
    rfl
  · rcases hb with (hb | hb | hb) | hb
    · exact .inl (.inl hb)
    · exact .inl (.inr (.inl hb))
    · cases hb
    · exact .inr (.inl hb)
  · rcases hb with hb | hb | hb
    · exact .inl (.inl hb)
    · exact .inl (.inr (.inl hb))
    · cases hb
/-- Nothing fed. -/
theorem ZM.reset (h : ZM B w l s) : MSt B w (w.setCell ⟨l.sb, 0, none⟩ (.slice none 0 0)) l { l with fa := none, fc := 0 } s { s with F := [] } :=
  (h.fed (w1 := w) (F' := []) (ya := none) (yc := 0) (by simpa [OwnB] using World.ownsRow_nil _ B 5 1) ⟨Chg.refl _ _, fun b hb => (by cases hb)⟩ (by intro x hx; cases hx)).2.2
end

set_option maxRecDepth 100000 in
set_option maxHeartbeats 2000000 in
theorem zmD {B : Nat} {w : World} {l : Ml} {s : ZSt} {o : OpD} (h : InN B w l s o) (h0 : 18 < o.kind) :
    Calls Tryz.prog 9 #[.pointer (some ⟨l.sb, 0, none⟩), opV o] w (StM B w l s o) := by
  obtain ⟨W, hW⟩ : ∃ W, (w.alloc (opB o)).alloc ans0 = W := ⟨_, rfl⟩
  have hP := proM h hW
  have c0 : W.cell? ⟨w.heap.size, 0, none⟩ = some (.int .u8 (o.kind : Int)) := hP.cell 0

  have b0 : ((o.kind : Int) == 0) = false := by simp; omega
  have b1 : ((o.kind : Int) == 1) = false := by simp; omega
  have b2 : ((o.kind : Int) == 2) = false := by simp; omega
  have b3 : ((o.kind : Int) == 3) = false := by simp; omega
  have b4 : ((o.kind : Int) == 4) = false := by simp; omega
  have b5 : ((o.kind : Int) == 5) = false := by simp; omega
  have b6 : ((o.kind : Int) == 6) = false := by simp; omega
  have b7 : ((o.kind : Int) == 7) = false := by simp; omega
  have b8 : ((o.kind : Int) == 8) = false := by simp; omega
  have b9 : ((o.kind : Int) == 9) = false := by simp; omega
  have b10 : ((o.kind : Int) == 10) = false := by simp; omega
  have b11 : ((o.kind : Int) == 11) = false := by simp; omega
  have b12 : ((o.kind : Int) == 12) = false := by simp; omega
  have b13 : ((o.kind : Int) == 13) = false := by simp; omega
  have b14 : ((o.kind : Int) == 14) = false := by simp; omega
  have b15 : ((o.kind : Int) == 15) = false := by simp; omega
  have b16 : ((o.kind : Int) == 16) = false := by simp; omega
  have b17 : ((o.kind : Int) == 17) = false := by simp; omega
  have b18 : ((o.kind : Int) == 18) = false := by simp; omega
  have HP : Hid (ProM B w W l s o) := hP
  have hbd : Below W.heap.size W W.drew := (Below.refl _ _).drew
  have hBW : B ≤ W.heap.size := by have h1 := hP.Bw; have h2 := hP.sz; omega
  have hz : zstep s o = (s, ⟨0, 0, 0, 0, [], 0⟩) := by
    unfold zstep
    rw [if_neg (by omega), if_neg (by omega), if_neg (by omega), if_neg (by omega), if_neg (by omega), if_neg (by omega), if_neg (by omega), if_neg (by omega), if_neg (by omega), if_neg (by omega), if_neg (by omega), if_neg (by omega), if_neg (by omega), if_neg (by omega), if_neg (by omega), if_neg (by omega), if_neg (by omega), if_neg (by omega), if_neg (by omega)]
  have HZS : Hid (zstep s o = (s, ⟨0, 0, 0, 0, [], 0⟩)) := hz
  have hS := MSt.refl hP.zm
  have hres := hS.res HP.out
  have HRes : Hid (Res W (w.heap.size + 1)) := hres
  have HF : Hid (StM B w l s o (.returned (ansV 0 0 0 0 none 0 0 0)) (ansW W (w.heap.size + 1) (.int .u32 ((0 : Nat) : Int)) (.int .u32 ((0 : Nat) : Int)) (.int .u64 ((0 : Nat) : Int)) (.int .u64 ((0 : Nat) : Int)) (.slice none 0 0) (.int .u8 ((0 : Nat) : Int)))) := StM.mk0 hS HP.out HZS.out
  obtain ⟨r0, r1, r2, r3, r4, r5, rf⟩ := hres.cells
  clear hres hS hz hbd hBW HZS
  unfold opB ans0 at hW
  unfold opV
  clear h hP h0
  go_enter Tryz.func9, Tryz.ntmps9
  go_wp2
  exact retStepM rfl rfl HRes.out HF.out

set_option maxRecDepth 100000 in
set_option maxHeartbeats 2000000 in
theorem zm0 {B : Nat} {w : World} {l : Ml} {s : ZSt} {o : OpD} (h : InN B w l s o) (h0 : o.kind = 0) :
    Calls Tryz.prog 9 #[.pointer (some ⟨l.sb, 0, none⟩), opV o] w (StM B w l s o) := by
  obtain ⟨W, hW⟩ : ∃ W, (w.alloc (opB o)).alloc ans0 = W := ⟨_, rfl⟩
  have hP := proM h hW
  have c0 : W.cell? ⟨w.heap.size, 0, none⟩ = some (.int .u8 (o.kind : Int)) := hP.cell 0
  have m0 : W.cell? ⟨l.sb, 0, none⟩ = some (.slice l.fa s.F.length l.fc) := hP.zm.cell 0
  have mf0 := hP.zm.fr 0
  have b0 : ((o.kind : Int) == 0) = true := by simp; omega
  have HP : Hid (ProM B w W l s o) := hP
  have hbd : Below W.heap.size W W.drew := (Below.refl _ _).drew
  have hBW : B ≤ W.heap.size := by have h1 := hP.Bw; have h2 := hP.sz; omega
  have hz : zstep s o = ({ s with F := [] }, ⟨0, 0, 0, 0, [], 0⟩) := by
    unfold zstep
    rw [if_pos h0]
  have HZS : Hid (zstep s o = ({ s with F := [] }, ⟨0, 0, 0, 0, [], 0⟩)) := hz
  have hS := hP.zm.reset
  have hlt := hP.z0.lt
  have hne : ¬ l.sb = w.heap.size + 1 := by omega
  obtain ⟨q0, q1, q2, q3, q4, q5, qf⟩ := hP.res.cells
  obtain ⟨V1, hV1⟩ : ∃ V1, W.setCell ⟨l.sb, 0, none⟩ (.slice none 0 0) = V1 := ⟨_, rfl⟩
  rw [hV1] at hS
  have hres := hS.res HP.out
  have HRes : Hid (Res V1 (w.heap.size + 1)) := hres
  have HF : Hid (StM B w l s o (.returned (ansV 0 0 0 0 none 0 0 0)) (ansW V1 (w.heap.size + 1) (.int .u32 ((0 : Nat) : Int)) (.int .u32 ((0 : Nat) : Int)) (.int .u64 ((0 : Nat) : Int)) (.int .u64 ((0 : Nat) : Int)) (.slice none 0 0) (.int .u8 ((0 : Nat) : Int)))) := StM.mk0 hS HP.out HZS.out
  obtain ⟨r0, r1, r2, r3, r4, r5, rf⟩ := hres.cells
  clear hres hS hz hbd hBW HZS hlt q0 q1 q2 q3 q4 q5 qf
  unfold opB ans0 at hW
  unfold opV
  clear h hP h0
  go_enter Tryz.func9, Tryz.ntmps9
  go_upto_region 5 with fail
  (try rw [hV1])
  go_wp2
  exact retStepM rfl rfl HRes.out HF.out

set_option maxRecDepth 100000 in
set_option maxHeartbeats 2000000 in
theorem zm6 {B : Nat} {w : World} {l : Ml} {s : ZSt} {o : OpD} (h : InN B w l s o) (h0 : o.kind = 6) :
    Calls Tryz.prog 9 #[.pointer (some ⟨l.sb, 0, none⟩), opV o] w (StM B w l s o) := by
  obtain ⟨W, hW⟩ : ∃ W, (w.alloc (opB o)).alloc ans0 = W := ⟨_, rfl⟩
  have hP := proM h hW
  have c0 : W.cell? ⟨w.heap.size, 0, none⟩ = some (.int .u8 (o.kind : Int)) := hP.cell 0
  have c1 : W.cell? ⟨w.heap.size, 1, none⟩ = some (.slice o.da o.bs.length o.dc) := hP.cell 1
  have b0 : ((o.kind : Int) == 0) = false := by simp; omega
  have b1 : ((o.kind : Int) == 1) = false := by simp; omega
  have b2 : ((o.kind : Int) == 2) = false := by simp; omega
  have b3 : ((o.kind : Int) == 3) = false := by simp; omega
  have b4 : ((o.kind : Int) == 4) = false := by simp; omega
  have b5 : ((o.kind : Int) == 5) = false := by simp; omega
  have b6 : ((o.kind : Int) == 6) = true := by simp; omega
  have HP : Hid (ProM B w W l s o) := hP
  have hbd : Below W.heap.size W W.drew := (Below.refl _ _).drew
  have hBW : B ≤ W.heap.size := by have h1 := hP.Bw; have h2 := hP.sz; omega
  have hz : zstep s o = (zwr s (wwrite s.O s.lim s.oe o.bs), wroteA (zwr s (wwrite s.O s.lim s.oe o.bs))) := by
    unfold zstep
    rw [if_neg (by omega), if_neg (by omega), if_neg (by omega), if_neg (by omega), if_neg (by omega), if_neg (by omega), if_pos h0]
  obtain ⟨S1, hS1e⟩ : ∃ S1, zwr s (wwrite s.O s.lim s.oe o.bs) = S1 := ⟨_, rfl⟩
  rw [hS1e] at hz
  have HZS : Hid (zstep s o = (S1, wroteA S1)) := hz
  have HOp : Hid (Calls Tryz.prog 42 #[.pointer (some ⟨l.sb, 0, none⟩), .slice o.da o.bs.length o.dc] W fun r w' => r = .returned (.tuple #[]) ∧ ∃ ya yc, MSt B W w' l { l with oa := ya, oc := yc } s S1) := by
    rw [← hS1e]
    exact mwrite_any hP.zm hBW (h.op.data.below hP.bel) h.op.bl
  clear hz hbd hS1e hBW
  unfold opB ans0 at hW
  unfold opV
  clear h hP h0
  go_enter Tryz.func9, Tryz.ntmps9
  go_wp2_with fail
  refine Calls.mono HOp.out ?_
  rintro r V1 ⟨rfl, ya, yc, hS1⟩
  clear HOp hW
  obtain ⟨q, hq⟩ : ∃ q, (S1).O.length = q := ⟨_, rfl⟩
  obtain ⟨ec, hec⟩ : ∃ ec, errCode (S1).oe = ec := ⟨_, rfl⟩
  have hql : q ≤ 1024 := by have h1 := hS1.zm.ol; have h2 := hS1.zm.lim; omega
  have hwq : IntKind.u64.wrap (q : Int) = (q : Int) := by simp [IntKind.wrap, IntKind.bits, IntKind.signed]; omega
  have HKm : Hid (∀ V, Below V1.heap.size V1 V → V.cell? ⟨l.sb, 1, none⟩ = some (.slice ya q yc) ∧ V.cell? ⟨l.sb, 3, none⟩ = some (.int .u8 (ec : Int))) := fun V hV => ⟨by rw [← hq]; exact (hS1.zm.below hV).cell 1, by rw [← hec]; exact (hS1.zm.below hV).cell 3⟩
  have hlt := HP.out.z0.lt
  have HKs : Hid (∀ p q0 r t u x, (ansW V1 (w.heap.size + 1) p q0 r t u x).drew.cell? ⟨l.sb, 1, none⟩ = some (.slice ya q yc) ∧ (ansW V1 (w.heap.size + 1) p q0 r t u x).drew.cell? ⟨l.sb, 3, none⟩ = some (.int .u8 (ec : Int))) := fun p q0 r t u x => (by
    have hV := HKm.out V1 (Below.refl _ _)
    have hA := ansW_only V1 (w.heap.size + 1) p q0 r t u x
    generalize ansW V1 (w.heap.size + 1) p q0 r t u x = Y at hA
    exact ⟨(Only.cell hA (by omega)).trans hV.1, (Only.cell hA (by omega)).trans hV.2⟩)
  unfold ansW at HKs
  have hbd1 : Below V1.heap.size V1 V1.drew := (Below.refl _ _).drew
  have HB0 : Hid (Below V1.heap.size V1 V1.drew) := hbd1
  have hres := hS1.res HP.out
  have HRes : Hid (Res V1 (w.heap.size + 1)) := hres
  have HF : Hid (StM B w l s o (.returned (ansV 0 0 q 0 none 0 0 ec)) (ansW V1 (w.heap.size + 1) (.int .u32 ((0 : Nat) : Int)) (.int .u32 ((0 : Nat) : Int)) (.int .u64 (q : Int)) (.int .u64 ((0 : Nat) : Int)) (.slice none 0 0) (.int .u8 (ec : Int))).drew) := (StM.mk0 hS1 HP.out (by rw [HZS.out, ← hq, ← hec]; rfl)).drew
  obtain ⟨r0, r1, r2, r3, r4, r5, rf⟩ := (hS1.res HP.out).cells
  clear hres hbd1 hS1 hlt hql hq hec HZS
  go_upto_region 68 with fail
  go_region_held3 (fun w' => w'.cell? ⟨l.sb, 1, none⟩ = some (.slice ya q yc) ∧ w'.cell? ⟨l.sb, 3, none⟩ = some (.int .u8 (ec : Int)))
    (first | with_reducible exact HKm.out _ HB0.out | with_reducible exact HKs.out _ _ _ _ _ _)
    (fail)
  go_wp2
  exact retStepMd rfl rfl HRes.out HF.out

set_option maxRecDepth 100000 in
set_option maxHeartbeats 2000000 in
theorem zm4 {B : Nat} {w : World} {l : Ml} {s : ZSt} {o : OpD} (h : InN B w l s o) (h0 : o.kind = 4) :
    Calls Tryz.prog 9 #[.pointer (some ⟨l.sb, 0, none⟩), opV o] w (StM B w l s o) := by
  obtain ⟨W, hW⟩ : ∃ W, (w.alloc (opB o)).alloc ans0 = W := ⟨_, rfl⟩
  have hP := proM h hW
  have c0 : W.cell? ⟨w.heap.size, 0, none⟩ = some (.int .u8 (o.kind : Int)) := hP.cell 0
  have c3 : W.cell? ⟨w.heap.size, 3, none⟩ = some (.int .i64 o.n) := hP.cell 3
  have m1 : W.cell? ⟨l.sb, 1, none⟩ = some (.slice l.oa s.O.length l.oc) := hP.zm.cell 1
  have mf1 := hP.zm.fr 1
  have m2 : W.cell? ⟨l.sb, 2, none⟩ = some (.int .i64 (s.lim : Int)) := hP.zm.cell 2
  have mf2 := hP.zm.fr 2
  have m3 : W.cell? ⟨l.sb, 3, none⟩ = some (.int .u8 (errCode s.oe : Int)) := hP.zm.cell 3
  have mf3 := hP.zm.fr 3
  have b0 : ((o.kind : Int) == 0) = false := by simp; omega
  have b1 : ((o.kind : Int) == 1) = false := by simp; omega
  have b2 : ((o.kind : Int) == 2) = false := by simp; omega
  have b3 : ((o.kind : Int) == 3) = false := by simp; omega
  have b4 : ((o.kind : Int) == 4) = true := by simp; omega
  have HP : Hid (ProM B w W l s o) := hP
  have hbd : Below W.heap.size W W.drew := (Below.refl _ _).drew
  have hBW : B ≤ W.heap.size := by have h1 := hP.Bw; have h2 := hP.sz; omega
  have hz : zstep s o = ({ s with O := [], lim := zlim o.n, oe := none }, wroteA { s with O := [], lim := zlim o.n, oe := none }) := by
    unfold zstep
    rw [if_neg (by omega), if_neg (by omega), if_neg (by omega), if_neg (by omega), if_pos h0]
  have HZS : Hid (zstep s o = ({ s with O := [], lim := zlim o.n, oe := none }, wroteA { s with O := [], lim := zlim o.n, oe := none })) := hz
  have hzl : zlim o.n ≤ 1024 := by unfold zlim; omega
  have HLi : Hid (Calls Tryz.prog 23 #[.int .i64 o.n] W fun e w' => e = .returned (.int .i64 ((zlim o.n : Nat) : Int)) ∧ w' = W) := limit_any o.n W h.op.hn.1 h.op.hn.2
  have hS0 := hP.zm.newW (zlim o.n) hzl
  obtain ⟨V1, hV1⟩ : ∃ V1, ((W.setCell ⟨l.sb, 1, none⟩ (.slice none 0 0)).setCell ⟨l.sb, 2, none⟩ (.int .i64 ((zlim o.n : Nat) : Int))).setCell ⟨l.sb, 3, none⟩ (.int .u8 0) = V1 := ⟨_, rfl⟩
  rw [hV1] at hS0
  have HS00 : Hid (MSt B W V1 l { l with oa := none, oc := 0 } s { s with O := [], lim := zlim o.n, oe := none }) := hS0
  clear hz hbd hzl hS0 hBW
  unfold opB ans0 at hW
  unfold opV
  clear h hP h0
  go_enter Tryz.func9, Tryz.ntmps9
  go_wp2_with fail
  refine Calls.mono HLi.out ?_
  rintro r w9 ⟨rfl, hw⟩
  rw [hw]
  clear hw w9 HLi
  go_upto_region 68 with fail
  clear hW m1 m2 m3
  (try rw [hV1])
  have hS1 := HS00.out
  clear HS00
  obtain ⟨q, hq⟩ : ∃ q, ({ s with O := [], lim := zlim o.n, oe := none }).O.length = q := ⟨_, rfl⟩
  obtain ⟨ec, hec⟩ : ∃ ec, errCode ({ s with O := [], lim := zlim o.n, oe := none }).oe = ec := ⟨_, rfl⟩
  have hql : q ≤ 1024 := by have h1 := hS1.zm.ol; have h2 := hS1.zm.lim; omega
  have hwq : IntKind.u64.wrap (q : Int) = (q : Int) := by simp [IntKind.wrap, IntKind.bits, IntKind.signed]; omega
  have HKm : Hid (∀ V, Below V1.heap.size V1 V → V.cell? ⟨l.sb, 1, none⟩ = some (.slice none q 0) ∧ V.cell? ⟨l.sb, 3, none⟩ = some (.int .u8 (ec : Int))) := fun V hV => ⟨by rw [← hq]; exact (hS1.zm.below hV).cell 1, by rw [← hec]; exact (hS1.zm.below hV).cell 3⟩
  have hlt := HP.out.z0.lt
  have HKs : Hid (∀ p q0 r t u x, (ansW V1 (w.heap.size + 1) p q0 r t u x).drew.cell? ⟨l.sb, 1, none⟩ = some (.slice none q 0) ∧ (ansW V1 (w.heap.size + 1) p q0 r t u x).drew.cell? ⟨l.sb, 3, none⟩ = some (.int .u8 (ec : Int))) := fun p q0 r t u x => (by
    have hV := HKm.out V1 (Below.refl _ _)
    have hA := ansW_only V1 (w.heap.size + 1) p q0 r t u x
    generalize ansW V1 (w.heap.size + 1) p q0 r t u x = Y at hA
    exact ⟨(Only.cell hA (by omega)).trans hV.1, (Only.cell hA (by omega)).trans hV.2⟩)
  unfold ansW at HKs
  have hbd1 : Below V1.heap.size V1 V1.drew := (Below.refl _ _).drew
  have HB0 : Hid (Below V1.heap.size V1 V1.drew) := hbd1
  have hres := hS1.res HP.out
  have HRes : Hid (Res V1 (w.heap.size + 1)) := hres
  have HF : Hid (StM B w l s o (.returned (ansV 0 0 q 0 none 0 0 ec)) (ansW V1 (w.heap.size + 1) (.int .u32 ((0 : Nat) : Int)) (.int .u32 ((0 : Nat) : Int)) (.int .u64 (q : Int)) (.int .u64 ((0 : Nat) : Int)) (.slice none 0 0) (.int .u8 (ec : Int))).drew) := (StM.mk0 hS1 HP.out (by rw [HZS.out, ← hq, ← hec]; rfl)).drew
  obtain ⟨r0, r1, r2, r3, r4, r5, rf⟩ := (hS1.res HP.out).cells
  clear hres hbd1 hS1 hlt hql hq hec HZS
  go_upto_region 68 with fail
  go_region_held3 (fun w' => w'.cell? ⟨l.sb, 1, none⟩ = some (.slice none q 0) ∧ w'.cell? ⟨l.sb, 3, none⟩ = some (.int .u8 (ec : Int)))
    (first | with_reducible exact HKm.out _ HB0.out | with_reducible exact HKs.out _ _ _ _ _ _)
    (fail)
  go_wp2
  exact retStepMd rfl rfl HRes.out HF.out
end Go.Proofs.Qxb6500698aGreatDoor
