/-
  THE REAL SIDE's REFUSALS: Encode, ShardLen, Rebuild, Convert, Missing; class of no error.
-/
import Derived.Test.Qxb6500697aDoorMConv
import Derived.Test.Qxb6500697aDoorMMiss
import Derived.Test.Qxb6500697aDoorKReb2
import Derived.Test.Qxb6500697aDoorKPlan2
import Derived.Test.Qxb6500697aDoorKCls
namespace Go.Proofs.Qxb6500697aDoor
open Go.RowKit

set_option maxRecDepth 100000 in
set_option maxHeartbeats 1000000 in
theorem encode_err (w : World) (cb g n oc i : Nat) (oa : Option Addr) (e : Nat → Addr) (hp : Calls Tryd.prog 49 #[.pointer (some ⟨cb, 0, none⟩), .int .u8 g, .int .i64 n] w fun r w' => r = .returned (.tuple #[planZ, errV e (some i)]) ∧ Below w.heap.size w w') :
    Calls Tryd.prog 18 #[.pointer (some ⟨cb, 0, none⟩), .int .u8 g, .slice oa n oc] w fun r w' => r = .returned (.tuple #[.slice none 0 0, errV e (some i)]) ∧ Below w.heap.size w w' := by
  have hI : Tryd.prog.isIface 48 = true := by kernel_rfl
  have HP : Hid _ := hp
  clear hp
  unfold planZ errV at *
  go_enter Tryd.func18, Tryd.ntmps18
  go_wp2_with fail
  refine Calls.mono HP.out ?_
  rintro r w1 ⟨rfl, hb⟩
  have HB : Hid (∀ o, Below w.heap.size w (w1.alloc o)) := fun o => hb.alloc hb.size o
  clear hb HP
  go_wp2
  go_ret2
  exact ⟨rfl, HB.out _⟩

set_option maxRecDepth 100000 in
set_option maxHeartbeats 1000000 in
theorem shardLen_err (w : World) (cb g i : Nat) (n : Int) (e : Nat → Addr) (hp : Calls Tryd.prog 49 #[.pointer (some ⟨cb, 0, none⟩), .int .u8 g, .int .i64 n] w fun r w' => r = .returned (.tuple #[planZ, errV e (some i)]) ∧ Below w.heap.size w w') :
    Calls Tryd.prog 30 #[.pointer (some ⟨cb, 0, none⟩), .int .u8 g, .int .i64 n] w fun r w' => r = .returned (.tuple #[.int .i64 0, errV e (some i)]) ∧ Below w.heap.size w w' := by
  have HP : Hid _ := hp
  clear hp
  unfold planZ errV at *
  go_enter Tryd.func30, Tryd.ntmps30
  go_wp2_with fail
  refine Calls.mono HP.out ?_
  rintro r w1 ⟨rfl, hb⟩
  have HB : Hid (∀ o, Below w.heap.size w (w1.alloc o)) := fun o => hb.alloc hb.size o
  clear hb HP
  go_wp2
  go_ret2
  exact ⟨rfl, HB.out _⟩

set_option maxRecDepth 100000 in
set_option maxHeartbeats 1000000 in
theorem convert_gen (w : World) (cb g n oc : Nat) (oa : Option Addr) (e : Nat → Addr) (hp : Calls Tryd.prog 49 #[.pointer (some ⟨cb, 0, none⟩), .int .u8 g, .int .i64 0] w fun r w' => r = .returned (.tuple #[planZ, errV e (some 1)]) ∧ Below w.heap.size w w') :
    Calls Tryd.prog 32 #[.pointer (some ⟨cb, 0, none⟩), .int .u8 g, .slice oa n oc] w fun r w' => r = .returned (.tuple #[.slice none 0 0, errV e (some 1)]) ∧ Below w.heap.size w w' := by
  have hI : Tryd.prog.isIface 48 = true := by kernel_rfl
  have HP : Hid _ := hp
  clear hp
  unfold planZ errV at *
  go_enter Tryd.func32, Tryd.ntmps32
  go_wp2_with fail
  refine Calls.mono HP.out ?_
  rintro r w1 ⟨rfl, hb⟩
  have HB : Hid (∀ o, Below w.heap.size w (w1.alloc o)) := fun o => hb.alloc hb.size o
  clear hb HP
  go_wp2
  go_ret2
  exact ⟨rfl, HB.out _⟩

/-- A list that Decode refuses: which refusal. -/
def Refu (k N : Nat) (ss : List Sd) (i : Nat) : Prop := gcls k N ss = some i ∨ (Good k N ss ∧ NoRows k ss ∧ i = 8)

set_option maxRecDepth 100000 in
set_option maxHeartbeats 1000000 in
theorem convert_refu (X : Nat → Prop) (w : World) (F : Nat → Prop) (cb mb k m g i : Nat) (ao : Option Addr) (cap : Nat) (ss : List Sd) (e : Nat → Addr) (E : KErrs 10 w e) (hC : CodecAt w F cb mb k m) (hK : Cache X w mb k (k + m)) (hX : ∀ b, X b → b < w.heap.size) (hS : SdRow w ao ss) (hlen : ss.length ≤ 65536) (hg : g = 1 ∨ g = 2 ∨ g = 3) (hi : Refu k (k + m) ss i) :
    Calls Tryd.prog 32 #[.pointer (some ⟨cb, 0, none⟩), .int .u8 g, .slice ao ss.length cap] w fun r w' => r = .returned (.tuple #[.slice none 0 0, errV e (some i)]) ∧ Mut mb w w' ∧ Cache X w' mb k (k + m) := by
  have hI : Tryd.prog.isIface 48 = true := by kernel_rfl
  have HP : Hid _ := plan_ok w F cb mb k m g 0 hC hg (by omega)
  have HD : Hid (∀ w1, Below w.heap.size w w1 → Calls Tryd.prog 22 #[.pointer (some ⟨cb, 0, none⟩), .slice ao ss.length cap] w1 fun r w2 => r = .returned (.tuple #[.slice none 0 0, errV e (some i)]) ∧ Mut mb w w2 ∧ Cache X w2 mb k (k + m)) := fun w1 hb => by
    refine (decode_any X w1 F cb mb k m ao cap ss e (E.below hb) (hC.below hb) (hK.below hb) (fun b hx => Nat.lt_of_lt_of_le (hX b hx) hb.size) (hS.keeps (Below.keeps hb)) hlen).mono ?_
    rintro r w2 ⟨hM, hK2, hcase⟩
    refine ⟨?_, (Below.mut hb mb).trans hM, hK2⟩
    rcases hcase with ⟨j, hgc, hr⟩ | ⟨hG, hNo, hr⟩ | ⟨hG, ob, D, hr, hD1, hD2, hD3, _⟩
    · rcases hi with h | ⟨h, _, _⟩
      · rw [hgc] at h
        rw [hr, Option.some.inj h]
      · rw [gcls_good h] at hgc; cases hgc
    · rcases hi with h | ⟨_, _, h⟩
      · rw [gcls_good hG] at h; cases h
      · rw [hr, h]
    · exfalso
      rcases hi with h | ⟨_, h, _⟩
      · rw [gcls_good hG] at h; cases h
      · exact h ⟨D, hD1, hD2, hD3⟩
  obtain ⟨L, hL⟩ : ∃ L, ss.length = L := ⟨_, rfl⟩
  rw [hL] at HD ⊢
  unfold planV at HP
  generalize psize g k 0 = z1 at *
  generalize punit g k 0 = z2 at *
  generalize pfam g = z3 at *
  clear hC hK hX hS hL hlen hi E hg
  unfold errV at *
  go_enter Tryd.func32, Tryd.ntmps32
  go_wp2_with fail
  refine Calls.mono HP.out ?_
  rintro r w1 ⟨rfl, hb⟩
  have HB : Hid (∀ o, Below w.heap.size w (w1.alloc o)) := fun o => hb.alloc hb.size o
  clear hb HP
  go_wp2_with fail
  refine Calls.mono (HD.out _ (HB.out _)) ?_
  rintro r w2 ⟨rfl, hM, hK2⟩
  have HF : Hid (Mut mb w w2 ∧ Cache X w2 mb k (k + m)) := ⟨hM, hK2⟩
  clear hM hK2 HD
  go_wp2
  go_ret2
  exact ⟨rfl, HF.out⟩

set_option maxRecDepth 100000 in
set_option maxHeartbeats 1000000 in
theorem missing_refu (X : Nat → Prop) (w : World) (F : Nat → Prop) (cb mb k m i : Nat) (ao : Option Addr) (cap : Nat) (ss : List Sd) (e : Nat → Addr) (E : KErrs 10 w e) (hC : CodecAt w F cb mb k m) (hK : Cache X w mb k (k + m)) (hX : ∀ b, X b → b < w.heap.size) (hS : SdRow w ao ss) (hlen : ss.length ≤ 65536) (hi : Refu k (k + m) ss i) :
    Calls Tryd.prog 34 #[.pointer (some ⟨cb, 0, none⟩), .slice ao ss.length cap] w fun r w' => r = .returned (.tuple #[.slice none 0 0, errV e (some i)]) ∧ Mut mb w w' ∧ Cache X w' mb k (k + m) := by
  have hI : Tryd.prog.isIface 48 = true := by kernel_rfl
  have HD : Hid (Calls Tryd.prog 53 #[.pointer (some ⟨cb, 0, none⟩), .slice ao ss.length cap] w fun r w2 => r = Answer4 (.pointer none) (.slice none 0 0) (.slice none 0 0) (errV e (some i)) ∧ Mut mb w w2 ∧ Cache X w2 mb k (k + m)) := by
    refine (restore_any X w F cb mb k m ao cap ss e E hC hK hX hS hlen).mono ?_
    rintro r w2 ⟨hM, hK2, hcase⟩
    refine ⟨?_, hM, hK2⟩
    rcases hcase with ⟨j, hgc, hr⟩ | ⟨hG, hNo, hr⟩ | ⟨hG, sb, da, dc, ob, D, hr, hR⟩
    · rcases hi with h | ⟨h, _, _⟩
      · rw [hgc] at h
        rw [hr, Option.some.inj h]
      · rw [gcls_good h] at hgc; cases hgc
    · rcases hi with h | ⟨_, _, h⟩
      · rw [gcls_good hG] at h; cases h
      · rw [hr, h]
    · exfalso
      rcases hi with h | ⟨_, h, _⟩
      · rw [gcls_good hG] at h; cases h
      · exact h ⟨D, hR.byt, hR.fits, hR.pad⟩
  obtain ⟨L, hL⟩ : ∃ L, ss.length = L := ⟨_, rfl⟩
  rw [hL] at HD ⊢
  clear hC hK hX hS hL hlen hi E
  unfold errV Answer4 at *
  go_enter Tryd.func34, Tryd.ntmps34
  go_wp2_with fail
  refine Calls.mono HD.out ?_
  rintro r w2 ⟨rfl, hM, hK2⟩
  have HF : Hid (Mut mb w w2 ∧ Cache X w2 mb k (k + m)) := ⟨hM, hK2⟩
  clear hM hK2 HD
  go_wp2
  go_ret2
  exact ⟨rfl, HF.out⟩

/-- A zero shard stored into a box that holds one. -/
def zW (W : World) (B : Nat) : World := (((W.setCell ⟨B, 0, none⟩ (.int .u8 0)).setCell ⟨B, 1, none⟩ (.int .i64 0)).setCell ⟨B, 2, none⟩ (.int .i64 0)).setCell ⟨B, 3, none⟩ (.slice none 0 0)
theorem zW_spec {w W : World} {B : Nat} {t : TypeId} (h : W.heap[B]? = some (.cells #[.int .u8 0, .int .i64 0, .int .i64 0, .slice none 0 0] t (0, 0))) (hb : Below w.heap.size w W) (hB : w.heap.size ≤ B) :
    (zW W B).drew.cell? ⟨B, 0, none⟩ = some (.int .u8 0) ∧ (zW W B).drew.cell? ⟨B, 1, none⟩ = some (.int .i64 0) ∧ (zW W B).drew.cell? ⟨B, 2, none⟩ = some (.int .i64 0) ∧ (zW W B).drew.cell? ⟨B, 3, none⟩ = some (.slice none 0 0) ∧ Below w.heap.size w (zW W B).drew := by
  have h1 : (zW W B).drew.heap[B]? = some (.cells #[.int .u8 0, .int .i64 0, .int .i64 0, .slice none 0 0] t (0, 0)) := by
    show (zW W B).heap[B]? = _
    simp [zW, World.setCell, Array.getElem?_modify, h]
  generalize hV : (zW W B).drew = V at h1
  refine ⟨by simp [World.cell?, h1], by simp [World.cell?, h1], by simp [World.cell?, h1], by simp [World.cell?, h1], ?_⟩
  rw [← hV]
  exact ((((hb.setCell (p := ⟨B, 0, none⟩) hB _).setCell (p := ⟨B, 1, none⟩) hB _).setCell (p := ⟨B, 2, none⟩) hB _).setCell (p := ⟨B, 3, none⟩) hB _).drew

set_option maxRecDepth 100000 in
set_option maxHeartbeats 1000000 in
theorem rebuild_ix (w : World) (F : Nat → Prop) (cb mb k m : Nat) (ix : Int) (ao : Option Addr) (n cap : Nat) (e : Nat → Addr) (E : KErrs 10 w e) (hC : CodecAt w F cb mb k m) (hix : ix < 0 ∨ ((k + m : Nat) : Int) ≤ ix) (h1 : -9223372036854775808 ≤ ix) (h2 : ix ≤ 9223372036854775807) :
    Calls Tryd.prog 28 #[.pointer (some ⟨cb, 0, none⟩), .int .i64 ix, .slice ao n cap] w fun r w' => r = .returned (.tuple #[shardZ, errV e (some 3)]) ∧ Below w.heap.size w w' := by
  obtain ⟨W0, hW0⟩ : ∃ W0, w.alloc (.cells #[.int .u8 0, .int .i64 0, .int .i64 0, .slice none 0 0] 60) = W0 := ⟨_, rfl⟩
  have hb0 : Below w.heap.size w W0 := by rw [← hW0]; exact (Below.refl _ _).alloc (Nat.le_refl _) _
  have hB0 : W0.heap[w.heap.size]? = some (.cells #[.int .u8 0, .int .i64 0, .int .i64 0, .slice none 0 0] 60 (0, 0)) := by rw [← hW0]; exact heap_alloc_new w _
  have c3 := Below.keeps hb0 _ _ _ (E.cell 3 (by omega))
  have c3d : W0.drew.cell? ⟨3 + 1, 0, none⟩ = some (.iface 186 (.pointer (some (e 3)))) := c3
  have HNn : Hid _ := codecN_drew W0 F cb mb k m (hC.below hb0)
  obtain ⟨N, hN⟩ : ∃ N, k + m = N := ⟨_, rfl⟩
  rw [hN] at HNn hix
  have hcl := cell_lt (E.cell 3 (by omega))
  have hne : (w.heap.size : Nat) ≠ 3 + 1 := by omega
  have z0 : W0.cell? ⟨w.heap.size, 0, none⟩ = some (.int .u8 0) := by simp [World.cell?, hB0]
  have z1 : W0.cell? ⟨w.heap.size, 1, none⟩ = some (.int .i64 0) := by simp [World.cell?, hB0]
  have z2 : W0.cell? ⟨w.heap.size, 2, none⟩ = some (.int .i64 0) := by simp [World.cell?, hB0]
  have z3 : W0.cell? ⟨w.heap.size, 3, none⟩ = some (.slice none 0 0) := by simp [World.cell?, hB0]
  have f0 : ∀ i, W0.frozen? ⟨w.heap.size, i, none⟩ = false := fun i => by simp [World.frozen?, hB0]
  unfold errV shardZ
  have HB0 : Hid (Below w.heap.size w W0 ∧ W0.heap[w.heap.size]? = some (.cells #[.int .u8 0, .int .i64 0, .int .i64 0, .slice none 0 0] 60 (0, 0))) := ⟨hb0, hB0⟩
  have HZ : Hid _ := zW_spec hB0 hb0 (Nat.le_refl _)
  clear hb0 hB0 E hC hN
  by_cases h0 : ix < 0
  · clear hix HNn
    go_enter Tryd.func28, Tryd.ntmps28
    go_wp2
    go_region
    all_goals
      go_wp2
      obtain ⟨y0, y1, y2, y3, yb⟩ := HZ.out
      show bodyPost _ _ _ _ _ (zW W0 w.heap.size).drew
      obtain ⟨V, hV⟩ : ∃ V, (zW W0 w.heap.size).drew = V := ⟨_, rfl⟩
      rw [hV] at y0 y1 y2 y3 yb ⊢
      refine bodyPost_ret (v := .tuple #[.agg #[.int .u8 0, .int .i64 0, .int .i64 0, .slice none 0 0], .iface 186 (.pointer (some (e 3)))]) (by simp [results, Tryd.results28, go_sem, y0, y1, y2, y3]) rfl ⟨rfl, yb⟩
  · have hix' : (N : Int) ≤ ix := by omega
    clear hix
    go_enter Tryd.func28, Tryd.ntmps28
    go_wp2_with fail
    refine Calls.mono HNn.out ?_
    rintro r w1 ⟨rfl, hw⟩
    have hbd : Below w.heap.size w w1 := by rw [hw]; exact HB0.out.1.drew
    have hBd : w1.heap[w.heap.size]? = some (.cells #[.int .u8 0, .int .i64 0, .int .i64 0, .slice none 0 0] 60 (0, 0)) := by rw [hw]; exact HB0.out.2
    have HZ : Hid _ := zW_spec hBd hbd (Nat.le_refl _)
    have c3 : w1.cell? ⟨3 + 1, 0, none⟩ = some (.iface 186 (.pointer (some (e 3)))) := by rw [hw]; exact c3
    have z0 : w1.cell? ⟨w.heap.size, 0, none⟩ = some (.int .u8 0) := by simp [World.cell?, hBd]
    have z1 : w1.cell? ⟨w.heap.size, 1, none⟩ = some (.int .i64 0) := by simp [World.cell?, hBd]
    have z2 : w1.cell? ⟨w.heap.size, 2, none⟩ = some (.int .i64 0) := by simp [World.cell?, hBd]
    have z3 : w1.cell? ⟨w.heap.size, 3, none⟩ = some (.slice none 0 0) := by simp [World.cell?, hBd]
    have f0 : ∀ i, w1.frozen? ⟨w.heap.size, i, none⟩ = false := fun i => by simp [World.frozen?, hBd]
    clear HNn hbd hBd hw
    go_wp2
    go_region
    all_goals
      go_wp2
      obtain ⟨y0, y1, y2, y3, yb⟩ := HZ.out
      show bodyPost _ _ _ _ _ (zW w1 w.heap.size).drew
      obtain ⟨V, hV⟩ : ∃ V, (zW w1 w.heap.size).drew = V := ⟨_, rfl⟩
      rw [hV] at y0 y1 y2 y3 yb ⊢
      refine bodyPost_ret (v := .tuple #[.agg #[.int .u8 0, .int .i64 0, .int .i64 0, .slice none 0 0], .iface 186 (.pointer (some (e 3)))]) (by simp [results, Tryd.results28, go_sem, y0, y1, y2, y3]) rfl ⟨rfl, yb⟩

set_option maxRecDepth 100000 in
set_option maxHeartbeats 1000000 in
theorem class_nil (w : World) (e : Nat → Addr) (E : KErrs 10 w e) :
    Calls Tryd.prog 25 #[.nilIface] w fun r w' => r = .returned (.int .u8 0) ∧ Below w.heap.size w w' := by
  have hI : Tryd.prog.isIface 48 = true := by kernel_rfl
  have k0 := E.cell 0 (by omega)
  have k1 := E.cell 1 (by omega)
  have k2 := E.cell 2 (by omega)
  have k3 := E.cell 3 (by omega)
  have k4 := E.cell 4 (by omega)
  have k5 := E.cell 5 (by omega)
  have k6 := E.cell 6 (by omega)
  have k7 := E.cell 7 (by omega)
  have k8 := E.cell 8 (by omega)
  clear E
  go_enter Tryd.func25, Tryd.ntmps25
  go_wp2
  go_ret
  exact ⟨rfl, (Below.refl _ _).alloc (Nat.le_refl _) _⟩
end Go.Proofs.Qxb6500697aDoor
