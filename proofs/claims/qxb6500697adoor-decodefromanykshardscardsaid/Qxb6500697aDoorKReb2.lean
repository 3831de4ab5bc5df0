/-
  THE WALK OF Rebuild.
-/
import Derived.Test.Qxb6500697aDoorKReb
namespace Go.Proofs.Qxb6500697aDoor
open Go.RowKit

def shardZ : Value := .agg #[.int .u8 0, .int .i64 0, .int .i64 0, .slice none 0 0]
/-- What Rebuild answers. -/
def BPost (X : Nat → Prop) (e : Nat → Addr) (w : World) (mb k N ix : Nat) (ss : List Sd) (r : Ending) (w' : World) : Prop := Mut mb w w' ∧ Cache X w' mb k N ∧
  ((∃ i, gcls k N ss = some i ∧ r = .returned (.tuple #[shardZ, errV e (some i)])) ∨
   (Good k N ss ∧ NoRows k ss ∧ r = .returned (.tuple #[shardZ, errV e (some 8)])) ∨
   (Good k N ss ∧ ∃ D pa pc, r = .returned (.tuple #[.agg #[.int .u8 ((g0of ss : Nat) : Int), .int .i64 (ix : Int), .int .i64 (((ol0of ss).toNat : Nat) : Int), .slice pa (psize (g0of ss) k (ol0of ss).toNat) pc], .nilIface]) ∧
      psize (g0of ss) k (ol0of ss).toNat ≤ pc ∧ pc ≤ 9223372036854775807 ∧ BytD k (psize (g0of ss) k (ol0of ss).toNat) D ∧ Fits (g0of ss) k (psize (g0of ss) k (ol0of ss).toNat) ss D ∧ PadZ k (punit (g0of ss) k (ol0of ss).toNat) (psize (g0of ss) k (ol0of ss).toNat) (ol0of ss).toNat D ∧
      ∃ v : World, w.heap.size ≤ v.heap.size ∧ Cache (fun b => X b ∨ v.heap.size ≤ b) w' mb k N ∧ Fresh v w' pa (psize (g0of ss) k (ol0of ss).toNat) (fun c => gdot (genr (g0of ss) k ix) (fun j => D j c) k)))

/-- A shard stored into a box. -/
def boxW (w : World) (B : Nat) (g ix n : Nat) (v : Value) : World := (((w.setCell ⟨B, 0, none⟩ (.int .u8 (g : Int))).setCell ⟨B, 1, none⟩ (.int .i64 (ix : Int))).setCell ⟨B, 2, none⟩ (.int .i64 (n : Int))).setCell ⟨B, 3, none⟩ v
theorem boxW_other (w : World) (B g ix n : Nat) (v : Value) (b : Nat) (h0 : b ≠ B) : (boxW w B g ix n v).heap[b]? = w.heap[b]? := by
  simp [boxW, World.setCell, Array.getElem?_modify, Ne.symm h0]
theorem boxW_below (w : World) (B g ix n : Nat) (v : Value) (C : Nat) (h0 : C ≤ B) : Below C w (boxW w B g ix n v) :=
  ((((Below.refl C w).setCell (p := ⟨B, 0, none⟩) h0 _).setCell (p := ⟨B, 1, none⟩) h0 _).setCell (p := ⟨B, 2, none⟩) h0 _).setCell (p := ⟨B, 3, none⟩) h0 _
theorem boxW_cells {w : World} {B g ix n : Nat} {v : Value} {t : TypeId} (h : w.heap[B]? = some (.cells #[.int .u8 0, .int .i64 0, .int .i64 0, .slice none 0 0] t (0, 0))) : (boxW w B g ix n v).heap[B]? = some (.cells #[.int .u8 (g : Int), .int .i64 (ix : Int), .int .i64 (n : Int), v] t (0, 0)) := by
  simp [boxW, World.setCell, Array.getElem?_modify, h]
theorem Cache.weak {X X' : Nat → Prop} {w : World} {mb k N : Nat} (h : Cache X w mb k N) (hX : ∀ b, X' b → X b) : Cache X' w mb k N := h.addX (Below.refl _ _) (fun b hb => .inl (hX b hb))

set_option maxRecDepth 100000 in
set_option maxHeartbeats 4000000 in
theorem rebuild_any (X : Nat → Prop) (w : World) (F : Nat → Prop) (cb mb k m ix : Nat) (ao : Option Addr) (cap : Nat) (ss : List Sd) (e : Nat → Addr) (E : KErrs 10 w e) (hC : CodecAt w F cb mb k m) (hK : Cache X w mb k (k + m)) (hX : ∀ b, X b → b < w.heap.size) (hXm : ¬ X mb) (hS : SdRow w ao ss) (hlen : ss.length ≤ 65536) (hix : ix < k + m) :
    Calls Tryd.prog 28 #[.pointer (some ⟨cb, 0, none⟩), .int .i64 (ix : Int), .slice ao ss.length cap] w (BPost X e w mb k (k + m) ix ss) := by
  have hI : Tryd.prog.isIface 48 = true := by kernel_rfl
  have hmb : mb < w.heap.size := hK.lt
  obtain ⟨W0, hW0⟩ : ∃ W0, w.alloc (.cells #[.int .u8 0, .int .i64 0, .int .i64 0, .slice none 0 0] 60) = W0 := ⟨_, rfl⟩
  have hB0 : Below w.heap.size w W0.drew := by rw [← hW0]; exact ((Below.refl _ _).alloc (Nat.le_refl _) _).drew
  have hX0 : W0.drew.heap[w.heap.size]? = some (.cells #[.int .u8 0, .int .i64 0, .int .i64 0, .slice none 0 0] 60 (0, 0)) := by
    show W0.heap[w.heap.size]? = _
    rw [← hW0]; exact heap_alloc_new w _
  have hz0 : W0.drew.heap.size = w.heap.size + 1 := by rw [← hW0]; simp
  have HNn : Hid _ := codecN_drew W0 F cb mb k m (hC.below (by rw [← hW0]; exact (Below.refl _ _).alloc (Nat.le_refl _) _))
  have hK0 : Cache (fun b => X b ∨ b = w.heap.size) W0.drew mb k (k + m) := hK.addX hB0 (fun b hb => by rcases hb with h | h; exact .inl h; exact .inr (by omega))
  have HRe : Hid _ := restore_any (fun b => X b ∨ b = w.heap.size) W0.drew F cb mb k m ao cap ss e (E.below hB0) (hC.below hB0) hK0 (fun b hb => by rcases hb with h | h; exact Nat.lt_of_lt_of_le (hX b h) hB0.size; omega) (hS.keeps (Below.keeps hB0)) hlen
  have HKw : Hid (Cache (fun b => X b ∨ b = w.heap.size) W0.drew mb k (k + m)) := hK0
  have HC : Hid (CodecAt W0.drew F cb mb k m) := hC.below hB0
  have hkm := hC.hn
  obtain ⟨N, hN⟩ : ∃ N, k + m = N := ⟨_, rfl⟩
  have HN : Hid (k + m = N) := hN
  rw [hN] at HNn HRe HKw hix ⊢
  have hix0 : ¬ (ix : Int) < 0 := by omega
  have hixN : ¬ (N : Int) ≤ (ix : Int) := by omega
  obtain ⟨L, hL⟩ : ∃ L, ss.length = L := ⟨_, rfl⟩
  rw [hL] at HRe ⊢
  have HB0 : Hid (Below w.heap.size w W0.drew) := hB0
  have HX0 : Hid (W0.drew.heap[w.heap.size]? = some (.cells #[.int .u8 0, .int .i64 0, .int .i64 0, .slice none 0 0] 60 (0, 0))) := hX0
  clear hC hK hS E hL hN hB0 hX0 hK0
  go_enter Tryd.func28, Tryd.ntmps28
  go_wp2_with fail
  refine Calls.mono HNn.out ?_
  rintro r w1 ⟨rfl, hw⟩
  subst hw
  clear HNn hW0
  go_wp2_with fail
  refine Calls.mono HRe.out ?_
  intro r w2 hpost
  clear HRe
  obtain ⟨hM2, hK2, hcase⟩ := hpost
  have hx2 : w2.heap[w.heap.size]? = some (.cells #[.int .u8 0, .int .i64 0, .int .i64 0, .slice none 0 0] 60 (0, 0)) := (hM2.block w.heap.size (by omega) (by omega)).trans HX0.out
  have b0 : w2.cell? ⟨w.heap.size, 0, none⟩ = some (.int .u8 0) := by simp [World.cell?, hx2]
  have b1 : w2.cell? ⟨w.heap.size, 1, none⟩ = some (.int .i64 0) := by simp [World.cell?, hx2]
  have b2 : w2.cell? ⟨w.heap.size, 2, none⟩ = some (.int .i64 0) := by simp [World.cell?, hx2]
  have b3 : w2.cell? ⟨w.heap.size, 3, none⟩ = some (.slice none 0 0) := by simp [World.cell?, hx2]
  have bf : ∀ i, w2.frozen? ⟨w.heap.size, i, none⟩ = false := fun i => by simp [World.frozen?, hx2]
  have HM2 : Hid (Mut mb w w2) := (Below.mut HB0.out mb).trans hM2
  have HK2' : Hid (Cache (fun b => X b ∨ b = w.heap.size) w2 mb k N) := hK2
  have HK2 : Hid (Cache X w2 mb k N) := Cache.weak hK2 (fun b hb => .inl hb)
  have HX2 : Hid (w2.heap[w.heap.size]? = some (.cells #[.int .u8 0, .int .i64 0, .int .i64 0, .slice none 0 0] 60 (0, 0))) := hx2
  have kp2 : Keeps W0.drew w2 := hM2.keepsC HKw.out
  have HC2 : Hid (CodecAt w2 F cb mb k m) := CodecAt.keeps HC.out kp2
  have hsz2 : w.heap.size < w2.heap.size := (Array.getElem?_eq_some_iff.1 hx2).1
  clear hM2 hK2 hx2 kp2
  have HBox : Hid (∀ w3 g n' v, Below w2.heap.size w2 w3 → Mut mb w (boxW w3 w.heap.size g n' n' v) ∧ True) := fun w3 g n' v hb => ⟨by
    have hbb := boxW_below w3 w.heap.size g n' n' v w.heap.size (Nat.le_refl _)
    have hM3 : Mut mb w w3 := HM2.out.trans (Below.mut hb mb)
    exact ⟨hbb.os.trans hM3.os, hbb.tape.trans hM3.tape, hbb.output.trans hM3.output, Nat.le_trans hM3.size hbb.size, fun b hb hne => (hbb.block b hb).trans (hM3.block b hb hne)⟩, trivial⟩
  have HKz : Hid (Cache X (boxW w2 w.heap.size 0 0 0 (.slice none 0 0)) mb k N) := by
    refine (HK2'.out.keepX (fun h => ?_) (fun b hn _ => boxW_other _ _ _ _ _ _ _ (fun e => hn (.inr e)))).weak (fun b h => .inl h)
    rcases h with h | h
    · exact hXm h
    · omega
  unfold Answer4 errV at hcase
  rcases hcase with ⟨i, hgc, rfl⟩ | ⟨hG, hNo, rfl⟩ | ⟨hG, sb, da, dc, ob, D, rfl, hR⟩
  · have HF : Hid (BPost X e w mb k N ix ss (.returned (.tuple #[shardZ, errV e (some i)])) (boxW w2 w.heap.size 0 0 0 (.slice none 0 0))) := ⟨(HBox.out w2 0 0 _ (Below.refl _ _)).1, HKz.out, .inl ⟨i, hgc, rfl⟩⟩
    clear hgc
    unfold shardZ errV at HF
    go_wp2
    refine bodyPost_ret (v := .tuple #[.agg #[.int .u8 0, .int .i64 0, .int .i64 0, .slice none 0 0], .iface 186 (.pointer (some (e i)))]) (by simp [results, Tryd.results28, go_sem, b0, b1, b2, b3]) rfl HF.out
  · have HF : Hid (BPost X e w mb k N ix ss (.returned (.tuple #[shardZ, errV e (some 8)])) (boxW w2 w.heap.size 0 0 0 (.slice none 0 0))) := ⟨(HBox.out w2 0 0 _ (Below.refl _ _)).1, HKz.out, .inr (.inl ⟨hG, hNo, rfl⟩)⟩
    clear hG hNo
    unfold shardZ errV at HF
    go_wp2
    refine bodyPost_ret (v := .tuple #[.agg #[.int .u8 0, .int .i64 0, .int .i64 0, .slice none 0 0], .iface 186 (.pointer (some (e 8)))]) (by simp [results, Tryd.results28, go_sem, b0, b1, b2, b3]) rfl HF.out
  · have HRm : Hid _ := remake_any w2 F cb mb k m sb (g0of ss) (ol0of ss).toNat (gfold N (g0of ss) ss).h ix dc (payOf ss) D da HC2.out (by rw [HN.out]; exact hR.str) hR.data hR.byt (by rw [HN.out]; exact hix)
    have HEnd : Hid (∀ w3 pa pc, Below w2.heap.size w2 w3 → psize (g0of ss) k (ol0of ss).toNat ≤ pc → pc ≤ 9223372036854775807 → Fresh w2 w3 pa (psize (g0of ss) k (ol0of ss).toNat) (fun c => gdot (genr (g0of ss) k ix) (fun j => D j c) k) →
        BPost X e w mb k N ix ss (.returned (.tuple #[.agg #[.int .u8 ((g0of ss : Nat) : Int), .int .i64 (ix : Int), .int .i64 (((ol0of ss).toNat : Nat) : Int), .slice pa (psize (g0of ss) k (ol0of ss).toNat) pc], .nilIface])) (boxW w3 w.heap.size (g0of ss) ix (ol0of ss).toNat (.slice pa (psize (g0of ss) k (ol0of ss).toNat) pc)) ∧
        (boxW w3 w.heap.size (g0of ss) ix (ol0of ss).toNat (.slice pa (psize (g0of ss) k (ol0of ss).toNat) pc)).heap[w.heap.size]? = some (.cells #[.int .u8 ((g0of ss : Nat) : Int), .int .i64 (ix : Int), .int .i64 (((ol0of ss).toNat : Nat) : Int), .slice pa (psize (g0of ss) k (ol0of ss).toNat) pc] 60 (0, 0)) ∧ w3.heap[w.heap.size]? = some (.cells #[.int .u8 0, .int .i64 0, .int .i64 0, .slice none 0 0] 60 (0, 0))) := by
      intro w3 pa pc hb h1 h2 h3
      have x3 := (hb.block w.heap.size hsz2).trans HX2.out
      have hbb := boxW_below w3 w.heap.size (g0of ss) ix (ol0of ss).toNat (.slice pa (psize (g0of ss) k (ol0of ss).toNat) pc) w.heap.size (Nat.le_refl _)
      have hM3 : Mut mb w w3 := HM2.out.trans (Below.mut hb mb)
      have hMf : Mut mb w (boxW w3 w.heap.size (g0of ss) ix (ol0of ss).toNat (.slice pa (psize (g0of ss) k (ol0of ss).toNat) pc)) :=
        ⟨hbb.os.trans hM3.os, hbb.tape.trans hM3.tape, hbb.output.trans hM3.output, Nat.le_trans hM3.size hbb.size, fun b hb hne => (hbb.block b hb).trans (hM3.block b hb hne)⟩
      have hnm : w.heap.size ≠ mb := by omega
      have hKf : Cache (fun b => (X b ∨ b = w.heap.size) ∨ w2.heap.size ≤ b) (boxW w3 w.heap.size (g0of ss) ix (ol0of ss).toNat (.slice pa (psize (g0of ss) k (ol0of ss).toNat) pc)) mb k N := by
        refine (HK2'.out.addX (X' := fun b => (X b ∨ b = w.heap.size) ∨ w2.heap.size ≤ b) hb (fun b h => h)).keepX (fun h => ?_) (fun b hn _ => boxW_other _ _ _ _ _ _ _ (fun e => hn (.inl (.inr e))))
        rcases h with (h | h) | h
        · exact hXm h
        · omega
        · omega
      refine ⟨⟨hMf, hKf.weak (fun b h => .inl (.inl h)), .inr (.inr ⟨hG, D, pa, pc, rfl, h1, h2, hR.byt, hR.fits, hR.pad, w2, HM2.out.size, hKf.weak (fun b h => by rcases h with h | h; exact .inl (.inl h); exact .inr h), ?_⟩)⟩, boxW_cells x3, x3⟩
      exact h3.keep (fun b hb => boxW_other _ _ _ _ _ _ _ (by omega))
    clear hG hR
    generalize g0of ss = g at *
    generalize (ol0of ss).toNat = n at *
    obtain ⟨size, hsz⟩ : ∃ size, psize g k n = size := ⟨_, rfl⟩
    rw [hsz] at HEnd
    go_wp2_with fail
    refine Calls.mono HRm.out ?_
    rintro r w3 ⟨hb3, pa, pc, hr, hp1, hp2, hfr⟩
    rw [hsz] at hr hp1 hfr
    subst hr
    obtain ⟨hpost, hfin, x3⟩ := HEnd.out w3 pa pc hb3 hp1 hp2 hfr
    have HF : Hid _ := hpost
    have HFin : Hid _ := hfin
    have d0 : w3.cell? ⟨w.heap.size, 0, none⟩ = some (.int .u8 0) := by simp [World.cell?, x3]
    have d1 : w3.cell? ⟨w.heap.size, 1, none⟩ = some (.int .i64 0) := by simp [World.cell?, x3]
    have d2 : w3.cell? ⟨w.heap.size, 2, none⟩ = some (.int .i64 0) := by simp [World.cell?, x3]
    have d3 : w3.cell? ⟨w.heap.size, 3, none⟩ = some (.slice none 0 0) := by simp [World.cell?, x3]
    have df : ∀ i, w3.frozen? ⟨w.heap.size, i, none⟩ = false := fun i => by simp [World.frozen?, x3]
    clear hpost hfin x3 hfr hb3 HRm HEnd b0 b1 b2 b3 bf hsz
    unfold boxW at HF HFin
    go_wp2
    obtain ⟨Wf, hWf⟩ : ∃ Wf, (((w3.setCell ⟨w.heap.size, 0, none⟩ (.int .u8 (g : Int))).setCell ⟨w.heap.size, 1, none⟩ (.int .i64 (ix : Int))).setCell ⟨w.heap.size, 2, none⟩ (.int .i64 (n : Int))).setCell ⟨w.heap.size, 3, none⟩ (.slice pa size pc) = Wf := ⟨_, rfl⟩
    rw [hWf] at HF HFin ⊢
    have z0 : Wf.cell? ⟨w.heap.size, 0, none⟩ = some (.int .u8 (g : Int)) := by simp [World.cell?, HFin.out]
    have z1 : Wf.cell? ⟨w.heap.size, 1, none⟩ = some (.int .i64 (ix : Int)) := by simp [World.cell?, HFin.out]
    have z2 : Wf.cell? ⟨w.heap.size, 2, none⟩ = some (.int .i64 (n : Int)) := by simp [World.cell?, HFin.out]
    have z3 : Wf.cell? ⟨w.heap.size, 3, none⟩ = some (.slice pa size pc) := by simp [World.cell?, HFin.out]
    refine bodyPost_ret (v := .tuple #[.agg #[.int .u8 (g : Int), .int .i64 (ix : Int), .int .i64 (n : Int), .slice pa size pc], .nilIface]) (by simp [results, Tryd.results28, go_sem, z0, z1, z2, z3]) rfl HF.out
end Go.Proofs.Qxb6500697aDoor
