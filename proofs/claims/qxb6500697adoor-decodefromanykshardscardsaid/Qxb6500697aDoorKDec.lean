/-
  THE WALK OF Decode.
-/
import Derived.Test.Qxb6500697aDoorKRest
namespace Go.Proofs.Qxb6500697aDoor
open Go.RowKit

/-- What Decode answers. -/
def DPost (X : Nat → Prop) (e : Nat → Addr) (w : World) (mb k N : Nat) (ss : List Sd) (r : Ending) (w' : World) : Prop := Mut mb w w' ∧ Cache X w' mb k N ∧
  ((∃ i, gcls k N ss = some i ∧ r = .returned (.tuple #[.slice none 0 0, errV e (some i)])) ∨
   (Good k N ss ∧ NoRows k ss ∧ r = .returned (.tuple #[.slice none 0 0, errV e (some 8)])) ∨
   (Good k N ss ∧ ∃ ob D, r = .returned (.tuple #[.slice (some ⟨ob, 0, none⟩) (ol0of ss).toNat (ol0of ss).toNat, .nilIface]) ∧ BytD k (psize (g0of ss) k (ol0of ss).toNat) D ∧ Fits (g0of ss) k (psize (g0of ss) k (ol0of ss).toNat) ss D ∧ PadZ k (punit (g0of ss) k (ol0of ss).toNat) (psize (g0of ss) k (ol0of ss).toNat) (ol0of ss).toNat D ∧
      Row w' ob (k * psize (g0of ss) k (ol0of ss).toNat) (col k (punit (g0of ss) k (ol0of ss).toNat) D) ∧ ∃ v : World, w.heap.size ≤ v.heap.size ∧ v.heap.size ≤ ob ∧ Cache (fun b => X b ∨ v.heap.size ≤ b) w' mb k N))

set_option maxRecDepth 100000 in
set_option maxHeartbeats 4000000 in
theorem decode_any (X : Nat → Prop) (w : World) (F : Nat → Prop) (cb mb k m : Nat) (ao : Option Addr) (cap : Nat) (ss : List Sd) (e : Nat → Addr) (E : KErrs 10 w e) (hC : CodecAt w F cb mb k m) (hK : Cache X w mb k (k + m)) (hX : ∀ b, X b → b < w.heap.size) (hS : SdRow w ao ss) (hlen : ss.length ≤ 65536) :
    Calls Tryd.prog 22 #[.pointer (some ⟨cb, 0, none⟩), .slice ao ss.length cap] w (DPost X e w mb k (k + m) ss) := by
  have HRe : Hid _ := restore_any X w F cb mb k m ao cap ss e E hC hK hX hS hlen
  obtain ⟨N, hN⟩ : ∃ N, k + m = N := ⟨_, rfl⟩
  rw [hN] at HRe ⊢
  obtain ⟨L, hL⟩ : ∃ L, ss.length = L := ⟨_, rfl⟩
  rw [hL] at HRe ⊢
  clear hC hK hS E hL hN hX
  go_enter Tryd.func22, Tryd.ntmps22
  go_wp2_with fail
  refine Calls.mono HRe.out ?_
  intro r w2 hpost
  clear HRe
  obtain ⟨hM2, hK2, hcase⟩ := hpost
  unfold Answer4 errV at hcase
  rcases hcase with ⟨i, hgc, rfl⟩ | ⟨hG, hNo, rfl⟩ | ⟨hG, sb, da, dc, ob, D, rfl, hR⟩
  · have HF : Hid (DPost X e w mb k N ss (.returned (.tuple #[.slice none 0 0, errV e (some i)])) w2) := ⟨hM2, hK2, .inl ⟨i, hgc, rfl⟩⟩
    clear hgc hM2 hK2
    unfold errV at HF
    go_wp2
    go_ret2
    exact HF.out
  · have HF : Hid (DPost X e w mb k N ss (.returned (.tuple #[.slice none 0 0, errV e (some 8)])) w2) := ⟨hM2, hK2, .inr (.inl ⟨hG, hNo, rfl⟩)⟩
    clear hG hNo hM2 hK2
    unfold errV at HF
    go_wp2
    go_ret2
    exact HF.out
  · have HF : Hid (DPost X e w mb k N ss (.returned (.tuple #[.slice (some ⟨ob, 0, none⟩) (ol0of ss).toNat (ol0of ss).toNat, .nilIface])) w2) := by
      obtain ⟨v, h1, h2, h3, h4⟩ := hR.mid
      exact ⟨hM2, hK2, .inr (.inr ⟨hG, ob, D, rfl, hR.byt, hR.fits, hR.pad, hR.obj, v, h1.size, h4, h2.addX h3 (fun b hb => hb)⟩)⟩
    clear hG hR hM2 hK2
    generalize (ol0of ss).toNat = n at *
    go_wp2
    go_ret2
    exact HF.out
end Go.Proofs.Qxb6500697aDoor
