/-
  THE WALK OF Verify.
-/
import Derived.Test.Qxb6500697aDoorKRest
namespace Go.Proofs.Qxb6500697aDoor
open Go.RowKit

open Classical in
/-- Verify's answer: which refusal, if any. -/
noncomputable def vcls (k N : Nat) (ss : List Sd) : Option Nat := match gcls k N ss with | some i => some i | none => if NoRows k ss then some 8 else none
theorem vcls_some {k N i : Nat} {ss : List Sd} (h : gcls k N ss = some i) : vcls k N ss = some i := by unfold vcls; rw [h]
theorem vcls_no {k N : Nat} {ss : List Sd} (h : Good k N ss) (hn : NoRows k ss) : vcls k N ss = some 8 := by
  unfold vcls; rw [gcls_good h]; exact if_pos hn
theorem vcls_ok {k N : Nat} {ss : List Sd} (h : Good k N ss) (hn : ¬ NoRows k ss) : vcls k N ss = none := by
  unfold vcls; rw [gcls_good h]; exact if_neg hn

def VPost (X : Nat → Prop) (e : Nat → Addr) (w : World) (mb k N : Nat) (ss : List Sd) (r : Ending) (w' : World) : Prop := Mut mb w w' ∧ Cache X w' mb k N ∧ r = .returned (errV e (vcls k N ss))

set_option maxRecDepth 100000 in
set_option maxHeartbeats 4000000 in
theorem verify_any (X : Nat → Prop) (w : World) (F : Nat → Prop) (cb mb k m : Nat) (ao : Option Addr) (cap : Nat) (ss : List Sd) (e : Nat → Addr) (E : KErrs 10 w e) (hC : CodecAt w F cb mb k m) (hK : Cache X w mb k (k + m)) (hX : ∀ b, X b → b < w.heap.size) (hS : SdRow w ao ss) (hlen : ss.length ≤ 65536) :
    Calls Tryd.prog 56 #[.pointer (some ⟨cb, 0, none⟩), .slice ao ss.length cap] w (VPost X e w mb k (k + m) ss) := by
  have HRe : Hid _ := restore_any X w F cb mb k m ao cap ss e E hC hK hX hS hlen
  obtain ⟨N, hN⟩ : ∃ N, k + m = N := ⟨_, rfl⟩
  rw [hN] at HRe ⊢
  obtain ⟨L, hL⟩ : ∃ L, ss.length = L := ⟨_, rfl⟩
  rw [hL] at HRe ⊢
  clear hC hK hS E hL hN hX
  go_enter Tryd.func56, Tryd.ntmps56
  go_wp2_with fail
  refine Calls.mono HRe.out ?_
  intro r w2 hpost
  clear HRe
  obtain ⟨hM2, hK2, hcase⟩ := hpost
  unfold Answer4 errV at hcase
  rcases hcase with ⟨i, hgc, rfl⟩ | ⟨hG, hNo, rfl⟩ | ⟨hG, sb, da, dc, ob, D, rfl, hR⟩
  · have HF : Hid (VPost X e w mb k N ss (.returned (errV e (some i))) w2) := ⟨hM2, hK2, by rw [vcls_some hgc]⟩
    clear hgc hM2 hK2
    unfold errV at HF
    go_wp2
    go_ret
    exact HF.out
  · have HF : Hid (VPost X e w mb k N ss (.returned (errV e (some 8))) w2) := ⟨hM2, hK2, by rw [vcls_no hG hNo]⟩
    clear hG hNo hM2 hK2
    unfold errV at HF
    go_wp2
    go_ret
    exact HF.out
  · have HF : Hid (VPost X e w mb k N ss (.returned .nilIface) w2) := ⟨hM2, hK2, by rw [vcls_ok hG (fun h => h ⟨D, hR.byt, hR.fits, hR.pad⟩)]; rfl⟩
    clear hG hR hM2 hK2
    generalize (ol0of ss).toNat = n at *
    go_wp2
    go_ret
    exact HF.out
end Go.Proofs.Qxb6500697aDoor
