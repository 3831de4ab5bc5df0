/-
  THE WALK OF Convert, on lists that decode.
-/
import Derived.Test.Qxb6500697aDoorKDec
import Derived.Test.Qxb6500697aDoorKLoop
namespace Go.Proofs.Qxb6500697aDoor
open Go.RowKit

theorem Cache.mutBelow {X : Nat → Prop} {w w' : World} {mb k N : Nat} (h : Cache X w mb k N) (hb : Below w.heap.size w w') : Cache X w' mb k N := h.below hb

set_option maxRecDepth 100000 in
set_option maxHeartbeats 4000000 in
theorem convert_ok (w : World) (F : Nat → Prop) (cb mb k m g g' n : Nat) (ao : Option Addr) (cap : Nat) (ss : List Sd) (e : Nat → Addr) (D0 : Nat → Nat → Nat) (f : Nat → Nat) (E : KErrs 10 w e) (hC : CodecAt w F cb mb k m) (hK : Cache NoX w mb k (k + m)) (hS : SdRow w ao ss) (hlen : ss.length ≤ 65536) (hg' : g' = 1 ∨ g' = 2 ∨ g' = 3)
    (hG : Good k (k + m) ss) (hg0 : g0of ss = g) (ho0 : ol0of ss = (n : Int)) (hn : n ≤ 256) (hb : BytD k (psize g k n) D0) (hf : Fits g k (psize g k n) ss D0) (hp : PadZ k (punit g k n) (psize g k n) n D0) (hcol : ∀ p, p < n → col k (punit g k n) D0 p = f p) :
    Calls Tryd.prog 32 #[.pointer (some ⟨cb, 0, none⟩), .int .u8 (g' : Int), .slice ao ss.length cap] w fun r w' => ∃ HS pb po, r = .returned (.tuple #[.slice (some ⟨HS, 0, none⟩) ((k + m : Nat)) ((k + m : Nat)), .nilIface]) ∧ ShardsAt w' HS (k + m) g' n (psize g' k n) pb po (pay g' k n f) ∧ Mut mb w w' ∧ Cache NoX w' mb k (k + m) := by
  have hI : Tryd.prog.isIface 48 = true := by kernel_rfl
  have hk := hC.hk
  have hkn := hC.hn
  have HP : Hid _ := plan_ok w F cb mb k m g' 0 hC hg' (by omega)
  unfold planV at HP
  have HC : Hid (CodecAt w F cb mb k m) := hC
  have HE : Hid (KErrs 10 w e) := E
  have HK : Hid (Cache NoX w mb k (k + m)) := hK
  have HS : Hid (SdRow w ao ss) := hS
  have HGo : Hid (Good k (k + m) ss) := hG
  generalize psize g' k 0 = z1 at *
  generalize punit g' k 0 = z2 at *
  generalize pfam g' = z3 at *
  obtain ⟨L, hL⟩ : ∃ L, ss.length = L := ⟨_, rfl⟩
  have HL : Hid (ss.length = L) := hL
  rw [hL] at hlen ⊢
  have HN : Hid (∀ w1, Below w.heap.size w w1 → Calls Tryd.prog 22 #[.pointer (some ⟨cb, 0, none⟩), .slice ao L cap] w1 fun r w2 => ∃ ob, r = .returned (.tuple #[.slice (some ⟨ob, 0, none⟩) n n, .nilIface]) ∧ FRow w2 (some ⟨ob, 0, none⟩) n f ∧ Mut mb w1 w2 ∧ Cache NoX w2 mb k (k + m) ∧ CodecAt w2 F cb mb k m) := by
    intro w1 hb1
    have hK1 := hK.below hb1
    have h := decode_any NoX w1 F cb mb k m ao cap ss e (E.below hb1) (hC.below hb1) hK1 (fun b hb => False.elim hb) (hS.keeps (Below.keeps hb1)) (by rw [hL]; exact hlen)
    rw [hL] at h
    refine h.mono ?_
    rintro r w2 ⟨hM, hK2, hcase⟩
    rcases hcase with ⟨i, hgc, _⟩ | ⟨_, hNo, _⟩ | ⟨_, ob, D, hr, hD1, hD2, hD3, hRow, _⟩
    · rw [gcls_good hG] at hgc; cases hgc
    · exfalso
      apply hNo
      rw [hg0, ho0, Int.toNat_natCast]
      exact ⟨D0, hb, hf, hp⟩
    · rw [ho0, Int.toNat_natCast] at hr
      rw [hg0, ho0, Int.toNat_natCast] at hD1 hD2 hD3 hRow
      have hDu := fits_uniq (by omega) hkn hG hD1 hb hD2 hf
      obtain ⟨_, ⟨rr, hrr⟩, hfn⟩ := plan_fits g k n hk
      refine ⟨ob, hr, ((Row.wrow hRow hfn).frow).congr (fun p hp => ?_), hM, hK2, (hC.below hb1).keeps (hM.keepsC hK1)⟩
      rw [col_congr (by omega) hrr hDu (Nat.lt_of_lt_of_le hp hfn)]
      exact hcol p hp
  obtain ⟨N, hN⟩ : ∃ N, k + m = N := ⟨_, rfl⟩
  have HNe : Hid (k + m = N) := hN
  rw [hN]
  clear hC E hK hS hG hL hlen hb hf hp hcol hg0 ho0 hN
  go_enter Tryd.func32, Tryd.ntmps32
  go_wp2_with fail
  refine Calls.mono HP.out ?_
  rintro r w1 ⟨rfl, hb1⟩
  have HB1 : Hid (∀ o, Below w.heap.size w (w1.alloc o)) := fun o => hb1.alloc hb1.size o
  clear hb1 HP
  go_wp2_with fail
  refine Calls.mono (HN.out _ (HB1.out _)) ?_
  rintro r w2 ⟨ob, rfl, hFR, hM2, hK2, hC2⟩
  have HEn : Hid _ := encode_ok w2 F cb mb k m g' n n (some ⟨ob, 0, none⟩) f hC2 hFR hg' hn (Nat.le_refl _) (by omega)
  have HM2 : Hid (Mut mb w w2) := (Below.mut (HB1.out _) mb).trans hM2
  have HK2 : Hid (Cache NoX w2 mb k (k + m)) := hK2
  rw [HNe.out] at HEn HK2
  clear hFR hM2 hK2 hC2 HN HB1
  go_wp2_with fail
  refine Calls.mono HEn.out ?_
  rintro r w3 ⟨HS', pb, po, rfl, _, _, hSA, hb3⟩
  have HF : Hid (ShardsAt w3 HS' N g' n (psize g' k n) pb po (pay g' k n f) ∧ Mut mb w w3 ∧ Cache NoX w3 mb k N) := ⟨hSA, HM2.out.trans (Below.mut hb3 mb), HK2.out.below hb3⟩
  clear hSA hb3 HEn
  go_wp2
  go_ret2
  exact ⟨HS', pb, po, rfl, HF.out⟩
end Go.Proofs.Qxb6500697aDoor
