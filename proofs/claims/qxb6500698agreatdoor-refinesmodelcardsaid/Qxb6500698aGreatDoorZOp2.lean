/-
  THE WALKS OF THE READER's OpenCRC, OpenFletcher, Finish; the small methods of the writer and of the digest; NewWriter, NewReader.
-/
import Derived.Test.Qxb6500698aGreatDoorZOp
import Derived.Test.Qxb6500698aGreatDoorDig
namespace Go.Proofs.Qxb6500698aGreatDoor
open Go.RowKit

/-- All that is left, as a payload with its trailer. -/
def zcheck (f : List Nat → Nat) (bs : List Nat) (off : Nat) (ie : Option Nat) : List Nat × Nat × Option Nat := if ie = none then ((zopen f (bs.drop off)).1, bs.length, (zopen f (bs.drop off)).2) else ([], off, ie)
theorem znext_all {bs : List Nat} {off : Nat} (h : off ≤ bs.length) : znext bs off none ((bs.length - off : Nat) : Int) = (bs.drop off, bs.length, none) := by
  unfold znext
  rw [if_pos rfl, if_neg (by omega), if_neg (by omega), Int.toNat_natCast, List.take_of_length_le (by rw [List.length_drop]; exact Nat.le_refl _), show off + (bs.length - off) = bs.length by omega]

section
variable {B : Nat} {w : World} {e : Nat → Addr} {rb : Nat} {ao : Option Addr} {bs : List Nat} {cap off : Nat} {ie : Option Nat}
set_option maxRecDepth 100000 in
theorem opened_any {i : Option Nat} (h : RdS B w e rb ao bs cap off ie) (a : Option Addr) (n c : Nat) :
    Calls Tryz.prog 76 #[.pointer (some ⟨rb, 0, none⟩), .slice a n c, errV e i] w fun r w' => r = .returned (.slice a n c) ∧ w' = w.setCell ⟨rb, 2, none⟩ (errV e i) := by
  have c2 := h.at_.c2
  have f2 := h.at_.fr 2
  clear h
  cases i with
  | none =>
    unfold errV at c2 ⊢
    cases ie <;>
    · go_enter Tryz.func76, Tryz.ntmps76
      go_wp2
      go_ret
      exact ⟨rfl, rfl⟩
  | some i =>
    unfold errV at c2 ⊢
    cases ie <;>
    · go_enter Tryz.func76, Tryz.ntmps76
      go_wp2
      go_ret
      exact ⟨rfl, rfl⟩

set_option maxRecDepth 100000 in
set_option maxHeartbeats 1000000 in
theorem roC_any (E : EB B w e) (h : RdS B w e rb ao bs cap off ie) (tb : Nat) (hT : Tabs w tb) (htr : tb ≠ rb) :
    Calls Tryz.prog 35 #[.pointer (some ⟨rb, 0, none⟩), .pointer (some ⟨tb, 0, none⟩)] w (RdPost B w e rb ao bs cap 0 (zcheck Crc.crc bs off ie)) := by
  have hI : Tryz.prog.isIface 71 = true := by kernel_rfl
  have c2 := h.at_.c2
  cases ie with
  | some i =>
    have HF : Hid (RdPost B w e rb ao bs cap 0 (zcheck Crc.crc bs off (some i)) (.returned (.slice none 0 0)) w) := by
      show RdPost B w e rb ao bs cap 0 (zcheck Crc.crc bs off (some i)) (.returned (.slice none 0 0)) w
      unfold zcheck; rw [if_neg (by simp)]; exact RdPost.nil h (Only.refl _ _)
    unfold errV at c2
    clear h E
    go_enter Tryz.func35, Tryz.ntmps35
    go_wp2
    go_ret
    exact HF.out
  | none =>
    have hoff := h.hoff
    have hlen := h.len
    have HR : Hid (Calls Tryz.prog 78 #[.pointer (some ⟨rb, 0, none⟩)] w (RdPost B w e rb ao bs cap ((bs.length - off : Nat) : Int) (bs.drop off, bs.length, none))) := by
      have := rrest_any E.E h
      rw [znext_all hoff] at this
      exact this
    have hz : zcheck Crc.crc bs off none = ((zopen Crc.crc (bs.drop off)).1, bs.length, (zopen Crc.crc (bs.drop off)).2) := by unfold zcheck; rw [if_pos rfl]
    rw [hz]
    obtain ⟨got, hgot⟩ : ∃ got, bs.drop off = got := ⟨_, rfl⟩
    rw [hgot] at HR ⊢
    have HH : Hid (RdS B w e rb ao bs cap off none) := h
    have HE : Hid (EB B w e) := E
    have HX : Hid (∀ w1, Only rb w w1 → Tabs w1 tb) := fun w1 hO => fun k i hk hi => (hO.cell (htr)).trans (hT k i hk hi)
    unfold errV at c2
    clear h E hz hgot hT htr
    go_enter Tryz.func35, Tryz.ntmps35
    go_wp2_with fail
    refine Calls.mono HR.out ?_
    rintro r w1 ⟨a, c, rfl, q1, q2, q3, q4, q5, q6, q7, q8⟩
    have HO : Hid (Calls Tryz.prog 77 #[.pointer (some ⟨tb, 0, none⟩), .slice a got.length c] w1 (OpPost w1 e a (zopen Crc.crc got))) := open_any got a c (HH.out.errs HE.out q8).E tb (HX.out w1 q8) q2 q3 q4
    have H7 : Hid (RdS B w1 e rb ao bs cap bs.length none) := q7
    have H8 : Hid (Only rb w w1) := q8
    have H5 : Hid (got ≠ [] → ∀ b o, a = some ⟨b, o, none⟩ → ∃ o', ao = some ⟨b, o', none⟩ ∧ bs ≠ []) := q5
    clear q1 q2 q3 q4 q5 q6 q7 q8 HR HX HE
    have HZn : Hid ((zopen Crc.crc got).1 ≠ [] → got ≠ []) := by
      intro h0 h1
      apply h0
      unfold zopen
      rw [h1]; rfl
    obtain ⟨z, hze⟩ : ∃ z, zopen Crc.crc got = z := ⟨_, rfl⟩
    have HZe : Hid (zopen Crc.crc got = z) := hze
    rw [hze] at HO HZn
    obtain ⟨gl, hgl⟩ : ∃ gl, got.length = gl := ⟨_, rfl⟩
    rw [hgl] at HO
    simp only [hgl]
    clear hze hgl
    go_wp2_with fail
    refine Calls.mono HO.out ?_
    rintro r w2 ⟨a2, c3, rfl, p2, p3, p4, p5, p6, p7, m, hw⟩
    have h2 : RdS B w2 e rb ao bs cap bs.length none := by rw [hw]; exact H7.out.drewN m
    have HD : Hid (Calls Tryz.prog 76 #[.pointer (some ⟨rb, 0, none⟩), .slice a2 z.1.length c3, errV e z.2] w2 fun r w' => r = .returned (.slice a2 z.1.length c3) ∧ w' = w2.setCell ⟨rb, 2, none⟩ (errV e z.2)) := opened_any h2 a2 z.1.length c3
    have HF : Hid (RdPost B w e rb ao bs cap 0 (z.1, bs.length, z.2) (.returned (.slice a2 z.1.length c3)) (w2.setCell ⟨rb, 2, none⟩ (errV e z.2))) := by
      obtain ⟨k1, k2⟩ := h2.err z.2 p7
      have hal : z.1 ≠ [] → ∀ b o, a2 = some ⟨b, o, none⟩ → ∃ o', ao = some ⟨b, o', none⟩ ∧ bs ≠ [] := fun h0 b o he => H5.out (HZn.out h0) b o (by rw [← p5 h0]; exact he)
      refine ⟨a2, c3, rfl, fun h0 => absurd h0 (by omega), p2.only k2 (fun h0 b o he => ?_), p3, p4, hal, p6, k1, ?_⟩
      · obtain ⟨o', hao, hbs⟩ := hal h0 b o he
        exact h2.ne hbs b o' hao
      · have k3 : Only rb w w2 := by rw [hw]; exact Only.drewN H8.out m
        exact k3.trans k2
    generalize errV e z.2 = x at *
    clear p2 p3 p4 p5 p6 p7 hw h2 HO H7 H8 H5 HH HZn
    generalize z.1.length = zl at *
    go_wp2_with fail
    refine Calls.mono HD.out ?_
    rintro r w3 ⟨rfl, hw⟩
    rw [← hw] at HF
    clear hw HD
    go_wp2
    go_ret
    rw [HZe.out]
    exact HF.out

set_option maxRecDepth 100000 in
set_option maxHeartbeats 1000000 in
theorem roF_any (E : EB B w e) (h : RdS B w e rb ao bs cap off ie) :
    Calls Tryz.prog 36 #[.pointer (some ⟨rb, 0, none⟩)] w (RdPost B w e rb ao bs cap 0 (zcheck Flt.fl bs off ie)) := by
  have hI : Tryz.prog.isIface 71 = true := by kernel_rfl
  have c2 := h.at_.c2
  cases ie with
  | some i =>
    have HF : Hid (RdPost B w e rb ao bs cap 0 (zcheck Flt.fl bs off (some i)) (.returned (.slice none 0 0)) w) := by
      show RdPost B w e rb ao bs cap 0 (zcheck Flt.fl bs off (some i)) (.returned (.slice none 0 0)) w
      unfold zcheck; rw [if_neg (by simp)]; exact RdPost.nil h (Only.refl _ _)
    unfold errV at c2
    clear h E
    go_enter Tryz.func36, Tryz.ntmps36
    go_wp2
    go_ret
    exact HF.out
  | none =>
    have hoff := h.hoff
    have hlen := h.len
    have HR : Hid (Calls Tryz.prog 78 #[.pointer (some ⟨rb, 0, none⟩)] w (RdPost B w e rb ao bs cap ((bs.length - off : Nat) : Int) (bs.drop off, bs.length, none))) := by
      have := rrest_any E.E h
      rw [znext_all hoff] at this
      exact this
    have hz : zcheck Flt.fl bs off none = ((zopen Flt.fl (bs.drop off)).1, bs.length, (zopen Flt.fl (bs.drop off)).2) := by unfold zcheck; rw [if_pos rfl]
    rw [hz]
    obtain ⟨got, hgot⟩ : ∃ got, bs.drop off = got := ⟨_, rfl⟩
    rw [hgot] at HR ⊢
    have HH : Hid (RdS B w e rb ao bs cap off none) := h
    have HE : Hid (EB B w e) := E
    have HX : Hid (∀ w1, Only rb w w1 → True) := fun _ _ => trivial
    unfold errV at c2
    clear h E hz hgot
    go_enter Tryz.func36, Tryz.ntmps36
    go_wp2_with fail
    refine Calls.mono HR.out ?_
    rintro r w1 ⟨a, c, rfl, q1, q2, q3, q4, q5, q6, q7, q8⟩
    have HO : Hid (Calls Tryz.prog 79 #[.slice a got.length c] w1 (OpPost w1 e a (zopen Flt.fl got))) := openF_any got a c (HH.out.errs HE.out q8).E q2 q3 q4
    have H7 : Hid (RdS B w1 e rb ao bs cap bs.length none) := q7
    have H8 : Hid (Only rb w w1) := q8
    have H5 : Hid (got ≠ [] → ∀ b o, a = some ⟨b, o, none⟩ → ∃ o', ao = some ⟨b, o', none⟩ ∧ bs ≠ []) := q5
    clear q1 q2 q3 q4 q5 q6 q7 q8 HR HX HE
    have HZn : Hid ((zopen Flt.fl got).1 ≠ [] → got ≠ []) := by
      intro h0 h1
      apply h0
      unfold zopen
      rw [h1]; rfl
    obtain ⟨z, hze⟩ : ∃ z, zopen Flt.fl got = z := ⟨_, rfl⟩
    have HZe : Hid (zopen Flt.fl got = z) := hze
    rw [hze] at HO HZn
    obtain ⟨gl, hgl⟩ : ∃ gl, got.length = gl := ⟨_, rfl⟩
    rw [hgl] at HO
    simp only [hgl]
    clear hze hgl
    go_wp2_with fail
    refine Calls.mono HO.out ?_
    rintro r w2 ⟨a2, c3, rfl, p2, p3, p4, p5, p6, p7, m, hw⟩
    have h2 : RdS B w2 e rb ao bs cap bs.length none := by rw [hw]; exact H7.out.drewN m
    have HD : Hid (Calls Tryz.prog 76 #[.pointer (some ⟨rb, 0, none⟩), .slice a2 z.1.length c3, errV e z.2] w2 fun r w' => r = .returned (.slice a2 z.1.length c3) ∧ w' = w2.setCell ⟨rb, 2, none⟩ (errV e z.2)) := opened_any h2 a2 z.1.length c3
    have HF : Hid (RdPost B w e rb ao bs cap 0 (z.1, bs.length, z.2) (.returned (.slice a2 z.1.length c3)) (w2.setCell ⟨rb, 2, none⟩ (errV e z.2))) := by
      obtain ⟨k1, k2⟩ := h2.err z.2 p7
      have hal : z.1 ≠ [] → ∀ b o, a2 = some ⟨b, o, none⟩ → ∃ o', ao = some ⟨b, o', none⟩ ∧ bs ≠ [] := fun h0 b o he => H5.out (HZn.out h0) b o (by rw [← p5 h0]; exact he)
      refine ⟨a2, c3, rfl, fun h0 => absurd h0 (by omega), p2.only k2 (fun h0 b o he => ?_), p3, p4, hal, p6, k1, ?_⟩
      · obtain ⟨o', hao, hbs⟩ := hal h0 b o he
        exact h2.ne hbs b o' hao
      · have k3 : Only rb w w2 := by rw [hw]; exact Only.drewN H8.out m
        exact k3.trans k2
    generalize errV e z.2 = x at *
    clear p2 p3 p4 p5 p6 p7 hw h2 HO H7 H8 H5 HH HZn
    generalize z.1.length = zl at *
    go_wp2_with fail
    refine Calls.mono HD.out ?_
    rintro r w3 ⟨rfl, hw⟩
    rw [← hw] at HF
    clear hw HD
    go_wp2
    go_ret
    rw [HZe.out]
    exact HF.out

set_option maxRecDepth 100000 in
set_option maxHeartbeats 1000000 in
theorem rfin_any (E : Errs w e) (h : RdS B w e rb ao bs cap off ie) :
    Calls Tryz.prog 38 #[.pointer (some ⟨rb, 0, none⟩)] w fun r w' => r = .returned (errV e (if ie = none ∧ off < bs.length then some 4 else ie)) ∧ ∃ m, w' = w.drewN m := by
  have hI : Tryz.prog.isIface 71 = true := by kernel_rfl
  have c2 := h.at_.c2
  have g4 := E.cell 4 (by omega)
  cases ie with
  | some i =>
    rw [if_neg (by simp)]
    unfold errV at c2 ⊢
    clear h E
    go_enter Tryz.func38, Tryz.ntmps38
    go_wp2
    go_ret
    exact ⟨rfl, 0, rfl⟩
  | none =>
    have HM : Hid (Calls Tryz.prog 67 #[.pointer (some ⟨rb, 0, none⟩)] w fun r w' => r = .returned (.int .i64 ((bs.length - off : Nat) : Int)) ∧ ∃ m, w' = w.drewN m) := rrem_any h
    by_cases hlt : off < bs.length
    · rw [if_pos ⟨rfl, hlt⟩]
      obtain ⟨q, hq⟩ : ∃ q, bs.length - off = q := ⟨_, rfl⟩
      rw [hq] at HM
      have hq0 : (0 : Int) < (q : Int) := by omega
      unfold errV at c2 ⊢
      clear h E hq hlt
      go_enter Tryz.func38, Tryz.ntmps38
      go_wp2_with fail
      refine Calls.mono HM.out ?_
      rintro r w' ⟨rfl, m, rfl⟩
      clear HM
      go_wp2
      go_ret
      exact ⟨rfl, _, rfl⟩
    · rw [if_neg (by simp [hlt])]
      have hq : bs.length - off = 0 := by omega
      rw [hq] at HM
      unfold errV at c2 ⊢
      clear h E hq hlt
      go_enter Tryz.func38, Tryz.ntmps38
      go_wp2_with fail
      refine Calls.mono HM.out ?_
      rintro r w' ⟨rfl, m, rfl⟩
      clear HM
      go_wp2
      go_ret
      exact ⟨rfl, _, rfl⟩
end
section
variable {B : Nat} {w : World} {e : Nat → Addr} {wb : Nat} {v : Value} {O : List Nat} {lim : Nat} {oe : Option Nat}
set_option maxRecDepth 100000 in
theorem wlen_any (h : WrS B w e wb v O lim oe) :
    Calls Tryz.prog 65 #[.pointer (some ⟨wb, 0, none⟩)] w fun r w' => r = .returned (.int .i64 (O.length : Int)) ∧ w' = w := by
  have c0 := h.at_.c0
  obtain ⟨a, c, hv⟩ := h.own.form
  rw [hv] at c0
  clear h hv
  generalize O.length = q at *
  go_enter Tryz.func65, Tryz.ntmps65
  go_wp2
  go_ret
  exact ⟨rfl, rfl⟩
set_option maxRecDepth 100000 in
theorem werr_any (h : WrS B w e wb v O lim oe) :
    Calls Tryz.prog 66 #[.pointer (some ⟨wb, 0, none⟩)] w fun r w' => r = .returned (errV e oe) ∧ w' = w := by
  have c2 := h.at_.c2
  clear h
  generalize errV e oe = x at *
  go_enter Tryz.func66, Tryz.ntmps66
  go_wp2
  go_ret
  exact ⟨rfl, rfl⟩
set_option maxRecDepth 100000 in
theorem wbytes_any (h : WrS B w e wb v O lim oe) :
    Calls Tryz.prog 30 #[.pointer (some ⟨wb, 0, none⟩)] w fun r w' => r = .returned v ∧ w' = w := by
  have c0 := h.at_.c0
  clear h
  go_enter Tryz.func30, Tryz.ntmps30
  go_wp2
  go_ret
  exact ⟨rfl, rfl⟩
set_option maxRecDepth 100000 in
theorem newWriter_any (lim : Nat) (hl : lim ≤ 1024) :
    Calls Tryz.prog 12 #[.int .i64 (lim : Int)] w fun r w' => r = .returned (.pointer (some ⟨w.heap.size, 0, none⟩)) ∧ w' = w.alloc (.cells #[.slice none 0 0, .int .i64 (lim : Int), .nilIface] 90) := by
  have h0 : ¬ (lim : Int) < 0 := by omega
  have hm : max (lim : Int) 0 = (lim : Int) := by omega
  go_enter Tryz.func12, Tryz.ntmps12
  go_wp2
  go_ret
  exact ⟨rfl, rfl⟩
set_option maxRecDepth 100000 in
theorem newReader_any (a : Option Addr) (n c : Nat) :
    Calls Tryz.prog 13 #[.slice a n c] w fun r w' => r = .returned (.pointer (some ⟨w.heap.size, 0, none⟩)) ∧ w' = w.alloc (.cells #[.slice a n c, .int .i64 0, .nilIface] 92) := by
  go_enter Tryz.func13, Tryz.ntmps13
  go_wp2
  go_ret
  exact ⟨rfl, rfl⟩
set_option maxRecDepth 100000 in
theorem dreset_any (d tb c n : Nat) (h : DigAt w d tb c n) :
    Calls Tryz.prog 14 #[.pointer (some ⟨d, 0, none⟩)] w fun r w' => r = .returned (.tuple #[]) ∧ DigAt w' d tb 0 0 ∧ Only d w w' := by
  have c1 := h.c1
  have c2 := h.c2
  have f1 := h.fr 1
  have f2 := h.fr 2
  have HF : Hid (DigAt ((w.setCell ⟨d, 1, none⟩ (.int .u32 0)).setCell ⟨d, 2, none⟩ (.int .u64 0)) d tb 0 0 ∧ Only d w ((w.setCell ⟨d, 1, none⟩ (.int .u32 0)).setCell ⟨d, 2, none⟩ (.int .u64 0))) := ⟨by have := h.set 0 0 0; exact this, ((Only.refl _ _).setCell _ _).setCell _ _⟩
  clear h
  go_enter Tryz.func14, Tryz.ntmps14
  go_wp2
  go_end0
  exact ⟨rfl, HF.out⟩
end
end Go.Proofs.Qxb6500698aGreatDoor
