/-
  THE WALKS OF U32, splitTrailer, Seal, Open, SealFletcher, OpenFletcher.
-/
import Derived.Test.Qxb6500698aGreatDoorZIntsC
import Derived.Test.Qxb6500698aGreatDoorZCrcC
import Derived.Test.Qxb6500698aGreatDoorFltW
namespace Go.Proofs.Qxb6500698aGreatDoor
open Go.RowKit

theorem or_at (a b k m : Nat) (h : m = 2 ^ k) (ha : a < m) (hb : b * m < 4294967296) (hm : m ≤ 4294967296) : bits BinOp.or IntKind.u32 (a : Int) ((b : Int) * (m : Int)) = ((a + m * b : Nat) : Int) := by
  rw [← Int.natCast_mul, u32_or_nat a (b * m) (by omega) hb]
  congr 1
  subst h
  rw [Nat.mul_comm b, Nat.or_comm, ← Nat.two_pow_add_eq_or_of_lt ha b]; omega

set_option maxRecDepth 100000 in
set_option maxHeartbeats 1000000 in
theorem u32_any (t0 t1 t2 t3 b o cap : Nat) (w : World) (c0 : w.cell? ⟨b, o, none⟩ = some (.int .u8 t0)) (c1 : w.cell? ⟨b, o + 1, none⟩ = some (.int .u8 t1)) (c2 : w.cell? ⟨b, o + 2, none⟩ = some (.int .u8 t2)) (c3 : w.cell? ⟨b, o + 3, none⟩ = some (.int .u8 t3))
    (h0 : t0 < 256) (h1 : t1 < 256) (h2 : t2 < 256) (h3 : t3 < 256) :
    Calls Tryz.prog 92 #[.slice (some ⟨b, o, none⟩) 4 cap] w fun r w' => r = .returned (.tuple #[.int .u32 ((undig [t0, t1, t2, t3] : Nat) : Int), .bool true]) ∧ ∃ m, w' = w.drewN m := by
  obtain ⟨s1, hs1⟩ : ∃ s1, t0 + 256 * t1 = s1 := ⟨_, rfl⟩
  obtain ⟨s2, hs2⟩ : ∃ s2, s1 + 65536 * t2 = s2 := ⟨_, rfl⟩
  obtain ⟨s3, hs3⟩ : ∃ s3, s2 + 16777216 * t3 = s3 := ⟨_, rfl⟩
  have o1 : bits BinOp.or IntKind.u32 (t0 : Int) ((t1 : Int) * 256) = (s1 : Int) := by rw [← hs1]; exact or_at t0 t1 8 256 rfl (by omega) (by omega) (by omega)
  have o2 : bits BinOp.or IntKind.u32 (s1 : Int) ((t2 : Int) * 65536) = (s2 : Int) := by rw [← hs2]; exact or_at s1 t2 16 65536 rfl (by omega) (by omega) (by omega)
  have o3 : bits BinOp.or IntKind.u32 (s2 : Int) ((t3 : Int) * 16777216) = (s3 : Int) := by rw [← hs3]; exact or_at s2 t3 24 16777216 rfl (by omega) (by omega) (by omega)
  have hu : undig [t0, t1, t2, t3] = s3 := by simp only [undig]; omega
  have hb1 : s1 < 65536 := by omega
  have hb2 : s2 < 16777216 := by omega
  have hb3 : s3 < 4294967296 := by omega
  rw [hu]
  clear hu hs1 hs2 hs3
  go_enter Tryz.func92, Tryz.ntmps92
  go_wp2
  go_quiet (fail)
  go_wp2
  go_ret2
  exact ⟨rfl, _, rfl⟩

set_option maxRecDepth 100000 in
set_option maxHeartbeats 1000000 in
theorem split_short (n cap : Nat) (ao : Option Addr) (e : Nat → Addr) (w : World) (E : Errs w e) (hn : n < 4) :
    Calls Tryz.prog 94 #[.slice ao n cap] w fun r w' => r = .returned (.tuple #[.slice none 0 0, .int .u32 0, errV e (some 0)]) ∧ ∃ m, w' = w.drewN m := by
  have c0 := E.cell 0 (by omega)
  have hn' : (n : Int) < 4 := by omega
  clear E
  go_enter Tryz.func94, Tryz.ntmps94
  go_wp2
  go_quiet (fail)
  go_wp2
  go_ret3
  exact ⟨rfl, _, rfl⟩

set_option maxRecDepth 100000 in
set_option maxHeartbeats 1000000 in
theorem split_ok (p : List Nat) (t0 t1 t2 t3 b o cap : Nat) (w : World) (hrow : BRow w (some ⟨b, o, none⟩) (p ++ [t0, t1, t2, t3])) (hcap : p.length + 4 ≤ cap) (hcap2 : cap ≤ 9223372036854775807) :
    Calls Tryz.prog 94 #[.slice (some ⟨b, o, none⟩) (p.length + 4) cap] w fun r w' => r = .returned (.tuple #[.slice (some ⟨b, o, none⟩) p.length cap, .int .u32 ((undig [t0, t1, t2, t3] : Nat) : Int), .nilIface]) ∧ ∃ m, w' = w.drewN m := by
  have hd := BRow.drop hrow p.length
  rw [List.drop_left] at hd
  obtain ⟨b', o', ha, hc⟩ := hd.row (by simp)
  obtain ⟨rfl, rfl⟩ : b = b' ∧ o + p.length = o' := by simpa using ha
  have HU : Hid _ := u32_any t0 t1 t2 t3 b (o + p.length) (cap - p.length) w (hc 0 (by simp)) (hc 1 (by simp)) (hc 2 (by simp)) (hc 3 (by simp)) (hd.lt _ (by simp)) (hd.lt _ (by simp)) (hd.lt _ (by simp)) (hd.lt _ (by simp))
  clear hd hc ha hrow
  obtain ⟨u, hu⟩ : ∃ u, undig [t0, t1, t2, t3] = u := ⟨_, rfl⟩
  rw [hu] at HU ⊢
  clear hu
  have hle : (p.length : Int) ≤ (cap : Int) := by omega
  have hne : ¬ cap = p.length := by omega
  go_enter Tryz.func94, Tryz.ntmps94
  go_wp2_with fail
  refine Calls.mono HU.out ?_
  rintro r w' ⟨rfl, m, rfl⟩
  go_wp2
  go_ret3
  exact ⟨rfl, _, rfl⟩

theorem ownB_drewN {w : World} {base : Nat} {v : Value} {bs : List Nat} (h : OwnB w base v bs) (m : Nat) : OwnB (w.drewN m) base v bs := by
  unfold OwnB World.ownsRow at *
  rw [(World.drewN_alike w m).1]
  exact h

set_option maxRecDepth 100000 in
set_option maxHeartbeats 1000000 in
theorem seal_any (base tb : Nat) (vd : Value) (bs : List Nat) (w : World) (hT : Tabs w tb) (hown : OwnB w base vd bs) (hlt : ∀ x ∈ bs, x < 256) (hbase : base ≤ w.heap.size) (hlen : bs.length ≤ 1099511627776) :
    Calls Tryz.prog 63 #[.pointer (some ⟨tb, 0, none⟩), vd] w fun r w' => ∃ v', r = .returned v' ∧ OwnB w' base v' (bs ++ dig (Crc.crc bs) 4) ∧ Gr vd v' w w' := by
  obtain ⟨ao, cap, hv, hc, hc', hrow, _, _⟩ := BRow.of_owns hown hlt
  unfold maxLen at hc'
  have HC : Hid _ := checksum_any bs tb cap ao w (by omega) hc hT hrow
  rw [← hv] at HC
  have hu : Crc.crc bs < 4294967296 := Crc.upd_lt _ (by decide) hlt
  have HA : Hid (∀ m, Calls Tryz.prog 86 #[vd, .int .u32 ((Crc.crc bs : Nat) : Int)] (w.drewN m) fun r w' => ∃ v', r = .returned v' ∧ OwnB w' base v' (bs ++ dig (Crc.crc bs) 4) ∧ Gr vd v' w w') := by
    intro m
    refine (appendU32_any base vd bs (Crc.crc bs) (w.drewN m) ?_ ?_ hlen hu).mono ?_
    · exact ownB_drewN hown m
    · rw [(World.drewN_alike w m).1]; exact hbase
    · rintro r w' ⟨v', rfl, h1, h2⟩
      exact ⟨v', rfl, h1, h2.drewN⟩
  clear hrow hown hT hv
  generalize Crc.crc bs = q at *
  go_enter Tryz.func63, Tryz.ntmps63
  go_wp2_with fail
  refine Calls.mono HC.out ?_
  rintro r w1 ⟨rfl, m, rfl⟩
  go_wp2_with fail
  refine Calls.mono (HA.out m) ?_
  rintro r w' ⟨v', rfl, h1, h2⟩
  have H1 : Hid _ := h1
  have H2 : Hid _ := h2
  clear h1 h2
  go_wp2
  go_ret
  exact ⟨v', rfl, H1.out, H2.out⟩

set_option maxRecDepth 100000 in
set_option maxHeartbeats 1000000 in
theorem sealF_any (base : Nat) (vd : Value) (bs : List Nat) (w : World) (hown : OwnB w base vd bs) (hlt : ∀ x ∈ bs, x < 256) (hbase : base ≤ w.heap.size) (hlen : bs.length ≤ 1099511627776) :
    Calls Tryz.prog 64 #[vd] w fun r w' => ∃ v', r = .returned v' ∧ OwnB w' base v' (bs ++ dig (Flt.fl bs) 4) ∧ Gr vd v' w w' := by
  obtain ⟨ao, cap, hv, hc, hc', hrow, _, _⟩ := BRow.of_owns hown hlt
  unfold maxLen at hc'
  have HC : Hid _ := fletcher_any bs cap ao w (by omega) hc hrow
  rw [← hv] at HC
  have hu : Flt.fl bs < 4294967296 := Flt.fl_lt bs
  have HA : Hid (∀ m, Calls Tryz.prog 86 #[vd, .int .u32 ((Flt.fl bs : Nat) : Int)] (w.drewN m) fun r w' => ∃ v', r = .returned v' ∧ OwnB w' base v' (bs ++ dig (Flt.fl bs) 4) ∧ Gr vd v' w w') := by
    intro m
    refine (appendU32_any base vd bs (Flt.fl bs) (w.drewN m) ?_ ?_ hlen hu).mono ?_
    · exact ownB_drewN hown m
    · rw [(World.drewN_alike w m).1]; exact hbase
    · rintro r w' ⟨v', rfl, h1, h2⟩
      exact ⟨v', rfl, h1, h2.drewN⟩
  clear hrow hown hv
  generalize Flt.fl bs = q at *
  go_enter Tryz.func64, Tryz.ntmps64
  go_wp2_with fail
  refine Calls.mono HC.out ?_
  rintro r w1 ⟨rfl, m, rfl⟩
  go_wp2_with fail
  refine Calls.mono (HA.out m) ?_
  rintro r w' ⟨v', rfl, h1, h2⟩
  have H1 : Hid _ := h1
  have H2 : Hid _ := h2
  clear h1 h2
  go_wp2
  go_ret
  exact ⟨v', rfl, H1.out, H2.out⟩
set_option maxRecDepth 100000 in
set_option maxHeartbeats 1000000 in
theorem open_short (tb n cap : Nat) (ao : Option Addr) (e : Nat → Addr) (w : World) (E : Errs w e) (hn : n < 4) :
    Calls Tryz.prog 77 #[.pointer (some ⟨tb, 0, none⟩), .slice ao n cap] w fun r w' => r = .returned (.tuple #[.slice none 0 0, errV e (some 0)]) ∧ ∃ m, w' = w.drewN m := by
  have hI : Tryz.prog.isIface 71 = true := by kernel_rfl
  have HS : Hid _ := split_short n cap ao e w E hn
  have HX : Hid (errV e (some 0) = .iface 146 (.pointer (some (e 0)))) := rfl
  rw [HX.out] at HS ⊢
  clear E
  go_enter Tryz.func77, Tryz.ntmps77
  go_wp2_with fail
  refine Calls.mono HS.out ?_
  rintro r w1 ⟨rfl, m, rfl⟩
  go_wp2
  go_ret2
  exact ⟨rfl, _, rfl⟩

set_option maxRecDepth 100000 in
set_option maxHeartbeats 1000000 in
theorem open_ok (tb g o cap : Nat) (p : List Nat) (w : World) (hT : Tabs w tb) (hrow : BRow w (some ⟨g, o, none⟩) (p ++ dig (Crc.crc p) 4)) (hcap : p.length + 4 ≤ cap) (hcap2 : cap ≤ 9223372036854775807) :
    Calls Tryz.prog 77 #[.pointer (some ⟨tb, 0, none⟩), .slice (some ⟨g, o, none⟩) (p.length + 4) cap] w fun r w' => r = .returned (.tuple #[.slice (some ⟨g, o, none⟩) p.length cap, .nilIface]) ∧ ∃ m, w' = w.drewN m := by
  have hI : Tryz.prog.isIface 71 = true := by kernel_rfl
  have htk := BRow.take hrow p.length
  rw [List.take_left] at htk
  have hu : Crc.crc p < 4294967296 := Crc.upd_lt _ (by decide) htk.lt
  have HC : Hid (∀ m, _) := fun m => checksum_any p tb cap (some ⟨g, o, none⟩) (w.drewN m) hcap2 (by omega) (hT.below (drewN_below _ _ _)) (htk.drewN m)
  have hud := undig_dig 4 (Crc.crc p) (by omega)
  simp only [dig] at hrow hud
  have HS : Hid _ := split_ok p _ _ _ _ g o cap w hrow hcap hcap2
  rw [hud] at HS
  clear hrow htk hud hT
  generalize Crc.crc p = q at *
  go_enter Tryz.func77, Tryz.ntmps77
  go_wp2_with fail
  refine Calls.mono HS.out ?_
  rintro r w1 ⟨rfl, m, rfl⟩
  go_wp2_with fail
  refine Calls.mono (HC.out m) ?_
  rintro r w2 ⟨rfl, m2, rfl⟩
  go_wp2
  go_ret2
  exact ⟨rfl, _, rfl⟩

set_option maxRecDepth 100000 in
set_option maxHeartbeats 1000000 in
theorem openF_short (n cap : Nat) (ao : Option Addr) (e : Nat → Addr) (w : World) (E : Errs w e) (hn : n < 4) :
    Calls Tryz.prog 79 #[.slice ao n cap] w fun r w' => r = .returned (.tuple #[.slice none 0 0, errV e (some 0)]) ∧ ∃ m, w' = w.drewN m := by
  have hI : Tryz.prog.isIface 71 = true := by kernel_rfl
  have HS : Hid _ := split_short n cap ao e w E hn
  have HX : Hid (errV e (some 0) = .iface 146 (.pointer (some (e 0)))) := rfl
  rw [HX.out] at HS ⊢
  clear E
  go_enter Tryz.func79, Tryz.ntmps79
  go_wp2_with fail
  refine Calls.mono HS.out ?_
  rintro r w1 ⟨rfl, m, rfl⟩
  go_wp2
  go_ret2
  exact ⟨rfl, _, rfl⟩

set_option maxRecDepth 100000 in
set_option maxHeartbeats 1000000 in
theorem openF_ok (g o cap : Nat) (p : List Nat) (w : World) (hrow : BRow w (some ⟨g, o, none⟩) (p ++ dig (Flt.fl p) 4)) (hcap : p.length + 4 ≤ cap) (hcap2 : cap ≤ 9223372036854775807) :
    Calls Tryz.prog 79 #[.slice (some ⟨g, o, none⟩) (p.length + 4) cap] w fun r w' => r = .returned (.tuple #[.slice (some ⟨g, o, none⟩) p.length cap, .nilIface]) ∧ ∃ m, w' = w.drewN m := by
  have hI : Tryz.prog.isIface 71 = true := by kernel_rfl
  have htk := BRow.take hrow p.length
  rw [List.take_left] at htk
  have hu : Flt.fl p < 4294967296 := Flt.fl_lt p
  have HC : Hid (∀ m, _) := fun m => fletcher_any p cap (some ⟨g, o, none⟩) (w.drewN m) hcap2 (by omega) (htk.drewN m)
  have hud := undig_dig 4 (Flt.fl p) (by omega)
  simp only [dig] at hrow hud
  have HS : Hid _ := split_ok p _ _ _ _ g o cap w hrow hcap hcap2
  rw [hud] at HS
  clear hrow htk hud
  generalize Flt.fl p = q at *
  go_enter Tryz.func79, Tryz.ntmps79
  go_wp2_with fail
  refine Calls.mono HS.out ?_
  rintro r w1 ⟨rfl, m, rfl⟩
  go_wp2_with fail
  refine Calls.mono (HC.out m) ?_
  rintro r w2 ⟨rfl, m2, rfl⟩
  go_wp2
  go_ret2
  exact ⟨rfl, _, rfl⟩
end Go.Proofs.Qxb6500698aGreatDoor
