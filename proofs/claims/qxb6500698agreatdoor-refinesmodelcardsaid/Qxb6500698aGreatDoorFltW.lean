/-
  THE WALKS OF FLETCHER-32: addWord, addWords (the reduction put off to the end of each block), Fletcher32.
-/
import Derived.Test.Qxb6500698aGreatDoorSmall
import Derived.Test.Qxb6500698aGreatDoorFlt
import Derived.BigQuiet
namespace Go.Proofs.Qxb6500698aGreatDoor
open Go.RowKit

set_option maxHeartbeats 400000 in
theorem addWord_any (s1 s2 d : Nat) (w : World) (h1 : s1 < 65535) (h2 : s2 < 65535) (hd : d < 65536) :
    Calls Tryz.prog 53 #[.int .u32 s1, .int .u32 s2, .int .u32 d] w fun e w' => e = .returned (.tuple #[.int .u32 ((Flt.word1 s1 d : Nat) : Int), .int .u32 ((Flt.word2 s1 s2 d : Nat) : Int)]) ∧ w' = w := by
  have e1 : ((Flt.word1 s1 d : Nat) : Int) = ((s1 : Int) + d) % 65535 := by unfold Flt.word1; omega
  have e2 : ((Flt.word2 s1 s2 d : Nat) : Int) = ((s2 : Int) + ((s1 : Int) + d) % 65535) % 65535 := by unfold Flt.word2; omega
  rw [e1, e2]
  clear e1 e2
  go_enter Tryz.func53, Tryz.ntmps53
  go_wp2
  go_ret2
  exact ⟨rfl, rfl⟩

theorem or_word (x y : Nat) (hx : x < 256) (hy : y < 256) : bits BinOp.or IntKind.u32 (x : Int) ((y : Int) * 256) = ((x + 256 * y : Nat) : Int) := by
  rw [show ((y : Int) * 256) = ((y * 256 : Nat) : Int) by omega, u32_or_nat x (y * 256) (by omega) (by omega)]
  congr 1
  have : x ||| y * 2 ^ 8 = x + 2 ^ 8 * y := by
    rw [Nat.mul_comm y, Nat.or_comm, ← Nat.two_pow_add_eq_or_of_lt (by omega) y]; omega
  exact this

/-- What is left to be read by addWords. -/
structure WRest (w : World) (bs done rest : List Nat) (ao : Option Addr) (c : Nat) : Prop where
  all : bs = done ++ rest
  even : done.length % 2 = 0
  even2 : rest.length % 2 = 0
  cap : rest.length ≤ c
  row : BRow w ao rest

/-- One block taken. -/
theorem WRest.block {w : World} {bs done rest : List Nat} {b o c : Nat} (h : WRest w bs done rest (some ⟨b, o, none⟩) c) (k : Nat) (hk : k ≤ rest.length) (he : k % 2 = 0) :
    WRest w bs (done ++ rest.take k) (rest.drop k) (if c = k then some ⟨b, o, none⟩ else some ⟨b, o + k, none⟩) (c - k) := by
  have hc := h.cap
  have h1 := h.even
  have h2 := h.even2
  refine ⟨by rw [h.all, List.append_assoc, List.take_append_drop], ?_, ?_, ?_, h.row.drop_if k c hc⟩
  · rw [List.length_append, List.length_take]; omega
  · rw [List.length_drop]; omega
  · rw [List.length_drop]; omega

set_option maxRecDepth 100000 in
set_option maxHeartbeats 2000000 in
theorem addWords_any (bs : List Nat) (s1 s2 cap : Nat) (ao : Option Addr) (w : World) (h1 : s1 < 65535) (h2 : s2 < 65535) (_hlen : cap ≤ 9223372036854775807) (hcap : bs.length ≤ cap) (he : bs.length % 2 = 0) (hrow : BRow w ao bs) :
    Calls Tryz.prog 82 #[.int .u32 s1, .int .u32 s2, .slice ao bs.length cap] w fun e w' => e = .returned (.tuple #[.int .u32 (((Flt.sums s1 s2 bs).1 : Nat) : Int), .int .u32 (((Flt.sums s1 s2 bs).2 : Nat) : Int)]) ∧ ∃ n, w' = w.drewN n := by
  have HR : Hid (WRest w bs [] bs ao cap) := ⟨rfl, rfl, he, hcap, hrow⟩
  have hlt := hrow.lt
  clear hrow he
  go_enter Tryz.func82, Tryz.ntmps82
  go_wp2
  go_loopw [0, 1, 2] (fun a1 a2 p wr => ∃ (done rest : List Nat) (a : Option Addr) (c n : Nat), WRest w bs done rest a c ∧ c ≤ cap ∧ p = .slice a rest.length c ∧ a1 = .int .u32 (((Flt.sums s1 s2 done).1 : Nat) : Int) ∧ a2 = .int .u32 (((Flt.sums s1 s2 done).2 : Nat) : Int) ∧ wr = w.drewN n)
    (fun _ _ p _ => match p with | .slice _ l _ => l | _ => 0)
  case atStart => exact ⟨[], bs, ao, cap, 0, HR.out, Nat.le_refl _, rfl, rfl, rfl, rfl⟩
  case round =>
    clear HR
    obtain ⟨done, rest, a, c, n, hR, hc, rfl, rfl, rfl, rfl⟩ := hrel
    have hsl := Flt.sums_lt done s1 s2 h1 h2
    by_cases h0 : 0 < rest.length
    · obtain ⟨b, o, rfl, hcell⟩ := hR.row.row (List.length_pos_iff.1 h0)
      have hl0 : (0 : Int) < (rest.length : Int) := by omega
      have hcr := hR.cap
      have her := hR.even2
      by_cases hbig : 720 < rest.length
      · have hbig' : (720 : Int) < (rest.length : Int) := by omega
        have hk2 : 720 % 2 = 0 := by omega
        have hkl : 720 ≤ rest.length := by omega
        have hk720 : 720 ≤ 720 := by omega
        have HB : Hid _ := hR.block 720 hkl hk2
        have hbl : (rest.take 720).length = 720 := by simp; omega
        have hcb : ∀ i, i < 720 → (rest.take 720).getD i 0 < 256 ∧ w.cell? ⟨b, o + i, none⟩ = some (.int .u8 (((rest.take 720).getD i 0 : Nat) : Int)) := by
          intro i hi
          have e : (rest.take 720).getD i 0 = rest.getD i 0 := by simp [List.getD_eq_getElem?_getD, hi]
          rw [e]
          exact ⟨hR.row.byte (by omega), hcell i (by omega)⟩
        have HS : Hid (Flt.sums s1 s2 (done ++ rest.take 720) = Flt.sums (Flt.sums s1 s2 done).1 (Flt.sums s1 s2 done).2 (rest.take 720)) := Flt.sums_append done _ hR.even s1 s2
        clear hR hcell
        go_wp2
        generalize (Flt.sums s1 s2 done).1 = t1 at *
        generalize (Flt.sums s1 s2 done).2 = t2 at *
        go_loopw [0, 1, 9] (fun a1 a2 i wr => ∃ (k u1 u2 m : Nat), 2 * k ≤ 720 ∧ i = .int .i64 ((2 * k : Nat) : Int) ∧ a1 = .int .u32 u1 ∧ a2 = .int .u32 u2 ∧ Flt.Block t1 t2 (rest.take 720) k u1 u2 ∧ wr = w.drewN m) (fun _ _ i _ => 720 - (intOf i).toNat)
        case atStart => exact ⟨0, t1, t2, n, by omega, rfl, rfl, rfl, Flt.Block.start _ hsl.1 hsl.2, rfl⟩
        case round =>
          obtain ⟨k, u1, u2, m, hk, rfl, rfl, rfl, hBk, rfl⟩ := hrel
          by_cases hin : 2 * k + 1 < 720
          · obtain ⟨hx, hcx⟩ := hcb (2 * k) (by omega)
            obtain ⟨hy, hcy⟩ := hcb (2 * k + 1) hin
            obtain ⟨hB2, hu2⟩ := hBk.step (by omega) (by omega) hx hy
            have HB2 : Hid _ := hB2
            have hu1 := hB2.b1
            clear hBk hB2 hcb
            generalize (rest.take 720).getD (2 * k) 0 = x at *
            generalize (rest.take 720).getD (2 * k + 1) 0 = y at *
            have hor := or_word x y hx hy
            have hin' : (2 : Int) * (k : Int) + 1 < 720 := by omega
            have hin2 : (2 : Int) * (k : Int) < 720 := by omega
            go_wp2
            go_quiet (fail)
            go_wp2
            go_roundw
            case rel => exact ⟨k + 1, _, _, _, by omega, by go_num, by go_num, by go_num, HB2.out, rfl⟩
            case measure => simp [intOf]; omega
          · have hkk : 2 * k = 720 := by omega
            have hm1 := hBk.m1
            have hm2 := hBk.m2
            have htk : List.take (2 * k) (rest.take 720) = rest.take 720 := List.take_of_length_le (by omega)
            rw [htk] at hm1 hm2
            have HM1 : Hid ((Flt.sums s1 s2 (done ++ rest.take 720)).1 = u1 % 65535) := by show _ = _; rw [HS.out, hm1]
            have HM2 : Hid ((Flt.sums s1 s2 (done ++ rest.take 720)).2 = u2 % 65535) := by show _ = _; rw [HS.out, hm2]
            have hin' : ¬ (2 : Int) * (k : Int) + 1 < 720 := by omega
            clear hm1 hm2 htk hBk hcb hkk
            go_wp2
            go_roundw
            case rel =>
              refine ⟨done ++ rest.take 720, rest.drop 720, _, c - 720, _, HB.out, by omega, ?_, ?_, ?_, rfl⟩
              · rw [if_neg (by omega), List.length_drop]
              · rw [HM1.out]; congr 1
              · rw [HM2.out]; congr 1
            case measure => simp; omega
      · have hbig' : ¬ (720 : Int) < (rest.length : Int) := by omega
        have hk2 : rest.length % 2 = 0 := by omega
        have hkl : rest.length ≤ rest.length := by omega
        have hk720 : rest.length ≤ 720 := by omega
        have hB0 := hR.block rest.length hkl hk2
        obtain ⟨ad, had⟩ : ∃ ad, (if c = rest.length then some (⟨b, o, none⟩ : Addr) else some ⟨b, o + rest.length, none⟩) = ad := ⟨_, rfl⟩
        rw [had] at hB0
        have HB : Hid _ := hB0
        clear hB0
        have hbl : (rest.take rest.length).length = rest.length := by simp
        have hcb : ∀ i, i < rest.length → (rest.take rest.length).getD i 0 < 256 ∧ w.cell? ⟨b, o + i, none⟩ = some (.int .u8 (((rest.take rest.length).getD i 0 : Nat) : Int)) := by
          intro i hi
          have e : (rest.take rest.length).getD i 0 = rest.getD i 0 := by simp [List.getD_eq_getElem?_getD, hi]
          rw [e]
          exact ⟨hR.row.byte (by omega), hcell i (by omega)⟩
        have HS : Hid (Flt.sums s1 s2 (done ++ rest.take rest.length) = Flt.sums (Flt.sums s1 s2 done).1 (Flt.sums s1 s2 done).2 (rest.take rest.length)) := Flt.sums_append done _ hR.even s1 s2
        clear hR hcell
        go_wp2
        generalize (Flt.sums s1 s2 done).1 = t1 at *
        generalize (Flt.sums s1 s2 done).2 = t2 at *
        go_loopw [0, 1, 9] (fun a1 a2 i wr => ∃ (k u1 u2 m : Nat), 2 * k ≤ rest.length ∧ i = .int .i64 ((2 * k : Nat) : Int) ∧ a1 = .int .u32 u1 ∧ a2 = .int .u32 u2 ∧ Flt.Block t1 t2 (rest.take rest.length) k u1 u2 ∧ wr = w.drewN m) (fun _ _ i _ => rest.length - (intOf i).toNat)
        case atStart => exact ⟨0, t1, t2, n, by omega, rfl, rfl, rfl, Flt.Block.start _ hsl.1 hsl.2, rfl⟩
        case round =>
          obtain ⟨k, u1, u2, m, hk, rfl, rfl, rfl, hBk, rfl⟩ := hrel
          by_cases hin : 2 * k + 1 < rest.length
          · obtain ⟨hx, hcx⟩ := hcb (2 * k) (by omega)
            obtain ⟨hy, hcy⟩ := hcb (2 * k + 1) hin
            obtain ⟨hB2, hu2⟩ := hBk.step (by omega) (by omega) hx hy
            have HB2 : Hid _ := hB2
            have hu1 := hB2.b1
            clear hBk hB2 hcb
            generalize (rest.take rest.length).getD (2 * k) 0 = x at *
            generalize (rest.take rest.length).getD (2 * k + 1) 0 = y at *
            have hor := or_word x y hx hy
            have hin' : (2 : Int) * (k : Int) + 1 < (rest.length : Int) := by omega
            have hin2 : (2 : Int) * (k : Int) < (rest.length : Int) := by omega
            go_wp2
            go_quiet (fail)
            go_wp2
            go_roundw
            case rel => exact ⟨k + 1, _, _, _, by omega, by go_num, by go_num, by go_num, HB2.out, rfl⟩
            case measure => simp [intOf]; omega
          · have hkk : 2 * k = rest.length := by omega
            have hm1 := hBk.m1
            have hm2 := hBk.m2
            have htk : List.take (2 * k) (rest.take rest.length) = rest.take rest.length := List.take_of_length_le (by omega)
            rw [htk] at hm1 hm2
            have HM1 : Hid ((Flt.sums s1 s2 (done ++ rest.take rest.length)).1 = u1 % 65535) := by show _ = _; rw [HS.out, hm1]
            have HM2 : Hid ((Flt.sums s1 s2 (done ++ rest.take rest.length)).2 = u2 % 65535) := by show _ = _; rw [HS.out, hm2]
            have hin' : ¬ (2 : Int) * (k : Int) + 1 < (rest.length : Int) := by omega
            clear hm1 hm2 htk hBk hcb hkk
            go_wp2
            go_roundw
            case rel =>
              refine ⟨done ++ rest.take rest.length, rest.drop rest.length, _, c - rest.length, _, HB.out, by omega, ?_, ?_, ?_, rfl⟩
              · simp
              · rw [HM1.out]; congr 1
              · rw [HM2.out]; congr 1
            case measure => simp; omega
    · have hl0 : ¬ (0 : Int) < (rest.length : Int) := by omega
      have hd : done = bs := by
        have : rest = [] := List.length_eq_zero_iff.1 (by omega)
        rw [hR.all, this, List.append_nil]
      subst hd
      clear hR
      go_wp2
      go_ret2
      exact ⟨rfl, n, rfl⟩

theorem andNot1 (n : Nat) (h : n < 9223372036854775808) : bits BinOp.andNot IntKind.i64 (n : Int) 1 = ((n - n % 2 : Nat) : Int) := by
  have e : (BitVec.ofInt 64 (n : Int) &&& ~~~BitVec.ofInt 64 1).toNat = n - n % 2 := by
    rw [BitVec.toNat_and, BitVec.toNat_not, BitVec.ofInt_natCast, BitVec.toNat_ofNat, Nat.mod_eq_of_lt (show n < 2 ^ 64 by omega)]
    have e2 : 2 ^ 64 - 1 - (BitVec.ofInt 64 1).toNat = 18446744073709551614 := by decide
    rw [e2]
    have := nat_hi64_1 n
    rw [this]
    omega
  show IntKind.i64.wrap ((BitVec.ofInt 64 (n : Int) &&& ~~~BitVec.ofInt 64 1).toNat : Int) = _
  rw [e]
  exact IntWalk.i64_in _ (by omega)

theorem take_even_last (bs : List Nat) (h : bs.length % 2 = 1) : bs = bs.take (bs.length - bs.length % 2) ++ [bs.getD (bs.length - bs.length % 2) 0] := by
  have h1 : bs.length - bs.length % 2 < bs.length := by omega
  have := List.take_succ_eq_append_getElem h1
  rw [show bs.length - bs.length % 2 + 1 = bs.length by omega, List.take_length] at this
  rw [show [bs.getD (bs.length - bs.length % 2) 0] = [bs[bs.length - bs.length % 2]] by simp [List.getD_eq_getElem?_getD, h1]]
  exact this

theorem or_sums (s1 s2 : Nat) (h1 : s1 < 65535) (h2 : s2 < 65535) : bits BinOp.or IntKind.u32 ((s2 : Int) * 65536) (s1 : Int) = ((s2 * 65536 + s1 : Nat) : Int) := by
  rw [show ((s2 : Int) * 65536) = ((s2 * 65536 : Nat) : Int) by omega, u32_or_nat (s2 * 65536) s1 (by omega) (by omega)]
  congr 1
  have : s2 * 2 ^ 16 ||| s1 = 2 ^ 16 * s2 + s1 := by
    rw [Nat.mul_comm s2, ← Nat.two_pow_add_eq_or_of_lt (by omega) s2]
  rw [show (65536 : Nat) = 2 ^ 16 from rfl, this]; omega

set_option maxRecDepth 100000 in
set_option maxHeartbeats 1000000 in
theorem fletcher_any (bs : List Nat) (cap : Nat) (ao : Option Addr) (w : World) (hlen : cap ≤ 9223372036854775807) (hcap : bs.length ≤ cap) (hrow : BRow w ao bs) :
    Calls Tryz.prog 89 #[.slice ao bs.length cap] w fun e w' => e = .returned (.int .u32 ((Flt.fl bs : Nat) : Int)) ∧ ∃ n, w' = w.drewN n := by
  have han := andNot1 bs.length (by omega)
  have hte : (bs.take (bs.length - bs.length % 2)).length = bs.length - bs.length % 2 := by simp
  have haw := addWords_any (bs.take (bs.length - bs.length % 2)) 0 0 cap ao w (by decide) (by decide) hlen (by omega) (by omega) (hrow.take _)
  rw [hte, show ((0 : Nat) : Int) = 0 from rfl] at haw
  have HAW : Hid _ := haw
  clear haw
  have hsl := Flt.sums_lt (bs.take (bs.length - bs.length % 2)) 0 0 (by decide) (by decide)
  by_cases hodd : bs.length % 2 = 1
  · obtain ⟨b, o, rfl, hcell⟩ := hrow.row (ne_nil_of_lt (i := bs.length - bs.length % 2) (by omega))
    have hcl := hcell (bs.length - bs.length % 2) (by omega)
    have hb := hrow.byte (i := bs.length - bs.length % 2) (by omega)
    have HF : Hid (Flt.sums 0 0 bs = (Flt.word1 (Flt.sums 0 0 (bs.take (bs.length - bs.length % 2))).1 (bs.getD (bs.length - bs.length % 2) 0), Flt.word2 (Flt.sums 0 0 (bs.take (bs.length - bs.length % 2))).1 (Flt.sums 0 0 (bs.take (bs.length - bs.length % 2))).2 (bs.getD (bs.length - bs.length % 2) 0))) := by
      show Flt.sums 0 0 bs = _
      have := Flt.sums_last (bs.take (bs.length - bs.length % 2)) (by omega) (bs.getD (bs.length - bs.length % 2) 0) 0 0
      rwa [← take_even_last bs hodd] at this
    have hlt2 : bs.length - bs.length % 2 < bs.length := by omega
    have hle2 : bs.length - bs.length % 2 ≤ cap := by omega
    have hle3 : ((bs.length - bs.length % 2 : Nat) : Int) ≤ (cap : Int) := by omega
    have hlt3 : ((bs.length - bs.length % 2 : Nat) : Int) < (bs.length : Int) := by omega
    clear hcell hrow hte hodd
    generalize bs.getD (bs.length - bs.length % 2) 0 = x at *
    generalize (Flt.sums 0 0 (bs.take (bs.length - bs.length % 2))).1 = t1 at *
    generalize (Flt.sums 0 0 (bs.take (bs.length - bs.length % 2))).2 = t2 at *
    generalize bs.length - bs.length % 2 = ev at *
    go_enter Tryz.func89, Tryz.ntmps89
    go_wp2_with fail
    refine Calls.mono HAW.out ?_
    rintro e w' ⟨rfl, n, rfl⟩
    go_wp2_with fail
    refine Calls.mono (addWord_any t1 t2 x _ hsl.1 hsl.2 (by omega)) ?_
    rintro e w' ⟨rfl, hw⟩
    subst hw
    have hw1 : Flt.word1 t1 x < 65535 := Nat.mod_lt _ (by decide)
    have hw2 : Flt.word2 t1 t2 x < 65535 := Nat.mod_lt _ (by decide)
    generalize Flt.word1 t1 x = q1 at *
    generalize Flt.word2 t1 t2 x = q2 at *
    have hor := or_sums q1 q2 hw1 hw2
    go_wp2
    go_ret
    exact ⟨ret_int (by unfold Flt.fl; rw [HF.out]; omega), n, rfl⟩
  · have hev : bs.length - bs.length % 2 = bs.length := by omega
    rw [hev, List.take_length] at HAW hsl
    rw [hev] at han
    have hlt3 : ¬ ((bs.length : Nat) : Int) < (bs.length : Int) := by omega
    have hle3 : ((bs.length : Nat) : Int) ≤ (cap : Int) := by omega
    clear hrow hte hodd hev
    have HF : Hid (Flt.fl bs = (Flt.sums 0 0 bs).2 * 65536 + (Flt.sums 0 0 bs).1) := rfl
    generalize (Flt.sums 0 0 bs).1 = q1 at *
    generalize (Flt.sums 0 0 bs).2 = q2 at *
    have hor := or_sums q1 q2 hsl.1 hsl.2
    go_enter Tryz.func89, Tryz.ntmps89
    go_wp2_with fail
    refine Calls.mono HAW.out ?_
    rintro e w' ⟨rfl, n, rfl⟩
    go_wp2
    go_ret
    exact ⟨ret_int (by rw [HF.out]; omega), n, rfl⟩

end Go.Proofs.Qxb6500698aGreatDoor
