/-
  THE WALKS: Checksum, bytes.Equal.
-/
import Derived.Test.Qxb6500698aGreatDoorCrcU
namespace Go.Proofs.Qxb6500698aGreatDoor
open Go.RowKit

set_option maxHeartbeats 400000 in
theorem checksum_any (bs : List Nat) (tb cap : Nat) (ao : Option Addr) (w : World) (hlen : cap ≤ 9223372036854775807) (hcap : bs.length ≤ cap) (hT : Tabs w tb) (hrow : BRow w ao bs) :
    Calls Tryz.prog 88 #[.pointer (some ⟨tb, 0, none⟩), .slice ao bs.length cap] w fun e w' => e = .returned (.int .u32 ((Crc.crc bs : Nat) : Int)) ∧ ∃ n, w' = w.drewN n := by
  have hu := update_any bs 0 (by decide) tb cap ao w hlen hcap hT hrow
  rw [show ((0 : Nat) : Int) = 0 from rfl] at hu
  have hU : Hid _ := hu
  clear hT hrow hu
  go_enter Tryz.func88, Tryz.ntmps88
  go_wp2_with fail
  refine Calls.mono hU.out ?_
  rintro e w' ⟨rfl, n, rfl⟩
  go_wp2
  go_ret
  exact ⟨rfl, n, rfl⟩

theorem and1_32 (x j : Nat) (h : x < 256) : bits BinOp.and IntKind.u32 ((x : Int) / 2 ^ j % 4294967296) 1 = ((x / 2 ^ j % 2 : Nat) : Int) := by
  have e : ((x : Int) / 2 ^ j) = ((x / 2 ^ j : Nat) : Int) := by rw [Int.natCast_ediv]; simp
  have hl : x / 2 ^ j < 4294967296 := Nat.lt_of_le_of_lt (Nat.div_le_self _ _) (by omega)
  rw [e, show ((x / 2 ^ j : Nat) : Int) % 4294967296 = ((x / 2 ^ j : Nat) : Int) from Int.emod_eq_of_lt (Int.natCast_nonneg _) (Int.ofNat_lt.2 hl), and1 _ hl]
set_option maxRecDepth 100000 in
set_option maxHeartbeats 1000000 in
theorem modelCrc_any (bs : List Nat) (cap : Nat) (ao : Option Addr) (w : World) (hlen : bs.length ≤ 9223372036854775807) (hrow : BRow w ao bs) :
    Calls Tryz.prog 39 #[.slice ao bs.length cap] w fun e w' => e = .returned (.int .u32 ((Crc.crc bs : Nat) : Int)) ∧ w' = w := by
  have HF : Hid (Crc.crc bs = Crc.run Crc.ones bs ^^^ Crc.ones) := by
    show Crc.crc bs = _
    unfold Crc.crc Crc.upd
    rw [Nat.xor_zero]
  go_enter Tryz.func39, Tryz.ntmps39
  go_wp2
  go_loop [3, 11] (fun r i => ∃ k : Nat, k ≤ bs.length ∧ i = .int .i64 k ∧ r = .int .u32 ((Crc.run Crc.ones (bs.take k) : Nat) : Int)) (fun _ i => bs.length - (intOf i).toNat)
  case atStart => exact ⟨0, Nat.zero_le _, rfl, rfl⟩
  case round =>
    obtain ⟨k, hk, rfl, rfl⟩ := hrel
    have hr : Crc.run Crc.ones (bs.take k) < 4294967296 := Crc.run_lt _ (by decide) (fun x hx => hrow.lt x (List.mem_of_mem_take hx))
    by_cases hlt : k < bs.length
    · obtain ⟨b, o, rfl, hcell⟩ := hrow.row (ne_nil_of_lt hlt)
      have hck := hcell k hlt
      have hxk := hrow.byte hlt
      have HS : Hid (Crc.run Crc.ones (bs.take (k + 1)) = Crc.bitsIn (bs.getD k 0) 8 (Crc.run Crc.ones (bs.take k))) := by
        show _ = _
        rw [List.take_succ_eq_append_getElem hlt, Crc.run_snoc, Crc.bitsIn_byte _ _ hxk]
        simp [List.getD_eq_getElem?_getD, hlt]
      have hlt' : (k : Int) < (bs.length : Int) := by omega
      clear hcell hrow
      generalize Crc.run Crc.ones (bs.take k) = r at *
      generalize bs.getD k 0 = x at *
      go_wp2
      go_loop [3, 6] (fun q i => ∃ j : Nat, j ≤ 8 ∧ i = .int .i64 j ∧ q = .int .u32 ((Crc.bitsIn x j r : Nat) : Int)) (fun _ i => 8 - (intOf i).toNat)
      case atStart => exact ⟨0, by omega, rfl, rfl⟩
      case round =>
        obtain ⟨j, hj, rfl, rfl⟩ := hrel
        have hq := Crc.bitsIn_lt x j r hr hxk
        by_cases hj8 : j < 8
        · have hj8' : (j : Int) < 8 := by omega
          have HB : Hid (Crc.bitsIn x (j + 1) r = Crc.bitIn (Crc.bitsIn x j r) x j) := rfl
          generalize Crc.bitsIn x j r = q at *
          have hin := and1_32 x j hxk
          have hout := and1 q hq
          have HI : Hid (Crc.bitIn q x j = if x / 2 ^ j % 2 ≠ q % 2 then q / 2 ^^^ Crc.poly else q / 2) := rfl
          by_cases hd : x / 2 ^ j % 2 = q % 2
          · have HI2 : Hid (Crc.bitsIn x (j + 1) r = q / 2) := by
              show _ = _
              rw [HB.out, HI.out, if_neg (by omega)]
            rw [hd] at hin
            clear hd HI HB
            generalize q % 2 = v at *
            go_wp2
            go_round
            case rel => exact ⟨j + 1, by omega, by go_num, by rw [HI2.out]; go_num⟩
            case measure => simp [intOf]; omega
          · have HI2 : Hid (Crc.bitsIn x (j + 1) r = q / 2 ^^^ Crc.poly) := by
              show _ = _
              rw [HB.out, HI.out, if_pos hd]
            have hne : (((x / 2 ^ j % 2 : Nat) : Int) != ((q % 2 : Nat) : Int)) = true := by rw [bne_iff_ne]; omega
            have HX : Hid (bits .xor .u32 ((q : Int) / 2) 3988292384 = ((q / 2 ^^^ Crc.poly : Nat) : Int)) := by
              show _ = _
              rw [show ((q : Int) / 2) = ((q / 2 : Nat) : Int) by omega, show (3988292384 : Int) = ((Crc.poly : Nat) : Int) from rfl, xor32 _ _ (by omega) (by decide)]
            clear hd HI HB
            generalize x / 2 ^ j % 2 = u at *
            generalize q % 2 = v at *
            go_wp2
            go_round
            case rel => exact ⟨j + 1, by omega, by go_num, by rw [HI2.out]; exact congrArg _ HX.out⟩
            case measure => simp [intOf]; omega
        · have : j = 8 := by omega
          subst this
          have hj8' : ¬ ((8 : Nat) : Int) < 8 := by omega
          go_wp2
          go_round
          case rel => exact ⟨k + 1, by omega, by go_num, by rw [HS.out]⟩
          case measure => simp [intOf]; omega
    · have hkk : k = bs.length := by omega
      subst hkk
      rw [List.take_length] at hr ⊢
      have HX : Hid (bits .xor .u32 ((Crc.run Crc.ones bs : Nat) : Int) 4294967295 = ((Crc.run Crc.ones bs ^^^ Crc.ones : Nat) : Int)) := by
        show _ = _
        rw [show (4294967295 : Int) = ((Crc.ones : Nat) : Int) from rfl, xor32 _ _ hr (by decide)]
      generalize Crc.run Crc.ones bs = q at *
      clear hrow
      go_wp2
      go_ret
      exact ⟨ret_int (by rw [HF.out]; exact HX.out), rfl⟩

end Go.Proofs.Qxb6500698aGreatDoor
