/-
  THE WALKS OF THE CRC ENGINE: Update (eight bytes a round by the eight tables, then byte by byte), Checksum.
-/
import Derived.Test.Qxb6500698aGreatDoorCrcW
namespace Go.Proofs.Qxb6500698aGreatDoor
open Go.RowKit

theorem head_eq (r x0 x1 x2 x3 : Nat) (hr : r < 4294967296) (l0 : x0 < 256) (l1 : x1 < 256) (l2 : x2 < 256) (l3 : x3 < 256) :
    bits BinOp.xor IntKind.u32 (↑r) (bits BinOp.or IntKind.u32 (bits BinOp.or IntKind.u32 (bits BinOp.or IntKind.u32 (↑x0) (↑x1 * 256)) (↑x2 * 65536)) (↑x3 * 16777216)) = ((Crc.headN r x0 x1 x2 x3 : Nat) : Int) := by
  have o1 : x0 ||| x1 * 256 < 4294967296 := Nat.or_lt_two_pow (n := 32) (by omega) (by omega)
  have o2 : (x0 ||| x1 * 256) ||| x2 * 65536 < 4294967296 := Nat.or_lt_two_pow (n := 32) o1 (by omega)
  have o3 : ((x0 ||| x1 * 256) ||| x2 * 65536) ||| x3 * 16777216 < 4294967296 := Nat.or_lt_two_pow (n := 32) o2 (by omega)
  rw [show ((x1 : Int) * 256) = ((x1 * 256 : Nat) : Int) by omega, or32 _ _ (by omega) (by omega), show ((x2 : Int) * 65536) = ((x2 * 65536 : Nat) : Int) by omega, or32 _ _ o1 (by omega),
    show ((x3 : Int) * 16777216) = ((x3 * 16777216 : Nat) : Int) by omega, or32 _ _ o2 (by omega), xor32 _ _ hr o3]
  rfl

theorem not_eq (c : Nat) (h : c < 4294967296) : bits BinOp.xor IntKind.u32 IntKind.u32.max (c : Int) = ((Crc.ones ^^^ c : Nat) : Int) := by
  rw [show IntKind.u32.max = ((Crc.ones : Nat) : Int) from rfl, xor32 _ _ (by decide) h]

/-- The eight look-ups of one round, as the walk writes them. -/
theorem lanes_eq (h x4 x5 x6 x7 : Nat) (hh : h < 4294967296) (l4 : x4 < 256) (l5 : x5 < 256) (l6 : x6 < 256) (l7 : x7 < 256) :
    bits BinOp.xor IntKind.u32 (bits BinOp.xor IntKind.u32 (bits BinOp.xor IntKind.u32 (bits BinOp.xor IntKind.u32 (bits BinOp.xor IntKind.u32 (bits BinOp.xor IntKind.u32 (bits BinOp.xor IntKind.u32 (↑(Crc.tab 7 (h % 256))) ↑(Crc.tab 6 (h / 256 % 256)))
      ↑(Crc.tab 5 (h / 65536 % 256))) ↑(Crc.tab 4 (h / 16777216))) ↑(Crc.tab 3 x4)) ↑(Crc.tab 2 x5)) ↑(Crc.tab 1 x6)) ↑(Crc.tab 0 x7)
      = ((Crc.tab 7 (h % 256) ^^^ Crc.tab 6 (h / 256 % 256) ^^^ Crc.tab 5 (h / 65536 % 256) ^^^ Crc.tab 4 (h / 16777216) ^^^ Crc.tab 3 x4 ^^^ Crc.tab 2 x5 ^^^ Crc.tab 1 x6 ^^^ Crc.tab 0 x7 : Nat) : Int) := by
  have t7 := Crc.tab_lt 7 (h % 256) (by omega)
  have t6 := Crc.tab_lt 6 (h / 256 % 256) (by omega)
  have t5 := Crc.tab_lt 5 (h / 65536 % 256) (by omega)
  have t4 := Crc.tab_lt 4 (h / 16777216) (by omega)
  have t3 := Crc.tab_lt 3 x4 (by omega)
  have t2 := Crc.tab_lt 2 x5 (by omega)
  have t1 := Crc.tab_lt 1 x6 (by omega)
  have t0 := Crc.tab_lt 0 x7 (by omega)
  generalize Crc.tab 7 (h % 256) = a7 at *
  generalize Crc.tab 6 (h / 256 % 256) = a6 at *
  generalize Crc.tab 5 (h / 65536 % 256) = a5 at *
  generalize Crc.tab 4 (h / 16777216) = a4 at *
  generalize Crc.tab 3 x4 = a3 at *
  generalize Crc.tab 2 x5 = a2 at *
  generalize Crc.tab 1 x6 = a1 at *
  generalize Crc.tab 0 x7 = a0 at *
  have s1 := Crc.xor_lt32 t7 t6
  have s2 := Crc.xor_lt32 s1 t5
  have s3 := Crc.xor_lt32 s2 t4
  have s4 := Crc.xor_lt32 s3 t3
  have s5 := Crc.xor_lt32 s4 t2
  have s6 := Crc.xor_lt32 s5 t1
  rw [xor32 _ _ t7 t6, xor32 _ _ s1 t5, xor32 _ _ s2 t4, xor32 _ _ s3 t3, xor32 _ _ s4 t2, xor32 _ _ s5 t1, xor32 _ _ s6 t0]

theorem eight {l : List Nat} (h : 8 ≤ l.length) : ∃ x0 x1 x2 x3 x4 x5 x6 x7 r, l = x0 :: x1 :: x2 :: x3 :: x4 :: x5 :: x6 :: x7 :: r := by
  match l, h with
  | x0 :: x1 :: x2 :: x3 :: x4 :: x5 :: x6 :: x7 :: r, _ => exact ⟨x0, x1, x2, x3, x4, x5, x6, x7, r, rfl⟩

/-- What is left to be read: the slice begins at ao. -/
structure Rest (w : World) (bs done rest : List Nat) (ao : Option Addr) (c : Nat) : Prop where
  all : bs = done ++ rest
  cap : rest.length ≤ c
  row : BRow w ao rest

theorem Rest.eight {w : World} {bs done r : List Nat} {b o c x0 x1 x2 x3 x4 x5 x6 x7 : Nat} (h : Rest w bs done (x0 :: x1 :: x2 :: x3 :: x4 :: x5 :: x6 :: x7 :: r) (some ⟨b, o, none⟩) c) :
    Rest w bs (done ++ [x0, x1, x2, x3, x4, x5, x6, x7]) r (if c = 8 then some ⟨b, o, none⟩ else some ⟨b, o + 8, none⟩) (c - 8) := by
  have hc := h.cap
  simp only [List.length_cons] at hc
  refine ⟨by rw [h.all]; simp, by omega, ?_⟩
  have := h.row.drop_if 8 c h.cap
  simpa using this

set_option maxRecDepth 100000 in
set_option maxHeartbeats 4000000 in
theorem update_any (bs : List Nat) (crc : Nat) (hcrc : crc < 4294967296) (tb cap : Nat) (ao : Option Addr) (w : World) (_hlen : cap ≤ 9223372036854775807) (hcap : bs.length ≤ cap)
    (hT : Tabs w tb) (hrow : BRow w ao bs) :
    Calls Tryz.prog 81 #[.pointer (some ⟨tb, 0, none⟩), .int .u32 crc, .slice ao bs.length cap] w fun e w' => e = .returned (.int .u32 ((Crc.upd crc bs : Nat) : Int)) ∧ ∃ n, w' = w.drewN n := by
  have hT0 : ∀ i : Nat, i < 256 → w.cell? ⟨tb, i, none⟩ = some (.int .u32 (Crc.tab 0 i)) := fun i hi => by simpa using hT 0 i (by omega) hi
  have hT1 : ∀ i : Nat, i < 256 → w.cell? ⟨tb, 256 + i, none⟩ = some (.int .u32 (Crc.tab 1 i)) := fun i hi => by simpa using hT 1 i (by omega) hi
  have hT2 : ∀ i : Nat, i < 256 → w.cell? ⟨tb, 512 + i, none⟩ = some (.int .u32 (Crc.tab 2 i)) := fun i hi => by simpa using hT 2 i (by omega) hi
  have hT3 : ∀ i : Nat, i < 256 → w.cell? ⟨tb, 768 + i, none⟩ = some (.int .u32 (Crc.tab 3 i)) := fun i hi => by simpa using hT 3 i (by omega) hi
  have hT4 : ∀ i : Nat, i < 256 → w.cell? ⟨tb, 1024 + i, none⟩ = some (.int .u32 (Crc.tab 4 i)) := fun i hi => by simpa using hT 4 i (by omega) hi
  have hT5 : ∀ i : Nat, i < 256 → w.cell? ⟨tb, 1280 + i, none⟩ = some (.int .u32 (Crc.tab 5 i)) := fun i hi => by simpa using hT 5 i (by omega) hi
  have hT6 : ∀ i : Nat, i < 256 → w.cell? ⟨tb, 1536 + i, none⟩ = some (.int .u32 (Crc.tab 6 i)) := fun i hi => by simpa using hT 6 i (by omega) hi
  have hT7 : ∀ i : Nat, i < 256 → w.cell? ⟨tb, 1792 + i, none⟩ = some (.int .u32 (Crc.tab 7 i)) := fun i hi => by simpa using hT 7 i (by omega) hi
  have hn := not_eq crc hcrc
  have hr0 : Crc.ones ^^^ crc < 4294967296 := Crc.xor_lt32 (by decide) hcrc
  have hfin : Crc.upd crc bs = Crc.run (Crc.ones ^^^ crc) bs ^^^ Crc.ones := rfl
  have HF : Hid (Crc.upd crc bs = Crc.run (Crc.ones ^^^ crc) bs ^^^ Crc.ones) := hfin
  clear hfin hT
  generalize Crc.ones ^^^ crc = r0 at *
  have HR : Hid (Rest w bs [] bs ao cap) := ⟨rfl, hcap, hrow⟩
  have hlt := hrow.lt
  clear hrow
  go_enter Tryz.func81, Tryz.ntmps81
  go_wp2
  go_loopw [2, 7] (fun p reg wr => ∃ (done rest : List Nat) (a : Option Addr) (c n : Nat), Rest w bs done rest a c ∧ p = .slice a rest.length c ∧ c ≤ cap ∧ reg = .int .u32 ((Crc.run r0 done : Nat) : Int) ∧ wr = w.drewN n)
    (fun p _ _ => match p with | .slice _ l _ => l | _ => 0)
  case atStart => exact ⟨[], bs, ao, cap, 0, HR.out, rfl, Nat.le_refl _, rfl, rfl⟩
  case round =>
    clear HR
    obtain ⟨done, rest, a, c, n, hR, rfl, hc, rfl, rfl⟩ := hrel
    have hdone : ∀ x ∈ done, x < 256 := fun x hx => hlt x (by rw [hR.all]; simp [hx])
    have hr : Crc.run r0 done < 4294967296 := Crc.run_lt done hr0 hdone
    have hcr := hR.cap
    by_cases h8 : 8 ≤ rest.length
    · obtain ⟨x0, x1, x2, x3, x4, x5, x6, x7, rest, rfl⟩ := eight h8
      obtain ⟨b, o, rfl, hcell⟩ := hR.row.row (by simp)
      have l0 := hR.row.lt x0 (by simp)
      have l1 := hR.row.lt x1 (by simp)
      have l2 := hR.row.lt x2 (by simp)
      have l3 := hR.row.lt x3 (by simp)
      have l4 := hR.row.lt x4 (by simp)
      have l5 := hR.row.lt x5 (by simp)
      have l6 := hR.row.lt x6 (by simp)
      have l7 := hR.row.lt x7 (by simp)
      have c0 : w.cell? ⟨b, o, none⟩ = some (.int .u8 (x0 : Int)) := by simpa using hcell 0 (by simp)
      have c1 : w.cell? ⟨b, o + 1, none⟩ = some (.int .u8 (x1 : Int)) := by simpa using hcell 1 (by simp)
      have c2 : w.cell? ⟨b, o + 2, none⟩ = some (.int .u8 (x2 : Int)) := by simpa using hcell 2 (by simp)
      have c3 : w.cell? ⟨b, o + 3, none⟩ = some (.int .u8 (x3 : Int)) := by simpa using hcell 3 (by simp)
      have c4 : w.cell? ⟨b, o + 4, none⟩ = some (.int .u8 (x4 : Int)) := by simpa using hcell 4 (by simp)
      have c5 : w.cell? ⟨b, o + 5, none⟩ = some (.int .u8 (x5 : Int)) := by simpa using hcell 5 (by simp)
      have c6 : w.cell? ⟨b, o + 6, none⟩ = some (.int .u8 (x6 : Int)) := by simpa using hcell 6 (by simp)
      have c7 : w.cell? ⟨b, o + 7, none⟩ = some (.int .u8 (x7 : Int)) := by simpa using hcell 7 (by simp)
      have HR := hR.eight
      have HL : Hid (Crc.run r0 (done ++ [x0, x1, x2, x3, x4, x5, x6, x7]) = Crc.run (Crc.run r0 done) [x0, x1, x2, x3, x4, x5, x6, x7]) := Crc.run_append _ _ _
      simp only [List.length_cons, Nat.reduceAdd, Nat.add_assoc] at h8 hcr ⊢
      clear hcell hR hdone
      generalize Crc.run r0 done = r at *
      generalize hm : rest.length = m at *
      have HM : Hid (rest.length = m) := hm
      clear hm
      have hle8 : (8 : Int) ≤ (m : Int) + 8 := by omega
      go_wp2
      go_quiet (fail)
      go_wp2
      have eh := head_eq r x0 x1 x2 x3 hr l0 l1 l2 l3
      have lh := Crc.headN_lt r x0 x1 x2 x3 hr l0 l1 l2 l3
      rw [eh]
      have HLL : Hid (Crc.tab 7 (Crc.headN r x0 x1 x2 x3 % 256) ^^^ Crc.tab 6 (Crc.headN r x0 x1 x2 x3 / 256 % 256) ^^^ Crc.tab 5 (Crc.headN r x0 x1 x2 x3 / 65536 % 256) ^^^ Crc.tab 4 (Crc.headN r x0 x1 x2 x3 / 16777216) ^^^ Crc.tab 3 x4 ^^^ Crc.tab 2 x5 ^^^ Crc.tab 1 x6 ^^^ Crc.tab 0 x7 = Crc.run r [x0, x1, x2, x3, x4, x5, x6, x7]) := Crc.lanes r x0 x1 x2 x3 x4 x5 x6 x7 hr l0 l1 l2 l3 l4 l5 l6 l7
      clear eh c0 c1 c2 c3
      generalize Crc.headN r x0 x1 x2 x3 = h at *
      have HE : Hid _ := lanes_eq h x4 x5 x6 x7 lh l4 l5 l6 l7
      have hm2 : ∀ x : Nat, x % 256 < 256 := fun x => Nat.mod_lt _ (by decide)
      have hq : h / 16777216 < 256 := by omega
      go_quiet (fail)
      clear hT0 hT1 hT2 hT3 hT4 hT5 hT6 hT7 c4 c5 c6 c7 hm2 hq
      go_wp2
      go_roundw
      case rel =>
        refine ⟨done ++ [x0, x1, x2, x3, x4, x5, x6, x7], rest, _, c - 8, _, HR, ?_, by omega, ?_, rfl⟩
        · rw [HM.out]
        · rw [HL.out, ← HLL.out]; exact congrArg _ HE.out
      case measure => simp
    · go_wp2
      go_loopw [122, 7] (fun i reg wr => ∃ k n : Nat, k ≤ rest.length ∧ i = .int .i64 k ∧ reg = .int .u32 ((Crc.run r0 (done ++ rest.take k) : Nat) : Int) ∧ wr = w.drewN n) (fun i _ _ => rest.length - (intOf i).toNat)
      case atStart => exact ⟨0, n, Nat.zero_le _, rfl, by simp, rfl⟩
      case round =>
        obtain ⟨k, n, hk, rfl, rfl, rfl⟩ := hrel
        by_cases hlt2 : k < rest.length
        · have hlt2' : (k : Int) < (rest.length : Int) := by omega
          obtain ⟨b, o, rfl, hcell⟩ := hR.row.row (ne_nil_of_lt hlt2)
          have hck := hcell k hlt2
          have hxk := hR.row.byte hlt2
          have hsn : Crc.run r0 (done ++ rest.take (k + 1)) = Crc.runB (Crc.run r0 (done ++ rest.take k)) (rest.getD k 0) := by
            rw [List.take_succ_eq_append_getElem hlt2, ← List.append_assoc, Crc.run_snoc]
            simp [List.getD_eq_getElem?_getD, hlt2]
          have hrk : Crc.run r0 (done ++ rest.take k) < 4294967296 := Crc.run_lt _ hr0 (fun x hx => by
            rcases List.mem_append.1 hx with h | h
            · exact hdone x h
            · exact hR.row.lt x (List.mem_of_mem_take h))
          have HS : Hid (Crc.run r0 (done ++ rest.take (k + 1)) = Crc.runB (Crc.run r0 (done ++ rest.take k)) (rest.getD k 0)) := hsn
          clear hsn hcell hR hdone hT1 hT2 hT3 hT4 hT5 hT6 hT7
          generalize Crc.run r0 (done ++ rest.take k) = q at *
          generalize rest.getD k 0 = x at *
          have hx8 : bits .xor .u8 ((q : Int) % 256) (x : Int) = ((q % 256 ^^^ x : Nat) : Int) := by
            rw [show ((q : Int) % 256) = ((q % 256 : Nat) : Int) by omega]; exact xor8 _ _ (by omega) hxk
          have hb8 : q % 256 ^^^ x < 256 := Crc.xor_lt8 (by omega) hxk
          have HX : Hid (bits .xor .u32 ((Crc.tab 0 (q % 256 ^^^ x) : Nat) : Int) ((q : Int) / 256) = ((Crc.runB q x : Nat) : Int)) := by
            have : bits .xor .u32 ((Crc.tab 0 (q % 256 ^^^ x) : Nat) : Int) ((q : Int) / 256) = ((Crc.runB q x : Nat) : Int) := by
              rw [show ((q : Int) / 256) = ((q / 256 : Nat) : Int) by omega, xor32 _ _ (Crc.tab_lt _ _ (by omega)) (by omega), Crc.runB_tab q x hxk]
            exact this
          have hb8' : ((q % 256 ^^^ x : Nat) : Int) < 256 := by omega
          generalize q % 256 ^^^ x = y at *
          go_wp2
          go_roundw
          case rel => exact ⟨k + 1, _, by omega, by go_num, by rw [HS.out]; exact congrArg _ HX.out, rfl⟩
          case measure => simp [intOf]; omega
        · have hkk : k = rest.length := by omega
          subst hkk
          have HA : Hid (Crc.run r0 (done ++ rest.take rest.length) = Crc.run r0 bs) := by rw [List.take_length, ← hR.all]; rfl
          have hrk : Crc.run r0 bs < 4294967296 := Crc.run_lt _ hr0 hlt
          rw [HA.out]
          generalize Crc.run r0 bs = q at *
          have hx : bits BinOp.xor IntKind.u32 IntKind.u32.max (q : Int) = ((q ^^^ Crc.ones : Nat) : Int) := by rw [not_eq q hrk, Nat.xor_comm]
          clear hR hdone HA
          go_wp2
          go_ret
          exact ⟨ret_int (by rw [HF.out]), _, rfl⟩

end Go.Proofs.Qxb6500698aGreatDoor
