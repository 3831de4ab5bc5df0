/-
  THE WALK OF pieces: the parts that a script spells.
-/
import Derived.Test.Qxb6500698aDoorJoin
import Derived.Deep.RegionHeld3
import Derived.Deep.AppendLies
namespace Go.Proofs.Qxb6500698aDoor
open Go.RowKit

/-- The parts gathered so far lie behind the call's own slice v: its row holds the slices' headers xs. -/
structure OutRel (B : Nat) (w wr : World) (v : Value) (ps : List (List Nat)) (xs : List Value) : Prop where
  own : wr.ownsRow B 25 1 v ps.length xs
  parts : ∀ j, j < ps.length → ∃ u, xs[j]? = some u ∧ PartAt wr u (ps.getD j []) ∧ ∀ g, u.ownBlock = some g → g < wr.heap.size ∧ v.ownBlock ≠ some g
  bel : Below B w wr
  base : B ≤ wr.heap.size

theorem OutRel.start (w : World) : OutRel w.heap.size w w (.slice none 0 0) [] [] :=
  ⟨World.ownsRow_nil _ _ _ _, fun j hj => absurd hj (by simp), Below.refl _ _, Nat.le_refl _⟩

/-- A new block, and stores into blocks that are neither the row nor a part: here: a block made and filled at once. -/
theorem OutRel.alloc {B : Nat} {w wr : World} {v : Value} {ps : List (List Nat)} {xs : List Value} (h : OutRel B w wr v ps xs) (o : Obj) : OutRel B w (wr.alloc o) v ps xs := by
  refine ⟨h.own.alloc o, fun j hj => ?_, h.bel.alloc h.base o, Nat.le_trans h.base (by simp)⟩
  obtain ⟨u, h1, h2, h3⟩ := h.parts j hj
  refine ⟨u, h1, h2.same (fun b o' hlt => World.cell?_of_block (a := ⟨b, o', none⟩) (Below.heap_alloc wr o b hlt)), fun g hg => ⟨?_, (h3 g hg).2⟩⟩
  have := (h3 g hg).1; simp; omega

/-- Behind a call that turned nothing that was there. -/
theorem OutRel.below {B : Nat} {w wr w' : World} {v : Value} {ps : List (List Nat)} {xs : List Value} (h : OutRel B w wr v ps xs) (hb : Below wr.heap.size wr w') : OutRel B w w' v ps xs := by
  have hs := hb.size
  have hg : wr.grownBy w' none := ⟨hb.os, hb.tape, hb.output, hb.size, fun k hk _ => hb.block k hk⟩
  refine ⟨h.own.kept hg (by cases v.ownBlock <;> simp), fun j hj => ?_, h.bel.trans (hb.mono h.base), Nat.le_trans h.base hb.size⟩
  obtain ⟨u, h1, h2, h3⟩ := h.parts j hj
  exact ⟨u, h1, h2.below hb, fun g hg => ⟨by have := (h3 g hg).1; omega, (h3 g hg).2⟩⟩

theorem OutRel.drew {B : Nat} {w wr : World} {v : Value} {ps : List (List Nat)} {xs : List Value} (h : OutRel B w wr v ps xs) : OutRel B w wr.drew v ps xs := h.below ((Below.refl _ _).drew)

/-- One part more. -/
theorem OutRel.push {B : Nat} {w wr w' : World} {v v' : Value} {ps : List (List Nat)} {xs : List Value} (h : OutRel B w wr v ps xs) {u : Value} {p : List Nat} (hu : PartAt wr u p) (hub : ∀ g, u.ownBlock = some g → g < wr.heap.size ∧ v.ownBlock ≠ some g)
    (hown : w'.ownsRow B 25 1 v' (ps.length + 1) (xs ++ [u])) (hg : wr.grownBy w' v.ownBlock) (hv : v'.ownBlock = v.ownBlock ∨ v'.ownBlock = some wr.heap.size) : OutRel B w w' v' (ps ++ [p]) (xs ++ [u]) := by
  have hxs : xs.length = ps.length := by simpa using h.own.1
  have keep : ∀ (u : Value) (q : List Nat), PartAt wr u q → (∀ g, u.ownBlock = some g → g < wr.heap.size ∧ v.ownBlock ≠ some g) → PartAt w' u q ∧ ∀ g, u.ownBlock = some g → g < w'.heap.size ∧ v'.ownBlock ≠ some g := by
    intro u q hp hb
    obtain ⟨b, o, c, rfl, h1, h2, h3⟩ := hp.val
    have hbb := hb b rfl
    refine ⟨⟨b, o, c, rfl, h1, h2, h3.grown hg (fun _ b' o' e => ?_)⟩, fun g hg' => ?_⟩
    · have : b = b' := by simp at e; exact e.1
      subst this; exact fun e => hbb.2 e.symm
    · have hgb := hb g hg'
      refine ⟨by have := hg.size; omega, ?_⟩
      rcases hv with hv | hv
      · rw [hv]; exact hgb.2
      · rw [hv]; intro e; simp at e; omega
  refine ⟨by simpa using hown, fun j hj => ?_, h.bel.grown hg h.base (fun k hk => (h.own.lt k hk).1), Nat.le_trans h.base hg.size⟩
  by_cases hlt : j < ps.length
  · obtain ⟨x, h1, h2, h3⟩ := h.parts j hlt
    have := keep x _ h2 h3
    refine ⟨x, by rw [List.getElem?_append_left (by omega)]; exact h1, ?_, this.2⟩
    have e : (ps ++ [p]).getD j [] = ps.getD j [] := by simp [List.getD_eq_getElem?_getD, List.getElem?_append_left hlt]
    rw [e]; exact this.1
  · have hj' : j = ps.length := by simp at hj; omega
    subst hj'
    have := keep u p hu hub
    refine ⟨u, by rw [List.getElem?_append_right (by omega), hxs]; simp, ?_, this.2⟩
    have e : (ps ++ [p]).getD ps.length [] = p := by simp [List.getD_eq_getElem?_getD]
    rw [e]; exact this.1

theorem Tryd.info25 : (Tryd.prog.info? 25).map (fun i => (i.zero, i.size, i.bytes)) = some (some (.slice none 0 0), 1, 24) := by kernel_rfl

section
variable (W : World)
/-- 'out = append(out, p)': the header u of p lies alone in block g. -/
theorem wp_append_part {o : Oper} {a : Act} {K : Act → World → Prop} {Q : Exit → Act → World → Prop} (s x : Operand)
    (ho : o.op = .call { callee := .builtin .append, args := #[s, x], argTypes := #[43, 43] })
    (B : Nat) (w : World) (v : Value) (ps : List (List Nat)) (xs : List Value) (hs : a.eval s = v) (hrel : OutRel B w W v ps xs) (hps : ps.length ≤ 65536)
    (g c : Nat) (hx : a.eval x = .slice (some ⟨g, 0, none⟩) 1 c) (u : Value) (p : List Nat) (hcell : W.cell? ⟨g, 0, none⟩ = some u) (hu : PartAt W u p) (hub : ∀ g, u.ownBlock = some g → g < W.heap.size ∧ v.ownBlock ≠ some g)
    (h : ∀ v' w' xs', OutRel B w w' v' (ps ++ [p]) xs' → W.grownBy w' v.ownBlock → K (a.put o.dst v') w') : o.wp Tryd.prog a W K Q := by
  obtain ⟨i0, hi, hz0, hz1, hz2⟩ := info_parts Tryd.info25
  have h1 : u.oneCell' = true := by obtain ⟨_, _, _, rfl, _⟩ := hu.val; rfl
  obtain ⟨v', w', hr, h2, h3, _, h5⟩ := run_append_own_at (P := Tryd.prog) W B 43 o.type 25 i0 (.slice none 0 0) 1 24 Tryd.underlying43 hi hz0 hz1 hz2 rfl (by decide) v ps.length xs hrel.own ⟨g, 0, none⟩ 1 c [u] (by simp)
    (by intro j y hj; match j, hj with | 0, hj => simp at hj; subst hj; simpa [Addr.add] using hcell) (by intro y hy; simp at hy; subst hy; exact h1) (by unfold maxLen; omega) (by omega) hrel.base
  unfold Oper.wp execOp
  simp only [ho, resolve, invoke, builtin, Sem.run_bind, Sem.run_pure, Result.andThen_ok, List.map_toArray, List.map_cons, List.map_nil, hs, hx, hr]
  exact h v' w' _ (hrel.push hu hub h2 h3 h5) h3
theorem step_append_part {ops : Array Oper} {o : Oper} {a : Act} {K : Act → World → Prop} {Q : Exit → Act → World → Prop} {E : Prop} (hgd : o.guard = none) (s x : Operand)
    (ho : o.op = .call { callee := .builtin .append, args := #[s, x], argTypes := #[43, 43] })
    (B : Nat) (w : World) (v : Value) (ps : List (List Nat)) (xs : List Value) (hs : a.eval s = v) (hrel : OutRel B w W v ps xs) (hps : ps.length ≤ 65536)
    (g c : Nat) (hx : a.eval x = .slice (some ⟨g, 0, none⟩) 1 c) (u : Value) (p : List Nat) (hcell : W.cell? ⟨g, 0, none⟩ = some u) (hu : PartAt W u p) (hub : ∀ g, u.ownBlock = some g → g < W.heap.size ∧ v.ownBlock ≠ some g)
    (h : ∀ v' w' xs', OutRel B w w' v' (ps ++ [p]) xs' → W.grownBy w' v.ownBlock → K (a.put o.dst v') w') : if Region.wanted o (yielded ops a.tmps) = true then Oper.wp Tryd.prog o a W K Q else E := by
  rw [if_pos (by simp [Region.wanted, hgd])]
  exact wp_append_part W s x ho B w v ps xs hs hrel hps g c hx u p hcell hu hub h
theorem wpList_append_part {ops : Array Oper} {rest : List Oper} {o : Oper} {a : Act} {Q : Exit → Act → World → Prop} (hgd : o.guard = none) (s x : Operand)
    (ho : o.op = .call { callee := .builtin .append, args := #[s, x], argTypes := #[43, 43] })
    (B : Nat) (w : World) (v : Value) (ps : List (List Nat)) (xs : List Value) (hs : a.eval s = v) (hrel : OutRel B w W v ps xs) (hps : ps.length ≤ 65536)
    (g c : Nat) (hx : a.eval x = .slice (some ⟨g, 0, none⟩) 1 c) (u : Value) (p : List Nat) (hcell : W.cell? ⟨g, 0, none⟩ = some u) (hu : PartAt W u p) (hub : ∀ g, u.ownBlock = some g → g < W.heap.size ∧ v.ownBlock ≠ some g)
    (h : ∀ v' w' xs', OutRel B w w' v' (ps ++ [p]) xs' → wpList Tryd.prog ops Q rest (a.put o.dst v') w') : wpList Tryd.prog ops Q (o :: rest) a W :=
  wpList_plain hgd fun _ hK => wp_append_part W s x ho B w v ps xs hs hrel hps g c hx u p hcell hu hub fun v' w' xs' h1 _ => hK _ _ (h v' w' xs' h1)
end

theorem pieceOf_fill (x : OpD) (h : x.kind = 2) : pieceOf x = some (List.replicate (fill x.n) x.b) := by simp [pieceOf, h]
theorem pieceOf_none (x : OpD) (h : x.kind ≠ 2) (hb : x.bs = []) : pieceOf x = none := by simp [pieceOf, h, hb]
theorem pieceOf_own (x : OpD) (h : x.kind ≠ 2) (hb : x.bs ≠ []) : pieceOf x = some x.bs := by simp [pieceOf, h, hb]

theorem pieces_take_succ (ops : List OpD) (k : Nat) (h : k < ops.length) : piecesOf (ops.take (k + 1)) = piecesOf (ops.take k) ++ (pieceOf (ops.getD k OpD.zero)).toList := by
  unfold piecesOf
  rw [List.take_succ_eq_append_getElem h, List.filterMap_append]
  congr 1
  have e : ops.getD k OpD.zero = ops[k] := by simp [List.getD_eq_getElem?_getD, h]
  rw [e]
  cases hp : pieceOf ops[k] <;> simp [hp]

theorem pieces_len (ops : List OpD) (k : Nat) : (piecesOf (ops.take k)).length ≤ k := by
  unfold piecesOf
  exact Nat.le_trans (List.length_filterMap_le _ _) (by simp; omega)

theorem repl_getD (n b j : Nat) (h : j < n) : (List.replicate n b).getD j 0 = b := by simp [List.getD_eq_getElem?_getD, h]

/-- What 'repeat' has laid is a part. -/
theorem part_of_repeat {w : World} {g n b : Nat} (h : w.rowIs g 5 n (fun _ => .int .u8 b)) (hb : b < 256) (hn : n ≤ 65536) : PartAt w (.slice (some ⟨g, 0, none⟩) n n) (List.replicate n b) := by
  refine ⟨g, 0, n, by simp, by simp, by unfold maxLen; omega, ?_⟩
  refine BRow.of_rowIs (t := 5) (n := n) (h.congr fun i hi => by rw [repl_getD n b i hi]) ?_ (by simp)
  intro x hx
  have := (List.mem_replicate.1 hx).2
  omega

theorem cell_alloc {w : World} {b o : Nat} {v : Value} (h : w.cell? ⟨b, o, none⟩ = some v) (ob : Obj) : (w.alloc ob).cell? ⟨b, o, none⟩ = some v :=
  (World.cell?_of_block (a := ⟨b, o, none⟩) (Below.heap_alloc w ob b (cell_lt h))).trans h
theorem part_alloc {w : World} {u : Value} {p : List Nat} (h : PartAt w u p) (o : Obj) : PartAt (w.alloc o) u p :=
  h.same fun b o' hlt => World.cell?_of_block (a := ⟨b, o', none⟩) (Below.heap_alloc w o b hlt)

/-- Behind 'repeat': all is ready for the append, whatever block is laid for the header. -/
theorem rep_ready {B : Nat} {w W w' : World} {v : Value} {ps : List (List Nat)} {xs : List Value} {n b : Nat} (hW : OutRel B w W v ps xs) (hrow : w'.rowIs W.heap.size 5 n (fun _ => .int .u8 b)) (hb : b < 256) (hn : n ≤ 65536)
    (hbel : Below W.heap.size W w') (hsz : w'.heap.size = W.heap.size + 1) (G : Nat) (hG : W.heap.size = G) (ob : Obj) :
    OutRel B w (w'.alloc ob) v ps xs ∧ PartAt (w'.alloc ob) (.slice (some ⟨G, 0, none⟩) n n) (List.replicate n b) ∧
      ∀ g, (Value.slice (some ⟨G, 0, none⟩) n n).ownBlock = some g → g < (w'.alloc ob).heap.size ∧ v.ownBlock ≠ some g := by
  subst hG
  refine ⟨(hW.below hbel).alloc ob, part_alloc (part_of_repeat hrow hb hn) ob, fun g hg => ?_⟩
  simp [Value.ownBlock] at hg
  subst hg
  refine ⟨by simp; omega, fun e => ?_⟩
  have := (hW.own.lt _ e).2
  omega

set_option maxRecDepth 100000 in
set_option maxHeartbeats 1000000 in
theorem pieces_any (ops : List OpD) (ao : Option Addr) (cap : Nat) (w : World) (hs : Script w ao ops) (hn : ops.length ≤ 65536) :
    Calls Tryd.prog 13 #[.slice ao ops.length cap] w fun e w' => ∃ po c, e = .returned (.slice po (piecesOf ops).length c) ∧ Parts w' po (piecesOf ops) ∧ Below w.heap.size w w' := by
  go_enter Tryd.func13, Tryd.ntmps13
  go_wp2
  go_loopw [3, 8] (fun v i wr => ∃ (k : Nat) (xs : List Value), k ≤ ops.length ∧ i = .int .i64 k ∧ OutRel w.heap.size w wr v (piecesOf (ops.take k)) xs) (fun _ i _ => ops.length - (intOf i).toNat)
  case atStart => exact ⟨0, [], Nat.zero_le _, rfl, by simpa [piecesOf] using OutRel.start w⟩
  case round =>
    obtain ⟨k, xs, hk, rfl, hrel⟩ := hrel
    by_cases hlt : k < ops.length
    · obtain ⟨b, o, rfl, hop⟩ := hs (ne_nil_of_lt hlt)
      have hx := hop k hlt
      have hxr := hx.same (w' := wr) (fun b o' hb => hrel.bel.cell (p := ⟨b, o', none⟩) hb)
      have hstep := pieces_take_succ ops k hlt
      have hpl := pieces_len ops k
      clear hop
      generalize ops.getD k OpD.zero = x at *
      generalize piecesOf (ops.take k) = ps at *
      have c0 := hxr.c0
      have c1 := hxr.c1
      have c2 := hxr.c2
      have c3 := hxr.c3
      have c4 := hxr.c4
      have c5 := hxr.c5
      have hn1 := hxr.hn1
      have hn2 := hxr.hn2
      have hlt' : (k : Int) < (ops.length : Int) := by omega
      have HR : Hid (OutRel w.heap.size w wr u3 ps xs) := hrel
      have HXR : Hid (OpAt wr b (o + k * 6) x) := hxr
      have HX : Hid (OpAt w b (o + k * 6) x) := hx
      have HST : Hid (piecesOf (ops.take (k + 1)) = ps ++ (pieceOf x).toList) := hstep
      clear hrel hxr hx hstep hs
      by_cases hk2 : x.kind = 2
      · have hk2' : ((x.kind : Int) == 2) = true := by simp; omega
        have HK : Hid (x.kind = 2) := hk2
        clear hk2
        go_wp2
        have hbl : u3.ownBlock ≠ some wr.heap.size := fun e => by have := (HR.out.own.lt _ e).2; omega
        have hbl' : some wr.heap.size ≠ u3.ownBlock := fun e => hbl e.symm
        go_region_held3 (fun w' => w'.cell? ⟨wr.heap.size, 2, none⟩ = some (.int .u8 x.b) ∧ w'.cell? ⟨wr.heap.size, 3, none⟩ = some (.int .i64 x.n)) (first | go_keep | exact ⟨hg1.cell (cell_alloc kc2 _) hbl', hg1.cell (cell_alloc kc3 _) hbl'⟩)
          (first
            | (go_at_call 25; refine (fillCount_any _ _ hn1 hn2).mono ?_; rintro e w' ⟨rfl, rfl⟩)
            | (go_at_call 24; refine (repeat_any x.b (fill x.n) _ (fill_le _)).mono ?_; rintro e w1 ⟨rfl, hrow, hbel, hsz⟩; have HP : Hid _ := rep_ready ((HR.out.alloc _).drew) hrow HXR.out.hb (fill_le _) hbel hsz (wr.heap.size + 1) (by simp); have kc2 := hbel.cell (p := ⟨wr.heap.size, 2, none⟩) (by simp); have kc3 := hbel.cell (p := ⟨wr.heap.size, 3, none⟩) (by simp); simp at kc2 kc3; clear hrow hbel hsz)
            | (refine step_append_part _ (by rfl) _ _ (by rfl) w.heap.size w u3 ps xs (by rfl) (HP.out _).1 (by omega) w1.heap.size 1 (by rfl) (.slice (some ⟨wr.heap.size + 1, 0, none⟩) (fill x.n) (fill x.n)) (List.replicate (fill x.n) x.b) (by simp) (by exact (HP.out _).2.1) (by exact (HP.out _).2.2) ?_; intro v' w2 xs' hrel2 hg1))
        have HF : Hid (OutRel w.heap.size w w2 v' (piecesOf (ops.take (k + 1))) xs') := by rw [HST.out, pieceOf_fill x HK.out]; exact hrel2
        clear hrel2 hg1 HP kc2 kc3 HR HXR HX HST HK
        go_wp2
        go_roundw
        case rel => exact ⟨k + 1, xs', by omega, by go_num, HF.out⟩
        case measure => simp [intOf]; omega
      · have hk2' : ((x.kind : Int) == 2) = false := by simp; omega
        have HK : Hid (x.kind ≠ 2) := hk2
        clear hk2
        by_cases hb0 : x.bs = []
        · have HF : Hid (OutRel w.heap.size w (wr.alloc (.cells #[.int .u8 x.kind, .slice x.da x.bs.length x.dc, .int .u8 x.b, .int .i64 x.n, .int .u64 x.v, .int .i64 x.width] 28)) u3 (piecesOf (ops.take (k + 1))) xs) := by
            rw [HST.out, pieceOf_none x HK.out hb0, Option.toList_none, List.append_nil]; exact HR.out.alloc _
          have hl0 : ¬ (0 : Int) < (x.bs.length : Int) := by rw [hb0]; simp
          clear HR HXR HX HST HK hb0
          go_wp2
          go_roundw
          case rel => exact ⟨k + 1, xs, by omega, by go_num, HF.out⟩
          case measure => simp [intOf]; omega
        · have hl0 : (0 : Int) < (x.bs.length : Int) := by have := List.length_pos_iff.2 hb0; omega
          have HP : Hid (∀ ob1 ob2, OutRel w.heap.size w ((wr.alloc ob1).alloc ob2) u3 ps xs ∧ PartAt ((wr.alloc ob1).alloc ob2) (.slice x.da x.bs.length x.dc) x.bs ∧ ∀ g, (Value.slice x.da x.bs.length x.dc).ownBlock = some g → g < ((wr.alloc ob1).alloc ob2).heap.size ∧ u3.ownBlock ≠ some g) := by
            intro ob1 ob2
            obtain ⟨b', o', ha, hc⟩ := HX.out.data.row hb0
            have hlt0 := cell_lt (hc 0 (List.length_pos_iff.2 hb0))
            have hpa : PartAt wr (.slice x.da x.bs.length x.dc) x.bs := by
              refine ⟨b', o', x.dc, by rw [ha], HX.out.cap, HX.out.cap2, ?_⟩
              rw [← ha]; exact HXR.out.data
            refine ⟨(HR.out.alloc ob1).alloc ob2, part_alloc (part_alloc hpa ob1) ob2, fun g hg => ?_⟩
            rw [ha] at hg
            simp [Value.ownBlock] at hg
            subst hg
            have hbs := HR.out.base
            refine ⟨by simp; omega, fun e => ?_⟩
            have := (HR.out.own.lt _ e).1
            omega
          have HF : Hid (piecesOf (ops.take (k + 1)) = ps ++ [x.bs]) := by
            have : piecesOf (ops.take (k + 1)) = ps ++ [x.bs] := by rw [HST.out, pieceOf_own x HK.out hb0]; rfl
            exact this
          clear HR HXR HX HST HK hb0
          go_wp2_with (at_builtin; refine wpList_append_part _ rfl _ _ rfl w.heap.size w u3 ps xs rfl (by exact (HP.out _ _).1) (by omega) (wr.heap.size + 1) 1 rfl (.slice x.da x.bs.length x.dc) x.bs (by simp) (by exact (HP.out _ _).2.1) (by exact (HP.out _ _).2.2) ?_; intro v' w2 xs' hrel2; have HF2 : Hid _ := hrel2; clear hrel2 HP)
          go_roundw
          case rel => exact ⟨k + 1, xs', by omega, by go_num, by rw [HF.out]; exact HF2.out⟩
          case measure => simp [intOf]; omega
    · have hkk : k = ops.length := by omega
      subst hkk
      rw [List.take_length] at hrel
      have hfin : Hid (∃ po c, u3 = .slice po (piecesOf ops).length c ∧ Parts wr po (piecesOf ops) ∧ Below w.heap.size w wr) := by
        have hown := hrel.own
        rcases hown.2 with ⟨hv, h0⟩ | ⟨g, cap', cur, hv, hb, hg, hle, hm, hsz, ht⟩
        · refine ⟨none, 0, by rw [hv, h0], fun hne => ?_, hrel.bel⟩
          exact absurd (List.length_eq_zero_iff.1 h0) hne
        · refine ⟨some ⟨g, 0, none⟩, cap', hv, fun _ => ⟨g, 0, rfl, fun i hi => ?_⟩, hrel.bel⟩
          obtain ⟨u, h1, h2, _⟩ := hrel.parts i hi
          have hc := hown.cells (g := g) (by rw [hv]; rfl) i u h1
          have e : (⟨g, 0, none⟩ : Addr).add i = ⟨g, 0 + i, none⟩ := by unfold Addr.add; split <;> simp_all
          rw [e] at hc
          exact ⟨u, hc, h2⟩
      obtain ⟨po, c, hv, hp, hb⟩ := hfin.out
      rw [hv]
      clear hfin hv hrel hs
      go_wp2
      go_ret
      exact ⟨po, c, rfl, hp, hb⟩

end Go.Proofs.Qxb6500698aDoor
