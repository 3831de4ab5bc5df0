/-
  THE TRIALS THAT A SCRIPT NAMES, IN MEMORY; THE WALK OF trials.
-/
import Derived.Test.Qxb6500697aDoorKNew
import Derived.Test.Qxb6500697aDoorKScr
import Derived.Test.Qxb6500697aDoorKSeen
import Derived.Deep.RegionHeld3
namespace Go.Proofs.Qxb6500697aDoor
open Go.RowKit

/-- One trial, as data. -/
structure Tr where
  cb : Nat
  mb : Nat
  k : Nat
  m : Nat
  oa : Option Addr
  oc : Nat
  obs : List Nat
  sa : Option Addr
  sc : Nat
  sub : List Nat
  idx : Nat
  op : KOp

def Tr.cells (t : Tr) : List Value := .pointer (some ⟨t.cb, 0, none⟩) :: .slice t.oa t.obs.length t.oc :: .slice t.sa t.sub.length t.sc :: .int .i64 t.idx :: t.op.cells

/-- Small numbers behind a slice that begins at ao. -/
def NRow (w : World) (F : Nat → Prop) (ao : Option Addr) (ns : List Nat) : Prop :=
  ns ≠ [] → ∃ b o, ao = some ⟨b, o, none⟩ ∧ F b ∧ ∀ i, i < ns.length → w.cell? ⟨b, o + i, none⟩ = some (.int .i64 ((ns.getD i 0 : Nat) : Int))
theorem NRow.keep {w w' : World} {F : Nat → Prop} {ao : Option Addr} {ns : List Nat} (h : NRow w F ao ns) (hk : ∀ b, F b → b < w.heap.size → w'.heap[b]? = w.heap[b]?) : NRow w' F ao ns := fun hn => by
  obtain ⟨b, o, ha, hF, hc⟩ := h hn
  exact ⟨b, o, ha, hF, fun i hi => (World.cell?_of_block (a := ⟨b, o + i, none⟩) (hk b hF (cell_lt (hc i hi)))).trans (hc i hi)⟩
theorem NRow.mono {w : World} {F F' : Nat → Prop} {ao : Option Addr} {ns : List Nat} (h : NRow w F ao ns) (hF : ∀ b, b < w.heap.size → F b → F' b) : NRow w F' ao ns := fun hn => by
  obtain ⟨b, o, ha, hb, hc⟩ := h hn
  exact ⟨b, o, ha, hF b (cell_lt (hc 0 (List.length_pos_iff.2 hn))) hb, hc⟩

/-- What holds of a trial: its codec and its subset lie in blocks of F; the object lies below block B. -/
structure TrOk (w : World) (B : Nat) (F : Nat → Prop) (t : Tr) : Prop where
  codec : CodecAt w F t.cb t.mb t.k t.m
  obj : BRow w t.oa t.obs
  objB : t.obs ≠ [] → ∀ b o, t.oa = some ⟨b, o, none⟩ → b < B
  ocap : t.obs.length ≤ t.oc
  ocap2 : t.oc ≤ 9223372036854775807
  olen : t.obs.length ≤ 256
  sub : NRow w F t.sa t.sub
  scap : t.sub.length ≤ t.sc
  scap2 : t.sc ≤ 9223372036854775807
  nodup : t.sub.Nodup
  slt : ∀ i ∈ t.sub, i < t.k + t.m
  idx : t.idx < t.k + t.m
  hvalue : -9223372036854775808 ≤ t.op.value ∧ t.op.value ≤ 9223372036854775807
  hmask : t.op.mask < 256

theorem TrOk.keep {w w' : World} {B : Nat} {F : Nat → Prop} {t : Tr} (h : TrOk w B F t) (hB : ∀ b, b < B → b < w.heap.size → w'.heap[b]? = w.heap[b]?) (hk : ∀ b, F b → b < w.heap.size → w'.heap[b]? = w.heap[b]?) : TrOk w' B F t :=
  { h with
    codec := h.codec.keep hk
    obj := ⟨h.obj.lt, fun hn => by
      obtain ⟨b, o, ha, hc⟩ := h.obj.row hn
      exact ⟨b, o, ha, fun i hi => (World.cell?_of_block (a := ⟨b, o + i, none⟩) (hB b (h.objB hn b o ha) (cell_lt (hc i hi)))).trans (hc i hi)⟩⟩
    sub := h.sub.keep hk }
theorem TrOk.below {w w' : World} {B : Nat} {F : Nat → Prop} {t : Tr} (h : TrOk w B F t) (hb : Below w.heap.size w w') : TrOk w' B F t := h.keep (fun b _ hl => hb.block b hl) (fun b _ hl => hb.block b hl)
theorem TrOk.mono {w : World} {B : Nat} {F F' : Nat → Prop} {t : Tr} (h : TrOk w B F t) (hF : ∀ b, b < w.heap.size → F b → F' b) : TrOk w B F' t :=
  { h with codec := h.codec.mono hF, sub := h.sub.mono hF }

/-- The codec of the moment. -/
structure Cur (w : World) (F : Nat → Prop) (cb mb k m : Nat) : Prop where
  codec : CodecAt w F cb mb k m
  map : w.heap[mb]? = some (.map #[] 0)
  fm : F mb

/-- The trials so far in a slice that the call owns. -/
structure TOut (w0 w : World) (v : Value) (ts : List Tr) : Prop where
  own : w.ownsRow w0.heap.size 45 14 v ts.length (ts.flatMap Tr.cells)
  ok : ∀ t ∈ ts, TrOk w w0.heap.size (fun b => w0.heap.size ≤ b ∧ v.ownBlock ≠ some b) t
  map : ∀ t ∈ ts, w.heap[t.mb]? = some (.map #[] 0) ∧ w0.heap.size ≤ t.mb ∧ v.ownBlock ≠ some t.mb
  same : ∀ t ∈ ts, ∀ t' ∈ ts, t.mb = t'.mb → t.cb = t'.cb ∧ t.k = t'.k ∧ t.m = t'.m
  bel : Below w0.heap.size w0 w

theorem own_below {w w' : World} {base : Nat} {e : TypeId} {s : Nat} {v : Value} {n : Nat} {xs : List Value} (h : w.ownsRow base e s v n xs) (hb : Below w.heap.size w w') : w'.ownsRow base e s v n xs := by
  have hlt := h.lt
  refine ⟨h.1, ?_⟩
  rcases h.2 with h1 | ⟨g, cap, cur, hv, hbg, hg, h2⟩
  · exact .inl h1
  · exact .inr ⟨g, cap, cur, hv, hbg, (hb.block g (hlt g (by rw [hv]; rfl)).2).trans hg, h2⟩

theorem heap_lt {w : World} {b : Nat} {o : Obj} (h : w.heap[b]? = some o) : b < w.heap.size := (Array.getElem?_eq_some_iff.1 h).1

theorem TOut.below {w0 w w' : World} {v : Value} {ts : List Tr} (h : TOut w0 w v ts) (hb : Below w.heap.size w w') : TOut w0 w' v ts :=
  ⟨own_below h.own hb, fun t ht => (h.ok t ht).below hb, fun t ht => by
    obtain ⟨h1, h2, h3⟩ := h.map t ht
    exact ⟨(hb.block _ (heap_lt h1)).trans h1, h2, h3⟩, h.same, h.bel.trans (hb.mono h.bel.size)⟩
theorem TOut.nil (w : World) : TOut w w (.slice none 0 0) [] :=
  ⟨by simpa using World.ownsRow_nil w w.heap.size 45 14, by simp, by simp, by simp, Below.refl _ _⟩

theorem TOut.push {w0 W w' : World} {v v' : Value} {ts : List Tr} {t : Tr} (h : TOut w0 W v ts) (hok : TrOk W w0.heap.size (fun b => w0.heap.size ≤ b ∧ v.ownBlock ≠ some b) t)
    (hmap : W.heap[t.mb]? = some (.map #[] 0) ∧ w0.heap.size ≤ t.mb ∧ v.ownBlock ≠ some t.mb) (hsame : ∀ t' ∈ ts, t'.mb = t.mb → t'.cb = t.cb ∧ t'.k = t.k ∧ t'.m = t.m)
    (h2 : w'.ownsRow w0.heap.size 45 14 v' (ts.length + 1) (ts.flatMap Tr.cells ++ t.cells)) (h3 : W.grownBy w' v.ownBlock) (h5 : v'.ownBlock = v.ownBlock ∨ v'.ownBlock = some W.heap.size) : TOut w0 w' v' (ts ++ [t]) := by
  have hbel : Below w0.heap.size w0 w' := h.bel.grown h3 h.bel.size (fun k hk => (h.own.lt k hk).1)
  have ne : ∀ b, b < W.heap.size → v.ownBlock ≠ some b → v'.ownBlock ≠ some b := by
    intro b hb hne
    rcases h5 with h5 | h5
    · rw [h5]; exact hne
    · rw [h5]; intro e; have e : W.heap.size = b := by simpa using e
      omega
  have keep : ∀ x, TrOk W w0.heap.size (fun b => w0.heap.size ≤ b ∧ v.ownBlock ≠ some b) x → TrOk w' w0.heap.size (fun b => w0.heap.size ≤ b ∧ v'.ownBlock ≠ some b) x := by
    intro x hx
    have hx' := hx.mono (F' := fun b => w0.heap.size ≤ b ∧ v.ownBlock ≠ some b ∧ v'.ownBlock ≠ some b) (fun b hb hF => ⟨hF.1, hF.2, ne b hb hF.2⟩)
    have hx2 := hx'.keep (w' := w') (fun b hb hl => h3.block b hl (fun e => by have := (h.own.lt b e.symm).1; omega)) (fun b hF hl => h3.block b hl (fun e => hF.2.1 e.symm))
    exact hx2.mono (fun b _ hF => ⟨hF.1, hF.2.2⟩)
  have keepm : ∀ x : Tr, (W.heap[x.mb]? = some (.map #[] 0) ∧ w0.heap.size ≤ x.mb ∧ v.ownBlock ≠ some x.mb) → (w'.heap[x.mb]? = some (.map #[] 0) ∧ w0.heap.size ≤ x.mb ∧ v'.ownBlock ≠ some x.mb) := by
    rintro x ⟨a1, a2, a3⟩
    exact ⟨(h3.block _ (heap_lt a1) (fun e => a3 e.symm)).trans a1, a2, ne _ (heap_lt a1) a3⟩
  refine ⟨by simpa using h2, fun x hx => ?_, fun x hx => ?_, fun x hx y hy e => ?_, hbel⟩
  · rcases List.mem_append.1 hx with hx | hx
    · exact keep x (h.ok x hx)
    · have : x = t := by simpa using hx
      subst this; exact keep x hok
  · rcases List.mem_append.1 hx with hx | hx
    · exact keepm x (h.map x hx)
    · have : x = t := by simpa using hx
      subst this; exact keepm x hmap
  · rcases List.mem_append.1 hx with hx1 | hx1 <;> rcases List.mem_append.1 hy with hy1 | hy1
    · exact h.same x hx1 y hy1 e
    · have e2 : y = t := by simpa using hy1
      rw [e2] at e ⊢
      exact hsame x hx1 e
    · have e2 : x = t := by simpa using hx1
      rw [e2] at e ⊢
      obtain ⟨a1, a2, a3⟩ := hsame y hy1 e.symm
      exact ⟨a1.symm, a2.symm, a3.symm⟩
    · have h1 : x = t := by simpa using hx1
      have h2 : y = t := by simpa using hy1
      rw [h1, h2]; exact ⟨rfl, rfl, rfl⟩

/-- The block of a trial in the making. -/
def TBlk (w : World) (Bt cb : Nat) (x : KOp) (ov sv : Value) (idx : Nat) : Prop := w.heap[Bt]? = some (.cells #[.pointer (some ⟨cb, 0, none⟩), ov, sv, .int .i64 idx, .int .u8 x.kind, .int .i64 x.k, .int .i64 x.m, .int .u8 x.gen, .slice x.da x.bs.length x.dc, .slice x.pa x.pick.length x.pc, .int .i64 x.index, .int .u8 x.field, .int .i64 x.value, .int .u8 x.mask] 45 (0, 0))
section
variable {w : World} {Bt cb : Nat} {x : KOp} {ov sv : Value} {idx : Nat}
theorem TBlk.cell (h : TBlk w Bt cb x ov sv idx) (i : Nat) : w.cell? ⟨Bt, i, none⟩ = (#[.pointer (some ⟨cb, 0, none⟩), ov, sv, .int .i64 idx, .int .u8 x.kind, .int .i64 x.k, .int .i64 x.m, .int .u8 x.gen, .slice x.da x.bs.length x.dc, .slice x.pa x.pick.length x.pc, .int .i64 x.index, .int .u8 x.field, .int .i64 x.value, .int .u8 x.mask] : Array Value)[i]? := by unfold TBlk at h; simp [World.cell?, h]
theorem TBlk.c1 (h : TBlk w Bt cb x ov sv idx) : w.cell? ⟨Bt, 1, none⟩ = some ov := h.cell 1
theorem TBlk.c2 (h : TBlk w Bt cb x ov sv idx) : w.cell? ⟨Bt, 2, none⟩ = some sv := h.cell 2
theorem TBlk.fr (h : TBlk w Bt cb x ov sv idx) (i : Nat) : w.frozen? ⟨Bt, i, none⟩ = false := by unfold TBlk at h; simp [World.frozen?, h]
theorem TBlk.of_block {w' : World} (h : TBlk w Bt cb x ov sv idx) (e : w'.heap[Bt]? = w.heap[Bt]?) : TBlk w' Bt cb x ov sv idx := e.trans h
theorem TBlk.set1 (h : TBlk w Bt cb x ov sv idx) (v : Value) : TBlk (w.setCell ⟨Bt, 1, none⟩ v) Bt cb x v sv idx := by unfold TBlk at *; simp [World.setCell, Array.getElem?_modify, h]
theorem TBlk.set2 (h : TBlk w Bt cb x ov sv idx) (v : Value) : TBlk (w.setCell ⟨Bt, 2, none⟩ v) Bt cb x ov v idx := by unfold TBlk at *; simp [World.setCell, Array.getElem?_modify, h]
end

theorem Tryd.info3 : (Tryd.prog.info? 3).map (fun i => (i.zero, i.size, i.bytes)) = some (some (.int .i64 0), 1, 8) := by kernel_rfl

/-- 'append(s, n)' over small numbers, s the call's own. -/
theorem wpList_append_num (w : World) {ops : Array Oper} {rest : List Oper} {o : Oper} {a : Act} {Q : Exit → Act → World → Prop} (hgd : o.guard = none) (s x : Operand)
    (ho : o.op = .call { callee := .builtin .append, args := #[s, x], argTypes := #[31, 31] })
    (base : Nat) (v : Value) (ns : List Nat) (hs : a.eval s = v) (hown : w.ownsRow base 3 1 v ns.length (ns.map fun y => Value.int .i64 ((y : Nat) : Int)))
    (g c n : Nat) (hx : a.eval x = .slice (some ⟨g, 0, none⟩) 1 c) (hcell : w.cell? ⟨g, 0, none⟩ = some (.int .i64 (n : Int))) (hlen : ns.length ≤ 1000000) (hbase : base ≤ w.heap.size)
    (h : ∀ v' w', w'.ownsRow base 3 1 v' (ns ++ [n]).length ((ns ++ [n]).map fun y => Value.int .i64 ((y : Nat) : Int)) → w.grownBy w' v.ownBlock → (v'.ownBlock = v.ownBlock ∨ v'.ownBlock = some w.heap.size) → wpList Tryd.prog ops Q rest (a.put o.dst v') w') :
    wpList Tryd.prog ops Q (o :: rest) a w := by
  obtain ⟨i0, hi, hzz⟩ := Option.map_eq_some_iff.1 Tryd.info3
  simp only [Prod.mk.injEq] at hzz
  obtain ⟨hz0, hz1, hz2⟩ := hzz
  refine wpList_append_own_at w hgd s x 31 ho base 3 i0 (.int .i64 0) 1 8 Tryd.underlying31 hi hz0 hz1 hz2 rfl (by decide) v ns.length _ hs hown ⟨g, 0, none⟩ 1 c [.int .i64 (n : Int)] hx (by simp)
    (by intro j y hj; match j, hj with | 0, hj => simp at hj; subst hj; simpa [Addr.add] using hcell) (by intro y hy; simp at hy; subst hy; rfl) (by unfold maxLen; omega) (by omega) hbase ?_
  intro v' w' h2 h3 _ h5
  exact h v' w' (by rw [List.map_append, List.length_append]; exact h2) h3 h5

/-- An own row of small numbers, read. -/
theorem NRow.of_owns {w : World} {base : Nat} {v : Value} {n : Nat} {ns : List Nat} (h : w.ownsRow base 3 1 v n (ns.map fun x => Value.int .i64 ((x : Nat) : Int))) :
    ∃ ao cap, v = .slice ao ns.length cap ∧ ns.length ≤ cap ∧ cap ≤ 9223372036854775807 ∧ NRow w (fun b => base ≤ b) ao ns := by
  have hn : ns.length = n := by simpa using h.1
  rcases h.2 with ⟨rfl, h0⟩ | ⟨g, cap, cur, rfl, hb, hg, hle, hm, hs, ht⟩
  · have : ns = [] := List.length_eq_zero_iff.1 (by omega)
    subst this
    exact ⟨none, 0, rfl, Nat.le_refl _, by omega, fun h => absurd rfl h⟩
  · refine ⟨some ⟨g, 0, none⟩, cap, by rw [hn], by omega, by unfold maxLen at hm; omega, fun _ => ⟨g, 0, rfl, hb, fun i hi => ?_⟩⟩
    have := h.cells (g := g) rfl i (.int .i64 ((ns.getD i 0 : Nat) : Int)) (by simp [List.getD_eq_getElem?_getD, hi])
    have e : (⟨g, 0, none⟩ : Addr).add i = ⟨g, 0 + i, none⟩ := by unfold Addr.add; split <;> simp_all
    rw [← e]; exact this
end Go.Proofs.Qxb6500697aDoor
