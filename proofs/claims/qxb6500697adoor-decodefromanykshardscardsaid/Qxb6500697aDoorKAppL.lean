/-
  append OF A SHARD TO COPIES, INSIDE A DRAWN REGION: the law at the operation as it is written, so that it fails at once elsewhere.
-/
import Derived.Test.Qxb6500697aDoorKDecT
namespace Go.Proofs.Qxb6500697aDoor
open Go.RowKit
theorem step_append_lit {wz W : World} {H L : Nat} {f : Nat → Sd} {x : Sd} {g : Nat} {d : Option Tmp} {ty : TypeId} {ps : String} {af : Array Edge} {s y : Operand} {ops : Array Oper} {a : Act} {K : Act → World → Prop} {Q : Exit → Act → World → Prop} {E : Prop}
    (hA : AppR wz W H L f x g) (hs : a.eval s = .slice (some ⟨H, 0, none⟩) L L) (hx : a.eval y = .slice (some ⟨g, 0, none⟩) 1 1)
    (h : ∀ ao cap w', SdRow w' ao (cps f L ++ [x]) → Below wz.heap.size wz w' → K (a.put d (.slice ao (L + 1) cap)) w') :
    if Region.wanted { dst := d, op := .call { callee := .builtin .append, args := #[s, y], argTypes := #[36, 36] }, type := ty, pos := ps, after := af, guard := none } (yielded ops a.tmps) = true then Oper.wp Tryd.prog { dst := d, op := .call { callee := .builtin .append, args := #[s, y], argTypes := #[36, 36] }, type := ty, pos := ps, after := af, guard := none } a W K Q else E :=
  step_append_ap hA rfl s y rfl hs hx h

/-- append of one shard to a slice of one's own. -/
theorem step_append_sdl {W : World} {d : Option Tmp} {ty : TypeId} {ps : String} {af : Array Edge} {s y : Operand} {ops : Array Oper} {a : Act} {K : Act → World → Prop} {Q : Exit → Act → World → Prop} {E : Prop}
    {B : Nat} {v : Value} {ss : List Sd} {g : Nat} {x : Sd} (hT : SOut B W v ss) (hB : B ≤ W.heap.size) (hlen : ss.length ≤ 65536)
    (hblk : W.heap[g]? = some (.cells #[.int .u8 x.g, .int .i64 x.ix, .int .i64 x.ol, .slice x.pa x.pl x.pc] 60 (0, 0)))
    (hok : SdOk W x) (hfar : 0 < x.pl → ∀ b o, x.pa = some ⟨b, o, none⟩ → v.ownBlock ≠ some b) (hs : a.eval s = v) (hx : a.eval y = .slice (some ⟨g, 0, none⟩) 1 1)
    (h : ∀ v' w', SOut B w' v' (ss ++ [x]) → W.grownBy w' v.ownBlock → K (a.put d v') w') :
    if Region.wanted { dst := d, op := .call { callee := .builtin .append, args := #[s, y], argTypes := #[36, 36] }, type := ty, pos := ps, after := af, guard := none } (yielded ops a.tmps) = true then Oper.wp Tryd.prog { dst := d, op := .call { callee := .builtin .append, args := #[s, y], argTypes := #[36, 36] }, type := ty, pos := ps, after := af, guard := none } a W K Q else E :=
  step_append_sd W rfl s y rfl B v ss hs hT hB hlen g 1 hx x hblk hok hfar h

/-- What append needs. -/
structure AppS (B : Nat) (W : World) (v : Value) (ss : List Sd) (x : Sd) (g : Nat) : Prop where
  so : SOut B W v ss
  sz : B ≤ W.heap.size
  len : ss.length ≤ 65536
  blk : W.heap[g]? = some (.cells #[.int .u8 x.g, .int .i64 x.ix, .int .i64 x.ol, .slice x.pa x.pl x.pc] 60 (0, 0))
  ok : SdOk W x
  far : 0 < x.pl → ∀ b o, x.pa = some ⟨b, o, none⟩ → v.ownBlock ≠ some b
theorem step_append_lits {W : World} {d : Option Tmp} {ty : TypeId} {ps : String} {af : Array Edge} {s y : Operand} {ops : Array Oper} {a : Act} {K : Act → World → Prop} {Q : Exit → Act → World → Prop} {E : Prop}
    {B : Nat} {v : Value} {ss : List Sd} {g : Nat} {x : Sd} (hA : AppS B W v ss x g) (hs : a.eval s = v) (hx : a.eval y = .slice (some ⟨g, 0, none⟩) 1 1)
    (h : ∀ v' w', SOut B w' v' (ss ++ [x]) → W.grownBy w' v.ownBlock → K (a.put d v') w') :
    if Region.wanted { dst := d, op := .call { callee := .builtin .append, args := #[s, y], argTypes := #[36, 36] }, type := ty, pos := ps, after := af, guard := none } (yielded ops a.tmps) = true then Oper.wp Tryd.prog { dst := d, op := .call { callee := .builtin .append, args := #[s, y], argTypes := #[36, 36] }, type := ty, pos := ps, after := af, guard := none } a W K Q else E :=
  step_append_sdl hA.so hA.sz hA.len hA.blk hA.ok hA.far hs hx h
end Go.Proofs.Qxb6500697aDoor
