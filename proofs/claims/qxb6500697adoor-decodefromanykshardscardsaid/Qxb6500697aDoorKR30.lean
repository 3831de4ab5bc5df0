/-
  ONE REGION OF THE LAW DecodeFromAnyKShards, WALKED IN A CONTEXT OF ITS OWN.
-/
import Derived.Test.Qxb6500697aDoorKAppL
namespace Go.Proofs.Qxb6500697aDoor
open Go.RowKit
/-- The operations of a region, by its number. -/
def regOps (n : Nat) : Code → Option (Array Oper)
  | .region id ops _ => if id = n then some ops else none
  | .seq a b => match regOps n a with
    | some x => some x
    | none => regOps n b
  | .cond _ a b => match regOps n a with
    | some x => some x
    | none => regOps n b
  | .block _ b => regOps n b
  | .loop b => regOps n b
  | _ => none

set_option maxRecDepth 100000 in
set_option maxHeartbeats 4000000 in
theorem reg30 {ops : Array Oper} {u0 u1 u2 u3 u5 u6 u7 u8 u10 u11 u12 u13 u14 u16 u17 u18 u19 u20 u21 u22 u23 u24 u25 u26 u27 u28 u29 u30 u31 u32 u33 u34 u35 u36 u37 u38 u39 u40 u41 u42 u43 u44 u45 u46 u47 u48 u49 u50 u51 u52 u53 u54 u55 u56 u57 u58 u59 u60 u61 u62 u63 u64 u65 u66 u67 u68 u69 u70 u71 u72 u73 u74 u75 u76 u77 u78 u79 u80 u81 u82 u83 u84 u85 u86 u87 u88 u89 u90 u91 u92 u93 u94 u95 u96 u97 u98 u99 u100 u101 u102 u103 u104 u105 u106 u107 u108 u109 u110 u111 u112 u113 u114 u115 u116 u117 u118 u119 u120 u121 u122 u123 u124 u125 u126 u127 u128 u129 u130 u131 u132 u133 u134 u135 u136 u137 u138 u139 u140 u141 u142 u143 u144 u145 u146 u147 u148 u149 u150 u151 u152 u153 u154 u155 u156 u157 : Value} {w1 w5 w17 : World} {ts : List Tr} {t : Tr} {e : Nat → Addr} {B cB HS2 L N g n : Nat} {pb po : Nat → Nat} {y : Sd} {Q : Exit → Act → World → Prop}
    (hops : Tryd.f4.body.bind (regOps 30) = some ops) (hL65 : L ≤ 65535) (hidx : t.idx < N) (HYok : Hid (SdOk w17 y))
    (HCp2 : Hid (∀ V, Below w17.heap.size w17 V → Calls Tryd.prog 21 #[Value.slice (some ⟨cB, 0, none⟩) L L] V fun e w' => ∃ H f, e = Ending.returned (Value.slice (some ⟨H, 0, none⟩) L L) ∧ w17.heap.size ≤ H ∧ SOut w17.heap.size w' (Value.slice (some ⟨H, 0, none⟩) L L) (cps f L) ∧ CpsOf f (t.cho t.sub N g n pb po) ∧ Below V.heap.size V w' ∧ Below w17.heap.size w17 w'))
    (HDc2 : Hid (∀ (V : World) (f : Nat → Sd) (ao : Option Addr) (cap : Nat), Below w17.heap.size w17 V → SdRow V ao (cps f L ++ [y]) → CpsOf f (t.cho t.sub N g n pb po) → Calls Tryd.prog 22 #[Value.pointer (some ⟨t.cb, 0, none⟩), Value.slice ao (L + 1) cap] V fun r w' => r = Ending.returned (Value.tuple #[Value.slice none 0 0, Value.iface 186 (Value.pointer (some (e 4)))]) ∧ St w1 w5 ts w' ∧ Keeps w17 w'))
    (HSx : Hid (∀ V, Keeps w17 V → V.cell? ⟨B, 0, none⟩ = some (.pointer (some ⟨t.cb, 0, none⟩)) ∧ V.cell? ⟨B, 3, none⟩ = some (.int .i64 (t.idx : Int)) ∧ V.cell? ⟨HS2, t.idx * 4, none⟩ = some (.int .u8 (y.g : Int)) ∧ V.cell? ⟨HS2, t.idx * 4 + 1, none⟩ = some (.int .i64 y.ix) ∧ V.cell? ⟨HS2, t.idx * 4 + 2, none⟩ = some (.int .i64 y.ol) ∧ V.cell? ⟨HS2, t.idx * 4 + 3, none⟩ = some (.slice y.pa y.pl y.pc)))
    (HKd : Hid (Keeps w17 w17.drew ∧ ∀ o, Keeps w17 (w17.alloc o).drew))
    (hQ : ∀ (x138 x139 x140 x141 x142 x143 x144 x145 x146 x147 x148 x149 x150 x151 x152 : Value) (w' : World), St w1 w5 ts w' → Q .normal ⟨#[u0, u1, u2, u3, .pointer (some ⟨B, 0, none⟩), u5, u6, u7, u8, .slice (some ⟨cB, 0, none⟩) L L, u10, u11, u12, u13, u14, .slice (some ⟨HS2, 0, none⟩) N N, .slice none 0 0, .iface 186 (.pointer (some (e 4))), u18, u19, u20, u21, u22, u23, u24, u25, u26, u27, u28, u29, u30, u31, u32, u33, u34, u35, u36, u37, u38, u39, u40, u41, u42, u43, u44, u45, u46, u47, u48, u49, u50, u51, u52, u53, u54, u55, u56, u57, u58, u59, u60, u61, u62, u63, u64, u65, u66, u67, u68, u69, u70, u71, u72, u73, u74, u75, u76, u77, u78, u79, u80, u81, u82, u83, u84, u85, u86, u87, u88, u89, u90, u91, u92, u93, u94, u95, u96, u97, u98, u99, u100, u101, u102, u103, u104, u105, u106, u107, u108, u109, u110, u111, u112, u113, u114, u115, u116, u117, u118, u119, u120, u121, u122, u123, u124, u125, u126, u127, u128, u129, u130, u131, u132, u133, u134, u135, u136, u137, x138, x139, x140, x141, x142, x143, x144, x145, x146, x147, x148, x149, x150, x151, x152, u153, u154, u155, u156, u157], []⟩ w') :
    Code.wp Tryd.prog (Code.region 30 ops true) Q ⟨#[u0, u1, u2, u3, .pointer (some ⟨B, 0, none⟩), u5, u6, u7, u8, .slice (some ⟨cB, 0, none⟩) L L, u10, u11, u12, u13, u14, .slice (some ⟨HS2, 0, none⟩) N N, u16, u17, u18, u19, u20, u21, u22, u23, u24, u25, u26, u27, u28, u29, u30, u31, u32, u33, u34, u35, u36, u37, u38, u39, u40, u41, u42, u43, u44, u45, u46, u47, u48, u49, u50, u51, u52, u53, u54, u55, u56, u57, u58, u59, u60, u61, u62, u63, u64, u65, u66, u67, u68, u69, u70, u71, u72, u73, u74, u75, u76, u77, u78, u79, u80, u81, u82, u83, u84, u85, u86, u87, u88, u89, u90, u91, u92, u93, u94, u95, u96, u97, u98, u99, u100, u101, u102, u103, u104, u105, u106, u107, u108, u109, u110, u111, u112, u113, u114, u115, u116, u117, u118, u119, u120, u121, u122, u123, u124, u125, u126, u127, u128, u129, u130, u131, u132, u133, u134, u135, u136, u137, u138, u139, u140, u141, u142, u143, u144, u145, u146, u147, u148, u149, u150, u151, u152, u153, u154, u155, u156, u157], []⟩ w17 := by
  have hidx' : (t.idx : Int) < (N : Int) := by omega
  have hlit : Tryd.f4.body.bind (regOps 30) = some _ := rfl
  have ho := Option.some.inj (hops.symm.trans hlit)
  clear hlit hops
  subst ho
  have HQ : Hid (∀ (x138 x139 x140 x141 x142 x143 x144 x145 x146 x147 x148 x149 x150 x151 x152 : Value) (w' : World), St w1 w5 ts w' → Q .normal ⟨#[u0, u1, u2, u3, .pointer (some ⟨B, 0, none⟩), u5, u6, u7, u8, .slice (some ⟨cB, 0, none⟩) L L, u10, u11, u12, u13, u14, .slice (some ⟨HS2, 0, none⟩) N N, .slice none 0 0, .iface 186 (.pointer (some (e 4))), u18, u19, u20, u21, u22, u23, u24, u25, u26, u27, u28, u29, u30, u31, u32, u33, u34, u35, u36, u37, u38, u39, u40, u41, u42, u43, u44, u45, u46, u47, u48, u49, u50, u51, u52, u53, u54, u55, u56, u57, u58, u59, u60, u61, u62, u63, u64, u65, u66, u67, u68, u69, u70, u71, u72, u73, u74, u75, u76, u77, u78, u79, u80, u81, u82, u83, u84, u85, u86, u87, u88, u89, u90, u91, u92, u93, u94, u95, u96, u97, u98, u99, u100, u101, u102, u103, u104, u105, u106, u107, u108, u109, u110, u111, u112, u113, u114, u115, u116, u117, u118, u119, u120, u121, u122, u123, u124, u125, u126, u127, u128, u129, u130, u131, u132, u133, u134, u135, u136, u137, x138, x139, x140, x141, x142, x143, x144, x145, x146, x147, x148, x149, x150, x151, x152, u153, u154, u155, u156, u157], []⟩ w') := hQ
  clear hQ
  go_region_held3 (fun V => V.cell? ⟨B, 0, none⟩ = some (.pointer (some ⟨t.cb, 0, none⟩)) ∧ V.cell? ⟨B, 3, none⟩ = some (.int .i64 (t.idx : Int)) ∧ V.cell? ⟨HS2, t.idx * 4, none⟩ = some (.int .u8 (y.g : Int)) ∧ V.cell? ⟨HS2, t.idx * 4 + 1, none⟩ = some (.int .i64 y.ix) ∧ V.cell? ⟨HS2, t.idx * 4 + 2, none⟩ = some (.int .i64 y.ol) ∧ V.cell? ⟨HS2, t.idx * 4 + 3, none⟩ = some (.slice y.pa y.pl y.pc))
    (first | with_reducible exact HSx.out _ HKd.out.1 | with_reducible exact HSx.out _ (HKd.out.2 _) | with_reducible exact HSx.out _ K2.out | with_reducible exact HSx.out _ (Below.keeps G2.out) | with_reducible exact HSx.out _ (Below.keeps H4.out) | with_reducible exact HSx.out _ (K3.out _))
    (first
    | (go_at_call 21; refine (HCp2.out _ (by first | with_reducible exact Below.refl _ _ | with_reducible exact (Below.refl _ _).drew | with_reducible exact (Below.refl _ _).alloc (Nat.le_refl _) _ | with_reducible exact ((Below.refl _ _).alloc (Nat.le_refl _) _).drew | with_reducible exact (Below.refl _ _).drew.alloc (Nat.le_refl _) _)).mono ?_; rintro r w18 ⟨H, ff, rfl, hH, h1, h2, h3, h4⟩; have H1 : Hid (SOut w17.heap.size w18 (.slice (some ⟨H, 0, none⟩) L L) (cps ff L)) := h1; have H2 : Hid (CpsOf ff (t.cho t.sub N g n pb po)) := h2; have H3 : Hid _ := h3; have H4 : Hid (Below w17.heap.size w17 w18) := h4; have K3 : Hid (∀ o, Keeps w17 (w18.alloc o)) := (fun o => Below.keeps (h4.alloc h4.size o)); clear h1 h2 h3 h4 hH)
    | (go_at_call 22; refine (HDc2.out _ _ _ _ G2.out G1.out H2.out).mono ?_; rintro r w20 ⟨rfl, h1, h2⟩; have K1 : Hid (St w1 w5 ts w20) := h1; have K2 : Hid (Keeps w17 w20) := h2; clear h1 h2)
    | ((with_reducible refine step_append_lit (by first | exact AppR.mk1 H1.out H4.out hL65 HYok.out | exact AppR.mk2 H1.out H4.out hL65 HYok.out H3.out w17.heap.size (heap_alloc_drew w17 _)) ?_ ?_ ?_); rfl; rfl; intro ao1 cap1 w19 g1 g2; have G1 : Hid (SdRow w19 ao1 (cps ff L ++ [y])) := g1; have G2 : Hid (Below w17.heap.size w17 w19) := g2; clear g1 g2 H1))
  all_goals exact HQ.out _ _ _ _ _ _ _ _ _ _ _ _ _ _ _ _ K1.out
end Go.Proofs.Qxb6500697aDoor
