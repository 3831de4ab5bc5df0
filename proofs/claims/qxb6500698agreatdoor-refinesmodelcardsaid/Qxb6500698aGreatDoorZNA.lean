/-
  ANY STEP OF THE MODEL.
-/
import Derived.Test.Qxb6500698aGreatDoorZN2
import Derived.Test.Qxb6500698aGreatDoorZN3
import Derived.Test.Qxb6500698aGreatDoorZN5
import Derived.Test.Qxb6500698aGreatDoorZN6
namespace Go.Proofs.Qxb6500698aGreatDoor
open Go.RowKit
theorem zm13 {B : Nat} {w : World} {l : Ml} {s : ZSt} {o : OpD} (h : InN B w l s o) (h0 : o.kind = 13) :
    Calls Tryz.prog 9 #[.pointer (some ⟨l.sb, 0, none⟩), opV o] w (StM B w l s o) := by
  by_cases hie : s.ie = none
  · cases hok : okW o.width with
    | true => exact zm13a h h0 hie hok
    | false => exact zm13b h h0 hie hok
  · exact zm13c h h0 hie
theorem zm18 {B : Nat} {w : World} {l : Ml} {s : ZSt} {o : OpD} (h : InN B w l s o) (h0 : o.kind = 18) :
    Calls Tryz.prog 9 #[.pointer (some ⟨l.sb, 0, none⟩), opV o] w (StM B w l s o) := by
  by_cases hie : s.ie = none
  · by_cases hI : s.I = []
    · exact zm18b h h0 hie hI
    · exact zm18a h h0 hie hI
  · exact zm18c h h0 hie
theorem zstepM {B : Nat} {w : World} {l : Ml} {s : ZSt} {o : OpD} (h : InN B w l s o) :
    Calls Tryz.prog 9 #[.pointer (some ⟨l.sb, 0, none⟩), opV o] w (StM B w l s o) := by
  by_cases k0 : o.kind = 0; · exact zm0 h k0
  by_cases k1 : o.kind = 1; · exact zm1 h k1
  by_cases k2 : o.kind = 2; · exact zm2 h k2
  by_cases k3 : o.kind = 3; · exact zm3 h k3
  by_cases k4 : o.kind = 4; · exact zm4 h k4
  by_cases k5 : o.kind = 5; · exact zm5 h k5
  by_cases k6 : o.kind = 6; · exact zm6 h k6
  by_cases k7 : o.kind = 7; · exact zm7 h k7
  by_cases k8 : o.kind = 8; · exact zm8 h k8
  by_cases k9 : o.kind = 9; · exact zm9 h k9
  by_cases k10 : o.kind = 10; · exact zm10 h k10
  by_cases k11 : o.kind = 11; · exact zm11 h k11
  by_cases k12 : o.kind = 12; · exact zm12 h k12
  by_cases k13 : o.kind = 13; · exact zm13 h k13
  by_cases k14 : o.kind = 14; · exact zm14 h k14
  by_cases k15 : o.kind = 15; · exact zm15 h k15
  by_cases k16 : o.kind = 16; · exact zm16 h k16
  by_cases k17 : o.kind = 17; · exact zm17 h k17
  by_cases k18 : o.kind = 18; · exact zm18 h k18
  exact zmD h (by omega)
end Go.Proofs.Qxb6500698aGreatDoor
