/-
  ANY STEP OF THE REAL MACHINES.
-/
import Derived.Test.Qxb6500698aGreatDoorZT5
import Derived.Test.Qxb6500698aGreatDoorZT6
namespace Go.Proofs.Qxb6500698aGreatDoor
open Go.RowKit
theorem zstepR {B : Nat} {w : World} {e : Nat → Addr} {l : Rl} {s : ZSt} {o : OpD} (h : InZ B w e l s o) :
    Calls Tryz.prog 7 #[.pointer (some ⟨l.d, 0, none⟩), opV o] w (StR B w e l s o) := by
  by_cases k0 : o.kind = 0; · exact zr0 h k0
  by_cases k1 : o.kind = 1; · exact zr1 h k1
  by_cases k2 : o.kind = 2; · exact zr2 h k2
  by_cases k3 : o.kind = 3; · exact zr3 h k3
  by_cases k4 : o.kind = 4; · exact zr4 h k4
  by_cases k5 : o.kind = 5; · exact zr5 h k5
  by_cases k6 : o.kind = 6; · exact zr6 h k6
  by_cases k7 : o.kind = 7; · exact zr7 h k7
  by_cases k8 : o.kind = 8; · exact zr8 h k8
  by_cases k9 : o.kind = 9; · exact zr9 h k9
  by_cases k10 : o.kind = 10; · exact zr10 h k10
  by_cases k11 : o.kind = 11; · exact zr11 h k11
  by_cases k12 : o.kind = 12; · exact zr12 h k12
  by_cases k13 : o.kind = 13; · exact zr13 h k13
  by_cases k14 : o.kind = 14; · exact zr14 h k14
  by_cases k15 : o.kind = 15; · exact zr15 h k15
  by_cases k16 : o.kind = 16; · exact zr16 h k16
  by_cases k17 : o.kind = 17; · exact zr17 h k17
  by_cases k18 : o.kind = 18; · exact zr18 h k18
  exact zrD h (by omega)
end Go.Proofs.Qxb6500698aGreatDoor
