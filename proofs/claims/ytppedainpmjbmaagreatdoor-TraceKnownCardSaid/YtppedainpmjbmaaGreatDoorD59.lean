import Derived.Test.YtppedainpmjbmaaGreatDoorD58
import Derived.Lib.CutLaws
set_option linter.unusedSimpArgs false
set_option linter.unusedVariables false
namespace Go.Det
open Go Go.RowKit
def sub (s : List UInt8) (lo hi : Int) : Option (List UInt8) := if 0 ≤ lo ∧ lo ≤ hi ∧ hi ≤ (s.length : Int) then some ((s.drop lo.toNat).take (hi.toNat - lo.toNat)) else none
section
variable {P : Program} {H : Hp} {ev : Ev} {o : Oper}
end
section
variable {P : Program} {a : Array Oper} {fl : Bool} {n : NN} {B0 B D : Hp} {kD : Nat} {own : List OwnE}
end
end Go.Det
