import Derived.Test.YthemdclmlcblbaaDoorD65
set_option linter.unusedSimpArgs false
set_option linter.unusedVariables false
namespace Go.Det
open Go Go.RowKit
section
variable {P : Program} {Q : Ex → SS → Prop} {n : NN} {B0 B D : Hp} {kD : Nat} {own : List OwnE} {k k' : KK} {x x' x'' : VS} {a : Array Oper} {fl : Bool} {m i : Nat} {loc : List (List Value)} {α : Type} {enc : α → List Value}
end
end Go.Det
