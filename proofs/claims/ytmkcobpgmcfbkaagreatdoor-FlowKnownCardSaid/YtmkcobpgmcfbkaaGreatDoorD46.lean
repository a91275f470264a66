import Derived.Test.YtmkcobpgmcfbkaaGreatDoorD45
set_option linter.unusedSimpArgs false
set_option linter.unusedVariables false
namespace Go.Det
open Go Go.RowKit
section ops
variable {P : Program} {H : Hp} {ev : Ev} {o : Oper}
end ops
end Go.Det
