import Derived.Test.YtppedainpmjbmaaGreatDoorD59
set_option linter.unusedSimpArgs false
set_option linter.unusedVariables false
namespace Go.Det
open Go Go.RowKit
end Go.Det
