import Derived.Test.YtgmejigjajcbfaaDoorD63
set_option linter.unusedSimpArgs false
set_option linter.unusedVariables false
namespace Go.Det
open Go Go.RowKit

/-! ## 57. A rune as text -/
def encR (n : Int) : List UInt8 := (Utf8.encode n).data.toList
theorem enc_eq (n : Int) : Utf8.encode n = bs (encR n) := rfl
end Go.Det
