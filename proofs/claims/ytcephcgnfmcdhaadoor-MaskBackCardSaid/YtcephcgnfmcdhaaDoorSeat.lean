import Derived.WalkKit
import Derived.Lib.ItoaNum
import Derived.Lib.TrailingZeros
namespace Go.Det
def seatCells : List (Nat × List Value) := [(0, Lib.deBruijn64tab.map fun n => .int .u8 (n : Nat)), (2, Lib.pow10Tab.map fun z => .int .u64 z)]
def seatInts : List Nat := [1]
end Go.Det
