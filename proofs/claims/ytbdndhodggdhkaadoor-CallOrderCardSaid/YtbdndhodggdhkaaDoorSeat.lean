import Derived.WalkKit
import Derived.Lib.ItoaNum
namespace Go.Det
def seatCells : List (Nat × List Value) := [(2, Lib.pow10Tab.map fun z => .int .u64 z)]
def seatInts : List Nat := []
def seatIfs : List Nat := [0, 1]
end Go.Det
