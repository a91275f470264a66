import Derived.WalkKit
import Derived.Lib.ItoaNum
namespace Go.Det
def seatCells : List (Nat × List Value) := [(2, Lib.pow10Tab.map fun z => .int .u64 z)]
def seatInts : List Nat := [1]
def seatIfs : List Nat := [3, 4]
end Go.Det
