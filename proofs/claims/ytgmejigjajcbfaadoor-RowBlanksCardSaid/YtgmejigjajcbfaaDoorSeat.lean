import Derived.WalkKit
import Derived.Lib.LaidU8
import Derived.Lib.ItoaNum
namespace Go.Det
def accCells : List Nat → List Value
  | [] => []
  | i :: r => .int .u8 (Lib.accLo i : Int) :: .int .u8 (Lib.accHi i : Int) :: accCells r
def seatCells : List (Nat × List Value) := [(0, Lib.firstTab.map fun z => .int .u8 z), (1, accCells (List.range 16)), (5, Lib.pow10Tab.map fun z => .int .u64 z)]
def seatInts : List Nat := [2]
def seatIfs : List Nat := [3, 4]
end Go.Det
