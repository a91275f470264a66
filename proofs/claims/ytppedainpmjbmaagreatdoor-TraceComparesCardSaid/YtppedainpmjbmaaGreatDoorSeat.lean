import Derived.WalkKit
import Derived.Lib.LaidU8
import Derived.Lib.ItoaNum
import Derived.Lib.TrailingZeros
namespace Go.Det
def accCells : List Nat → List Value
  | [] => []
  | i :: r => .int .u8 (Lib.accLo i : Int) :: .int .u8 (Lib.accHi i : Int) :: accCells r
def seatCells : List (Nat × List Value) := [(0, Lib.deBruijn64tab.map fun n => .int .u8 (n : Nat)), (2, Lib.firstTab.map fun z => .int .u8 z), (3, accCells (List.range 16)), (4, Lib.pow10Tab.map fun z => .int .u64 z)]
def seatInts : List Nat := [1]
def seatIfs : List Nat := [5, 6]
end Go.Det
