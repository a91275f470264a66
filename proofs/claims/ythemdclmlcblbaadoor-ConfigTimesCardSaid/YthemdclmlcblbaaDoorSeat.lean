import Derived.WalkKit
import Derived.Lib.TrailingZeros
namespace Go.Det
def seatCells : List (Nat × List Value) := [(0, Lib.deBruijn64tab.map fun n => .int .u8 (n : Nat))]
def seatInts : List Nat := []
def seatIfs : List Nat := []
end Go.Det
