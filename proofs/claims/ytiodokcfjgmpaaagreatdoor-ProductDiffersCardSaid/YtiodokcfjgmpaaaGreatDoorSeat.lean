import Derived.WalkKit
namespace Go.Det
def fnV (f : Nat) : Value := .func (.func f) ⟨[]⟩ ⟨[]⟩
def seatCells : List (Nat × List Value) := [(0, [.nilFunc, fnV 181, fnV 182, fnV 183, fnV 183, fnV 183, fnV 183])]
def seatInts : List Nat := []
def seatIfs : List Nat := []
end Go.Det
