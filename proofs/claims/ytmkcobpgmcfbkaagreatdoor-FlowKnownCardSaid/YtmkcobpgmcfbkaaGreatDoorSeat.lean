import Derived.WalkKit
namespace Go.Det
def fnV (f : Nat) : Value := .func (.func f) ⟨[]⟩ ⟨[]⟩
def seatCells : List (Nat × List Value) := [(0, [.nilFunc, fnV 191, fnV 192, fnV 193, fnV 193, fnV 193, fnV 193])]
def seatInts : List Nat := []
def seatIfs : List Nat := []
end Go.Det
