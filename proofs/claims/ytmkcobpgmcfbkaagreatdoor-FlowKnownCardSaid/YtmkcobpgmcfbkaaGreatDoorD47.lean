import Derived.Test.YtmkcobpgmcfbkaaGreatDoorD46
set_option linter.unusedSimpArgs false
set_option linter.unusedVariables false
namespace Go.Det
open Go Go.RowKit
abbrev Sum3.b {α β γ : Type} (x : β) : α ⊕ (β ⊕ γ) := .inr (.inl x)
abbrev Sum3.c {α β γ : Type} (x : γ) : α ⊕ (β ⊕ γ) := .inr (.inr x)
section codes
variable {α : Type}
end codes
section rules
variable {P : Program} {Q : Ex → SS → Prop} {n : NN} {B0 B D : Hp} {kD : Nat} {own : List OwnE} {k k' : KK} {x x' x'' : VS} {a : Array Oper} {fl : Bool} (N : Nat)
end rules
end Go.Det
