import Derived.Test.YtiodokcfjgmpaaaGreatDoorD46
set_option linter.unusedSimpArgs false
set_option linter.unusedVariables false
namespace Go.Det
open Go Go.RowKit
abbrev Sum3.b {α β γ : Type} (x : β) : α ⊕ (β ⊕ γ) := .inr (.inl x)
abbrev Sum3.c {α β γ : Type} (x : γ) : α ⊕ (β ⊕ γ) := .inr (.inr x)
section codes
variable {α : Type}
def slC (c : Cod α) : Cod (List α) :=
  { sz := 1, rep := fun n H cs l => ∃ a cap, cs = [.slice a l.length cap] ∧ SlF n H c a cap l
    len := by rintro n H cs x ⟨a, cap, e, _⟩; rw [e]; rfl
    mono := by rintro m n H H' cs x hm h ⟨a, cap, e, f⟩; exact ⟨a, cap, e, f.mono hm h⟩ }
end codes
section rules
variable {P : Program} {Q : Ex → SS → Prop} {n : NN} {B0 B D : Hp} {kD : Nat} {own : List OwnE} {k k' : KK} {x x' x'' : VS} {a : Array Oper} {fl : Bool} (N : Nat)
theorem WJ.adv (hs : vSym P n N k x = .go k' x') (h : WJ P n B0 B own k' Q x') : WJ P n B0 B own k Q x := WJ.sym N hs h
end rules
end Go.Det
