import Derived.Test.YtppedainpmjbmaaGreatDoorD38
set_option linter.unusedSimpArgs false
set_option linter.unusedVariables false
namespace Go.Det
open Go Go.RowKit
section rules
variable {P : Program} {Q : Ex → SS → Prop} {n : NN} {B0 B D : Hp} {kD : Nat} {k : KK} {a : Array Oper} {fl : Bool}
theorem side_bin {i : Nat} {o : Oper} {s : SS} {x : VS} {ids : Nat → Nat} {H : Hp} (ho : a[i]? = some o) (hr : cls P o.op = some .pure) (h0 : s.H = D) (f : FrD B0 B D kD x.cl x.kB x.loc ids H) : side P a fl s.st i (x.ss ids n H).st := by
  intro hfl
  refine ⟨by show Ext s.H H; rw [h0]; exact f.extD, fun hf => ?_⟩
  unfold floating at hf
  rw [ho] at hf
  simp [isRead, hr] at hf
end rules
end Go.Det
