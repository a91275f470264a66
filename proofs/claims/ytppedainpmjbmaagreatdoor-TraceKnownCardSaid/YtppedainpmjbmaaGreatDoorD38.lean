import Derived.Test.YtppedainpmjbmaaGreatDoorD37
set_option linter.unusedSimpArgs false
set_option linter.unusedVariables false
namespace Go.Det
open Go Go.RowKit
section ops
variable {P : Program} {H : Hp} {ev : Ev} {o : Oper}
theorem opD_buildSlice {t : TypeId} {n : Nat} {parts : Array (Nat × Operand)} {l : List (Nat × Value)} {v : Value} {H' : Hp} (ho : o.op = .buildSlice t n parts) (hl : partsD ev parts.toList = some l) (h : buildSliceD P H t n l = some (v, H')) : opD P H ev o = some (.val v H') := by
  unfold opD; simp only [ho, hl, h]
end ops
end Go.Det
