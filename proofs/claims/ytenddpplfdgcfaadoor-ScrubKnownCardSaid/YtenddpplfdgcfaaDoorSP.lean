import Derived.Test.YtenddpplfdgcfaaDoorSL
namespace Go.Proofs.YtenddpplfdgcfaaDoor
open Go Go.Det Go.RowKit
theorem known5 : f5 1000 = some true := by kernel_rfl
theorem pure5 : Pure5 := fun _ => ⟨1000, known5⟩
end Go.Proofs.YtenddpplfdgcfaaDoor
