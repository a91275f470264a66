import Derived.Test.YtppedainpmjbmaaGreatDoorD75
import Derived.Test.YtppedainpmjbmaaGreatDoorChecked
set_option linter.unusedVariables false
namespace Go.Proofs.YtppedainpmjbmaaGreatDoor
open Go Go.Det Go.RowKit Go.Det.Fast
/-! The chapter's examples, by runs of the abstract machine in the kernel: what is called with closed values is run by itself -/
theorem seatOk : (seatCells.all fun p => Nat.blt p.1 Tryz.prog.globals.size) = true := by kernel_rfl
theorem seatFl : seatFlat = true := by kernel_rfl
def eAwake : Flt := ⟨11, [], .bool true⟩
theorem awake_ok : eAwake.ok Tryz.prog := Flt.of_run noTab_ok 3000 seatFl seatOk eAwake rfl rfl (by kernel_rfl)
end Go.Proofs.YtppedainpmjbmaaGreatDoor
