import Derived.Test.YtiodokcfjgmpaaaGreatDoorD75
import Derived.Test.YtiodokcfjgmpaaaGreatDoorChecked
set_option linter.unusedVariables false
set_option maxRecDepth 100000
namespace Go.Proofs.YtiodokcfjgmpaaaGreatDoor
open Go Go.Det Go.RowKit Go.Det.Fast
/-! The chapter's examples, by runs of the abstract machine in the kernel: calls that only read are run by themselves -/
theorem seatOk : (seatCells.all fun p => Nat.blt p.1 Tryz.prog.globals.size) = true := by kernel_rfl
theorem seatFl : seatFlat = true := by kernel_rfl
def c0 : Rdo := ⟨30, [.agg ⟨[.int .i64 3, .slice (some ⟨3, 0, none⟩) 2 2, .int .i64 1, .int .i64 2, .int .i64 1, .int .i64 0, .int .i64 2, .int .i64 1, .int .i64 1, .int .i64 5, .int .i64 50, .int .i64 2, .int .i64 3, .slice (some ⟨5, 0, none⟩) 1 1, .int .u64 7, .int .i64 0, .int .i64 4, .int .u64 3, .int .i64 1, .int .i64 4, .int .u64 4, .int .i64 2, .int .i64 4, .slice (some ⟨6, 0, none⟩) 1 1, .int .i64 9]⟩], [(3, [.int .i64 3, .int .i64 3]), (4, [.int .i64 1, .int .i64 2, .int .i64 3]), (5, [.slice (some ⟨4, 0, none⟩) 3 3]), (6, [.int .i64 7])], 7, .int .i64 0⟩
theorem c0_ok : c0.ok Tryz.prog := Rdo.of_run noTab_ok 3000 c0 (by kernel_rfl) (by kernel_rfl)
def c1 : Rdo := ⟨30, [.agg ⟨[.int .i64 3, .slice (some ⟨342, 0, none⟩) 2 2, .int .i64 1, .int .i64 2, .int .i64 1, .int .i64 0, .int .i64 2, .int .i64 1, .int .i64 1, .int .i64 5, .int .i64 50, .int .i64 2, .int .i64 3, .slice (some ⟨344, 0, none⟩) 1 1, .int .u64 7, .int .i64 0, .int .i64 4, .int .u64 3, .int .i64 1, .int .i64 4, .int .u64 4, .int .i64 2, .int .i64 4, .slice (some ⟨345, 0, none⟩) 1 1, .int .i64 9]⟩], [(342, [.int .i64 3, .int .i64 3]), (343, [.int .i64 1, .int .i64 2, .int .i64 3]), (344, [.slice (some ⟨343, 0, none⟩) 3 3]), (345, [.int .i64 7])], 346, .int .i64 0⟩
theorem c1_ok : c1.ok Tryz.prog := Rdo.of_run noTab_ok 3000 c1 (by kernel_rfl) (by kernel_rfl)
def tabA : List Rdo := [c0, c1]
theorem tabA_ok : ∀ e ∈ tabA, e.ok Tryz.prog := by
  intro e he
  simp only [tabA, List.mem_cons, List.not_mem_nil, or_false] at he
  rcases he with rfl | rfl
  · exact c0_ok
  · exact c1_ok
def t0 : Rdo := ⟨73, [.agg ⟨[.int .i64 3, .slice (some ⟨3, 0, none⟩) 2 2, .int .i64 1, .int .i64 2, .int .i64 1, .int .i64 0, .int .i64 2, .int .i64 1, .int .i64 1, .int .i64 5, .int .i64 50, .int .i64 2, .int .i64 3, .slice (some ⟨5, 0, none⟩) 1 1, .int .u64 7, .int .i64 0, .int .i64 4, .int .u64 3, .int .i64 1, .int .i64 4, .int .u64 4, .int .i64 2, .int .i64 4, .slice (some ⟨6, 0, none⟩) 1 1, .int .i64 9]⟩], [(3, [.int .i64 3, .int .i64 3]), (4, [.int .i64 1, .int .i64 2, .int .i64 3]), (5, [.slice (some ⟨4, 0, none⟩) 3 3]), (6, [.int .i64 7])], 7, .tuple ⟨[.agg ⟨[.int .i64 6, .int .i64 9, .int .i64 15, .int .i64 51, .int .i64 153]⟩, .int .i64 0]⟩⟩
theorem t0_ok : t0.ok Tryz.prog := Rdo.of_run (tabR_ok tabA_ok) 3000 t0 (by kernel_rfl) (by kernel_rfl)
def t1 : Rdo := ⟨73, [.agg ⟨[.int .i64 3, .slice (some ⟨342, 0, none⟩) 2 2, .int .i64 1, .int .i64 2, .int .i64 1, .int .i64 0, .int .i64 2, .int .i64 1, .int .i64 1, .int .i64 5, .int .i64 50, .int .i64 2, .int .i64 3, .slice (some ⟨344, 0, none⟩) 1 1, .int .u64 7, .int .i64 0, .int .i64 4, .int .u64 3, .int .i64 1, .int .i64 4, .int .u64 4, .int .i64 2, .int .i64 4, .slice (some ⟨345, 0, none⟩) 1 1, .int .i64 9]⟩], [(342, [.int .i64 3, .int .i64 3]), (343, [.int .i64 1, .int .i64 2, .int .i64 3]), (344, [.slice (some ⟨343, 0, none⟩) 3 3]), (345, [.int .i64 7])], 346, .tuple ⟨[.agg ⟨[.int .i64 6, .int .i64 9, .int .i64 15, .int .i64 51, .int .i64 153]⟩, .int .i64 0]⟩⟩
theorem t1_ok : t1.ok Tryz.prog := Rdo.of_run (tabR_ok tabA_ok) 3000 t1 (by kernel_rfl) (by kernel_rfl)
def tabB : List Rdo := [c0, c1, t0, t1]
theorem tabB_ok : ∀ e ∈ tabB, e.ok Tryz.prog := by
  intro e he
  simp only [tabB, List.mem_cons, List.not_mem_nil, or_false] at he
  rcases he with rfl | rfl | rfl | rfl
  · exact c0_ok
  · exact c1_ok
  · exact t0_ok
  · exact t1_ok
end Go.Proofs.YtiodokcfjgmpaaaGreatDoor

set_option linter.unusedVariables false
set_option maxRecDepth 100000
namespace Go.Proofs.YtiodokcfjgmpaaaGreatDoor
open Go Go.Det Go.RowKit Go.Det.Fast
def eRoot : Flt := ⟨7, [], .bool true⟩
theorem root_ok : eRoot.ok Tryz.prog := Flt.of_run (tabR_ok tabB_ok) 3000 seatFl seatOk eRoot rfl rfl (by kernel_rfl)
end Go.Proofs.YtiodokcfjgmpaaaGreatDoor
