import Derived.Test.YtppedainpmjbmaaGreatDoorD77
import Derived.Test.YtppedainpmjbmaaGreatDoorChecked
set_option linter.unusedVariables false
namespace Go.Proofs.YtppedainpmjbmaaGreatDoor
open Go Go.Det Go.RowKit Go.Det.Fast
/-! TraceKnown, by runs of the abstract machine in the kernel: what is called with closed values is run by itself -/
theorem seatOk : (seatCells.all fun p => Nat.blt p.1 Tryz.prog.globals.size) = true := by kernel_rfl
theorem seatFl : seatFlat = true := by kernel_rfl
def eAwake : Flt := ⟨11, [], .bool true⟩
def eF0 : Flt := ⟨37, [.string ⟨⟨[102, 114, 111, 109, 32, 53, 32, 49, 10, 116, 111, 32, 52, 10]⟩⟩, .int .i64 8, .int .i64 9], .bool true⟩
def eF1 : Flt := ⟨37, [.string ⟨⟨[102, 114, 111, 109, 32, 53, 32, 49, 10]⟩⟩, .int .i64 6, .int .i64 9], .bool true⟩
def eF2 : Flt := ⟨37, [.string ⟨⟨[97, 116, 32, 53, 10]⟩⟩, .int .i64 3, .int .i64 0], .bool true⟩
def eF3 : Flt := ⟨37, [.string ⟨⟨[102, 114, 111, 109, 32, 53, 32, 49, 10, 97, 116, 32, 54, 10, 117, 112, 32, 51, 10, 114, 101, 112, 108, 121, 32, 48, 32, 49, 10, 116, 111, 32, 55, 10]⟩⟩, .int .i64 3, .int .i64 19], .bool true⟩
theorem awake_ok : eAwake.ok Tryz.prog := Flt.of_run noTab_ok 3000 seatFl seatOk eAwake rfl rfl (by kernel_rfl)
theorem eF0_ok : eF0.ok Tryz.prog := Flt.of_run noTab_ok 3000 seatFl seatOk eF0 rfl rfl (by kernel_rfl)
theorem eF1_ok : eF1.ok Tryz.prog := Flt.of_run noTab_ok 3000 seatFl seatOk eF1 rfl rfl (by kernel_rfl)
theorem eF2_ok : eF2.ok Tryz.prog := Flt.of_run noTab_ok 3000 seatFl seatOk eF2 rfl rfl (by kernel_rfl)
theorem eF3_ok : eF3.ok Tryz.prog := Flt.of_run noTab_ok 3000 seatFl seatOk eF3 rfl rfl (by kernel_rfl)
def entries : List Flt := [eAwake, eF0, eF1, eF2, eF3]
theorem entries_ok : ∀ e ∈ entries, e.ok Tryz.prog := by
  intro e he
  simp only [entries, List.mem_cons, List.not_mem_nil, or_false] at he
  rcases he with rfl | rfl | rfl | rfl | rfl
  · exact awake_ok
  · exact eF0_ok
  · exact eF1_ok
  · exact eF2_ok
  · exact eF3_ok
def eKnown : Flt := ⟨10, [], .bool true⟩
theorem known_ok : eKnown.ok Tryz.prog := Flt.of_run (tabC_ok entries_ok) 3000 seatFl seatOk eKnown rfl rfl (by kernel_rfl)
theorem law10 (H : Hp) (args : List Value) (_ : Tryz.prog.globals.size ≤ H.next) (h : RdArgs Tryz.prog H Tryz.f10.params.toList args) : SCall Tryz.prog 10 args H (fun e _ => e = .ret (.bool true)) := by
  replace h : RdArgs Tryz.prog H [] args := h
  obtain rfl := h.nil_inv
  exact (known_ok H).mono fun e H' ⟨v, h1, _, h2⟩ => by rw [h1, h2]; rfl
end Go.Proofs.YtppedainpmjbmaaGreatDoor
