import Derived.Test.YtgmejigjajcbfaaDoorD63
import Derived.Test.YtgmejigjajcbfaaDoorChecked
set_option linter.unusedVariables false
namespace Go.Proofs.YtgmejigjajcbfaaDoor
open Go Go.Det Go.RowKit
/-! RowKnown, by a run of the abstract machine in the kernel -/
theorem seatOk : (seatCells.all fun p => Nat.blt p.1 Tryd.prog.globals.size) = true := by kernel_rfl
theorem seatFl : seatFlat = true := by kernel_rfl
theorem known_run : (callE Tryd.prog (evC2 Tryd.prog 2000) 4 [] (HG Tryd.prog.globals.size)).map (fun p => p.1) = some (.ret (.bool true)) := by kernel_rfl
theorem known4 (H : Hp) : SCall Tryd.prog 4 [] H (Ret fun v' H' => H' = H ∧ v' = .bool true) := SCall.closed2 2000 seatFl seatOk known_run rfl rfl H
theorem law4 (H : Hp) (args : List Value) (_ : Tryd.prog.globals.size ≤ H.next) (h : RdArgs Tryd.prog H Tryd.f4.params.toList args) : SCall Tryd.prog 4 args H (fun e _ => e = .ret (.bool true)) := by
  replace h : RdArgs Tryd.prog H [] args := h
  obtain rfl := h.nil_inv
  exact (known4 H).mono fun e H' ⟨v, h1, _, h2⟩ => by rw [h1, h2]
end Go.Proofs.YtgmejigjajcbfaaDoor
