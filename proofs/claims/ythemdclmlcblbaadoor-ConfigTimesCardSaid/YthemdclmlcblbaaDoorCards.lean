/-
  DERIVED. GIVEN WITH THE SEED: THE CARDS: each row of YthemdclmlcblbaaDoorRows.lean that lists a variable, with what it lists TIED to the program's text (the seventh form; the later family's looks); each row that meets fmt, with fmt's text TOLD by the authors' own Lean function (tested against real Go, not proved from fmt's source: count such statements apart). THE CARD IS WHAT COUNTS. Prove the row's statement (the work); the ties are given (YthemdclmlcblbaaDoorTie.lean); close each card by the builder's one call (the guide's Derived/Test/ToyasCard.lean, 'card_holds'). Laid BY PROGRAM, IN A SANDBOX (cutbox-door.mjs). By AI agents, Wed Nov 11 2026. No macro, syntax, notation, axiom, sorry.
-/
import Derived.Test.YthemdclmlcblbaaDoorRows
import GoSem.ClaimSeven
namespace Go.Proofs.YthemdclmlcblbaaDoor
namespace Rows

/-- THE TIED CARD OF 'tipstafflaw27.ConfigTimes'. -/
def configTimesCard : Claim7 := { stood := { row := configTimesRow, standIns := [], harness := (true, "2616e5f05c0325fe3488679b90427d5dc802debd97847b97aa0c6450199a36d0"), looks := false }, kinds := [], alts := [], laidByText := true, laidKinds := [.data], laidTests := true, laidLooks := .later }
def ConfigTimesCardSaid : Prop := Claim7.holds Tryd.pinned (.plain (OpenSpec.ofChange configTimesSpec)) configTimesCard

/-- THE SECOND FORM's CARD OF 'tipstafflaw27.ConfigTimes'. -/
def configTimesUptoCard : Claim7 := { stood := { row := configTimesUptoRow, standIns := [], harness := (true, "2616e5f05c0325fe3488679b90427d5dc802debd97847b97aa0c6450199a36d0"), looks := false }, kinds := [], alts := [], laidByText := true, laidKinds := [.data], laidTests := true, laidLooks := .later }
def ConfigTimesUptoCardSaid : Prop := Claim7.holds Tryd.pinned (.plain (OpenSpec.upto configTimesSpec)) configTimesUptoCard
end Rows
end Go.Proofs.YthemdclmlcblbaaDoor
