/-
  DERIVED. GIVEN WITH THE SEED: THE CARDS: each row of YtbdndhodggdhkaaDoorRows.lean that lists a variable, with what it lists TIED to the program's text (the seventh form; the later family's looks); each row that meets fmt, with fmt's text TOLD by the authors' own Lean function (tested against real Go, not proved from fmt's source: count such statements apart). THE CARD IS WHAT COUNTS. Prove the row's statement (the work); the ties are given (YtbdndhodggdhkaaDoorTie.lean); close each card by the builder's one call (the guide's Derived/Test/ToyasCard.lean, 'card_holds'). Laid BY PROGRAM, IN A SANDBOX (cutbox-door.mjs). By AI agents, Wed Nov 11 2026. No macro, syntax, notation, axiom, sorry.
-/
import Derived.Test.YtbdndhodggdhkaaDoorRows
import GoSem.ClaimSeven
namespace Go.Proofs.YtbdndhodggdhkaaDoor
namespace Rows

/-- THE TIED CARD OF 'tipstafflaw20.CallLists'. -/
def callListsCard : Claim7 := { stood := { row := callListsRow, standIns := [], harness := (true, "2d78f6f14e4cf32832f586970c603b78f4511dc4039841ee31237e5ad4ac1837"), looks := true }, kinds := [], alts := [], laidByText := true, laidKinds := [.data, .data, .data, .sentinel, .sentinel], laidTests := true, laidLooks := .later }
def CallListsCardSaid : Prop := Claim7.holds Tryd.pinned (.plain (OpenSpec.ofChange callListsSpec)) callListsCard

/-- THE TIED CARD OF 'tipstafflaw20.CallParses'. -/
def callParsesCard : Claim7 := { stood := { row := callParsesRow, standIns := [], harness := (true, "2d78f6f14e4cf32832f586970c603b78f4511dc4039841ee31237e5ad4ac1837"), looks := true }, kinds := [], alts := [], laidByText := true, laidKinds := [.data, .data, .data, .sentinel, .sentinel], laidTests := true, laidLooks := .later }
def CallParsesCardSaid : Prop := Claim7.holds Tryd.pinned (.plain (OpenSpec.ofChange callParsesSpec)) callParsesCard

/-- THE TIED CARD OF 'tipstafflaw20.CallKnown'. -/
def callKnownCard : Claim7 := { stood := { row := callKnownRow, standIns := [], harness := (true, "2d78f6f14e4cf32832f586970c603b78f4511dc4039841ee31237e5ad4ac1837"), looks := true }, kinds := [], alts := [], laidByText := true, laidKinds := [.data, .data, .data, .sentinel, .sentinel], laidTests := true, laidLooks := .later }
def CallKnownCardSaid : Prop := Claim7.holds Tryd.pinned (.plain (OpenSpec.ofChange callKnownSpec)) callKnownCard

/-- THE TIED CARD OF 'tipstafflaw20.CallTexts'. -/
def callTextsCard : Claim7 := { stood := { row := callTextsRow, standIns := [], harness := (true, "2d78f6f14e4cf32832f586970c603b78f4511dc4039841ee31237e5ad4ac1837"), looks := true }, kinds := [], alts := [], laidByText := true, laidKinds := [.data, .data, .data, .sentinel, .sentinel], laidTests := true, laidLooks := .later }
def CallTextsCardSaid : Prop := Claim7.holds Tryd.pinned (.plain (OpenSpec.ofChange callTextsSpec)) callTextsCard

/-- THE TIED CARD OF 'tipstafflaw20.CallOnes'. -/
def callOnesCard : Claim7 := { stood := { row := callOnesRow, standIns := [], harness := (true, "2d78f6f14e4cf32832f586970c603b78f4511dc4039841ee31237e5ad4ac1837"), looks := true }, kinds := [], alts := [], laidByText := true, laidKinds := [.data, .data, .data, .sentinel, .sentinel], laidTests := true, laidLooks := .later }
def CallOnesCardSaid : Prop := Claim7.holds Tryd.pinned (.plain (OpenSpec.ofChange callOnesSpec)) callOnesCard

/-- THE TIED CARD OF 'tipstafflaw20.CallOrder'. -/
def callOrderCard : Claim7 := { stood := { row := callOrderRow, standIns := [], harness := (true, "2d78f6f14e4cf32832f586970c603b78f4511dc4039841ee31237e5ad4ac1837"), looks := true }, kinds := [], alts := [], laidByText := true, laidKinds := [.data, .data, .data, .sentinel, .sentinel], laidTests := true, laidLooks := .later }
def CallOrderCardSaid : Prop := Claim7.holds Tryd.pinned (.plain (OpenSpec.ofChange callOrderSpec)) callOrderCard

/-- THE TIED CARD OF 'tipstafflaw20.CallSorted'. -/
def callSortedCard : Claim7 := { stood := { row := callSortedRow, standIns := [], harness := (true, "2d78f6f14e4cf32832f586970c603b78f4511dc4039841ee31237e5ad4ac1837"), looks := true }, kinds := [], alts := [], laidByText := true, laidKinds := [.data, .data, .data, .sentinel, .sentinel], laidTests := true, laidLooks := .later }
def CallSortedCardSaid : Prop := Claim7.holds Tryd.pinned (.plain (OpenSpec.ofChange callSortedSpec)) callSortedCard

/-- THE SECOND FORM's CARD OF 'tipstafflaw20.CallLists'. -/
def callListsUptoCard : Claim7 := { stood := { row := callListsUptoRow, standIns := [], harness := (true, "2d78f6f14e4cf32832f586970c603b78f4511dc4039841ee31237e5ad4ac1837"), looks := true }, kinds := [], alts := [], laidByText := true, laidKinds := [.data, .data, .data, .sentinel, .sentinel], laidTests := true, laidLooks := .later }
def CallListsUptoCardSaid : Prop := Claim7.holds Tryd.pinned (.plain (OpenSpec.upto callListsSpec)) callListsUptoCard

/-- THE SECOND FORM's CARD OF 'tipstafflaw20.CallParses'. -/
def callParsesUptoCard : Claim7 := { stood := { row := callParsesUptoRow, standIns := [], harness := (true, "2d78f6f14e4cf32832f586970c603b78f4511dc4039841ee31237e5ad4ac1837"), looks := true }, kinds := [], alts := [], laidByText := true, laidKinds := [.data, .data, .data, .sentinel, .sentinel], laidTests := true, laidLooks := .later }
def CallParsesUptoCardSaid : Prop := Claim7.holds Tryd.pinned (.plain (OpenSpec.upto callParsesSpec)) callParsesUptoCard

/-- THE SECOND FORM's CARD OF 'tipstafflaw20.CallKnown'. -/
def callKnownUptoCard : Claim7 := { stood := { row := callKnownUptoRow, standIns := [], harness := (true, "2d78f6f14e4cf32832f586970c603b78f4511dc4039841ee31237e5ad4ac1837"), looks := true }, kinds := [], alts := [], laidByText := true, laidKinds := [.data, .data, .data, .sentinel, .sentinel], laidTests := true, laidLooks := .later }
def CallKnownUptoCardSaid : Prop := Claim7.holds Tryd.pinned (.plain (OpenSpec.upto callKnownSpec)) callKnownUptoCard

/-- THE SECOND FORM's CARD OF 'tipstafflaw20.CallTexts'. -/
def callTextsUptoCard : Claim7 := { stood := { row := callTextsUptoRow, standIns := [], harness := (true, "2d78f6f14e4cf32832f586970c603b78f4511dc4039841ee31237e5ad4ac1837"), looks := true }, kinds := [], alts := [], laidByText := true, laidKinds := [.data, .data, .data, .sentinel, .sentinel], laidTests := true, laidLooks := .later }
def CallTextsUptoCardSaid : Prop := Claim7.holds Tryd.pinned (.plain (OpenSpec.upto callTextsSpec)) callTextsUptoCard

/-- THE SECOND FORM's CARD OF 'tipstafflaw20.CallOnes'. -/
def callOnesUptoCard : Claim7 := { stood := { row := callOnesUptoRow, standIns := [], harness := (true, "2d78f6f14e4cf32832f586970c603b78f4511dc4039841ee31237e5ad4ac1837"), looks := true }, kinds := [], alts := [], laidByText := true, laidKinds := [.data, .data, .data, .sentinel, .sentinel], laidTests := true, laidLooks := .later }
def CallOnesUptoCardSaid : Prop := Claim7.holds Tryd.pinned (.plain (OpenSpec.upto callOnesSpec)) callOnesUptoCard

/-- THE SECOND FORM's CARD OF 'tipstafflaw20.CallOrder'. -/
def callOrderUptoCard : Claim7 := { stood := { row := callOrderUptoRow, standIns := [], harness := (true, "2d78f6f14e4cf32832f586970c603b78f4511dc4039841ee31237e5ad4ac1837"), looks := true }, kinds := [], alts := [], laidByText := true, laidKinds := [.data, .data, .data, .sentinel, .sentinel], laidTests := true, laidLooks := .later }
def CallOrderUptoCardSaid : Prop := Claim7.holds Tryd.pinned (.plain (OpenSpec.upto callOrderSpec)) callOrderUptoCard

/-- THE SECOND FORM's CARD OF 'tipstafflaw20.CallSorted'. -/
def callSortedUptoCard : Claim7 := { stood := { row := callSortedUptoRow, standIns := [], harness := (true, "2d78f6f14e4cf32832f586970c603b78f4511dc4039841ee31237e5ad4ac1837"), looks := true }, kinds := [], alts := [], laidByText := true, laidKinds := [.data, .data, .data, .sentinel, .sentinel], laidTests := true, laidLooks := .later }
def CallSortedUptoCardSaid : Prop := Claim7.holds Tryd.pinned (.plain (OpenSpec.upto callSortedSpec)) callSortedUptoCard
end Rows
end Go.Proofs.YtbdndhodggdhkaaDoor
