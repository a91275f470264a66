/-
  DERIVED. GIVEN WITH THE SEED: THE CARDS: each row of YtgmejigjajcbfaaDoorRows.lean that lists a variable, with what it lists TIED to the program's text (the seventh form; the later family's looks); each row that meets fmt, with fmt's text TOLD by the authors' own Lean function (tested against real Go, not proved from fmt's source: count such statements apart). THE CARD IS WHAT COUNTS. Prove the row's statement (the work); the ties are given (YtgmejigjajcbfaaDoorTie.lean); close each card by the builder's one call (the guide's Derived/Test/ToyasCard.lean, 'card_holds'). Laid BY PROGRAM, IN A SANDBOX (cutbox-door.mjs). By AI agents, Wed Nov 11 2026. No macro, syntax, notation, axiom, sorry.
-/
import Derived.Test.YtgmejigjajcbfaaDoorRows
import GoSem.ClaimSeven
namespace Go.Proofs.YtgmejigjajcbfaaDoor
namespace Rows

/-- THE TIED CARD OF 'tipstafflaw03.RowBlanks'. -/
def rowBlanksCard : Claim7 := { stood := { row := rowBlanksRow, standIns := [], harness := (true, "afd0cc8e6d90dcb69d60fe4e0b3faefc1d0ba70502126795c485067dc2ef4f2f"), looks := true }, kinds := [], alts := [], laidByText := true, laidKinds := [.data, .data, .data, .data, .sentinel, .sentinel, .pinned], laidTests := true, laidLooks := .later }
def RowBlanksCardSaid : Prop := Claim7.holds Tryd.pinned (.plain (OpenSpec.ofChange rowBlanksSpec)) rowBlanksCard

/-- THE TIED CARD OF 'tipstafflaw03.RowKnown'. -/
def rowKnownCard : Claim7 := { stood := { row := rowKnownRow, standIns := [], harness := (true, "afd0cc8e6d90dcb69d60fe4e0b3faefc1d0ba70502126795c485067dc2ef4f2f"), looks := true }, kinds := [], alts := [], laidByText := true, laidKinds := [.data, .data, .data, .data, .sentinel, .sentinel, .pinned], laidTests := true, laidLooks := .later }
def RowKnownCardSaid : Prop := Claim7.holds Tryd.pinned (.plain (OpenSpec.ofChange rowKnownSpec)) rowKnownCard

/-- THE TIED CARD OF 'tipstafflaw03.RowBack'. -/
def rowBackCard : Claim7 := { stood := { row := rowBackRow, standIns := [], harness := (true, "afd0cc8e6d90dcb69d60fe4e0b3faefc1d0ba70502126795c485067dc2ef4f2f"), looks := true }, kinds := [], alts := [], laidByText := true, laidKinds := [.data, .data, .data, .data, .sentinel, .sentinel, .pinned], laidTests := true, laidLooks := .later }
def RowBackCardSaid : Prop := Claim7.holds Tryd.pinned (.plain (OpenSpec.ofChange rowBackSpec)) rowBackCard

/-- THE SECOND FORM's CARD OF 'tipstafflaw03.RowBlanks'. -/
def rowBlanksUptoCard : Claim7 := { stood := { row := rowBlanksUptoRow, standIns := [], harness := (true, "afd0cc8e6d90dcb69d60fe4e0b3faefc1d0ba70502126795c485067dc2ef4f2f"), looks := true }, kinds := [], alts := [], laidByText := true, laidKinds := [.data, .data, .data, .data, .sentinel, .sentinel, .pinned], laidTests := true, laidLooks := .later }
def RowBlanksUptoCardSaid : Prop := Claim7.holds Tryd.pinned (.plain (OpenSpec.upto rowBlanksSpec)) rowBlanksUptoCard

/-- THE SECOND FORM's CARD OF 'tipstafflaw03.RowKnown'. -/
def rowKnownUptoCard : Claim7 := { stood := { row := rowKnownUptoRow, standIns := [], harness := (true, "afd0cc8e6d90dcb69d60fe4e0b3faefc1d0ba70502126795c485067dc2ef4f2f"), looks := true }, kinds := [], alts := [], laidByText := true, laidKinds := [.data, .data, .data, .data, .sentinel, .sentinel, .pinned], laidTests := true, laidLooks := .later }
def RowKnownUptoCardSaid : Prop := Claim7.holds Tryd.pinned (.plain (OpenSpec.upto rowKnownSpec)) rowKnownUptoCard

/-- THE SECOND FORM's CARD OF 'tipstafflaw03.RowBack'. -/
def rowBackUptoCard : Claim7 := { stood := { row := rowBackUptoRow, standIns := [], harness := (true, "afd0cc8e6d90dcb69d60fe4e0b3faefc1d0ba70502126795c485067dc2ef4f2f"), looks := true }, kinds := [], alts := [], laidByText := true, laidKinds := [.data, .data, .data, .data, .sentinel, .sentinel, .pinned], laidTests := true, laidLooks := .later }
def RowBackUptoCardSaid : Prop := Claim7.holds Tryd.pinned (.plain (OpenSpec.upto rowBackSpec)) rowBackUptoCard
end Rows
end Go.Proofs.YtgmejigjajcbfaaDoor
