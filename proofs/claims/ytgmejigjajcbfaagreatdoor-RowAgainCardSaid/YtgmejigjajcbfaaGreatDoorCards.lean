/-
  DERIVED. GIVEN WITH THE SEED: THE CARDS: each row of YtgmejigjajcbfaaGreatDoorRows.lean that lists a variable, with what it lists TIED to the program's text (the seventh form; the later family's looks); each row that meets fmt, with fmt's text TOLD by the authors' own Lean function (tested against real Go, not proved from fmt's source: count such statements apart). THE CARD IS WHAT COUNTS. Prove the row's statement (the work); the ties are given (YtgmejigjajcbfaaGreatDoorTie.lean); close each card by the builder's one call (the guide's Derived/Test/ToyasCard.lean, 'card_holds'). Laid BY PROGRAM, IN A SANDBOX (cutbox-door.mjs). By AI agents, Wed Nov 11 2026. No macro, syntax, notation, axiom, sorry.
-/
import Derived.Test.YtgmejigjajcbfaaGreatDoorRows
import GoSem.ClaimSeven
namespace Go.Proofs.YtgmejigjajcbfaaGreatDoor
namespace Rows

/-- THE TIED CARD OF 'tipstafflaw03.RowReads'. -/
def rowReadsCard : Claim7 := { stood := { row := rowReadsRow, standIns := [], harness := (true, "ccbe6b87a3cb77e02972df0d4e9247e017696e615091a2d7963004dddfbd85da"), looks := true }, kinds := [], alts := [], laidByText := true, laidKinds := [.data, .data, .data, .data, .sentinel, .sentinel, .pinned], laidTests := true, laidLooks := .later }
def RowReadsCardSaid : Prop := Claim7.holds Tryz.pinned (.plain (OpenSpec.ofChange rowReadsSpec)) rowReadsCard

/-- THE TIED CARD OF 'tipstafflaw03.RowTexts'. -/
def rowTextsCard : Claim7 := { stood := { row := rowTextsRow, standIns := [], harness := (true, "ccbe6b87a3cb77e02972df0d4e9247e017696e615091a2d7963004dddfbd85da"), looks := true }, kinds := [], alts := [], laidByText := true, laidKinds := [.data, .data, .data, .data, .sentinel, .sentinel, .pinned], laidTests := true, laidLooks := .later }
def RowTextsCardSaid : Prop := Claim7.holds Tryz.pinned (.plain (OpenSpec.ofChange rowTextsSpec)) rowTextsCard

/-- THE TIED CARD OF 'tipstafflaw03.RowWords'. -/
def rowWordsCard : Claim7 := { stood := { row := rowWordsRow, standIns := [], harness := (true, "ccbe6b87a3cb77e02972df0d4e9247e017696e615091a2d7963004dddfbd85da"), looks := true }, kinds := [], alts := [], laidByText := true, laidKinds := [.data, .data, .data, .data, .sentinel, .sentinel, .pinned], laidTests := true, laidLooks := .later }
def RowWordsCardSaid : Prop := Claim7.holds Tryz.pinned (.plain (OpenSpec.ofChange rowWordsSpec)) rowWordsCard

/-- THE TIED CARD OF 'tipstafflaw03.RowWrites'. -/
def rowWritesCard : Claim7 := { stood := { row := rowWritesRow, standIns := [], harness := (true, "ccbe6b87a3cb77e02972df0d4e9247e017696e615091a2d7963004dddfbd85da"), looks := true }, kinds := [], alts := [], laidByText := true, laidKinds := [.data, .data, .data, .data, .sentinel, .sentinel, .pinned], laidTests := true, laidLooks := .later }
def RowWritesCardSaid : Prop := Claim7.holds Tryz.pinned (.plain (OpenSpec.ofChange rowWritesSpec)) rowWritesCard

/-- THE TIED CARD OF 'tipstafflaw03.RowAgain'. -/
def rowAgainCard : Claim7 := { stood := { row := rowAgainRow, standIns := [], harness := (true, "ccbe6b87a3cb77e02972df0d4e9247e017696e615091a2d7963004dddfbd85da"), looks := true }, kinds := [], alts := [], laidByText := true, laidKinds := [.data, .data, .data, .data, .sentinel, .sentinel, .pinned], laidTests := true, laidLooks := .later }
def RowAgainCardSaid : Prop := Claim7.holds Tryz.pinned (.plain (OpenSpec.ofChange rowAgainSpec)) rowAgainCard

/-- THE SECOND FORM's CARD OF 'tipstafflaw03.RowReads'. -/
def rowReadsUptoCard : Claim7 := { stood := { row := rowReadsUptoRow, standIns := [], harness := (true, "ccbe6b87a3cb77e02972df0d4e9247e017696e615091a2d7963004dddfbd85da"), looks := true }, kinds := [], alts := [], laidByText := true, laidKinds := [.data, .data, .data, .data, .sentinel, .sentinel, .pinned], laidTests := true, laidLooks := .later }
def RowReadsUptoCardSaid : Prop := Claim7.holds Tryz.pinned (.plain (OpenSpec.upto rowReadsSpec)) rowReadsUptoCard

/-- THE SECOND FORM's CARD OF 'tipstafflaw03.RowTexts'. -/
def rowTextsUptoCard : Claim7 := { stood := { row := rowTextsUptoRow, standIns := [], harness := (true, "ccbe6b87a3cb77e02972df0d4e9247e017696e615091a2d7963004dddfbd85da"), looks := true }, kinds := [], alts := [], laidByText := true, laidKinds := [.data, .data, .data, .data, .sentinel, .sentinel, .pinned], laidTests := true, laidLooks := .later }
def RowTextsUptoCardSaid : Prop := Claim7.holds Tryz.pinned (.plain (OpenSpec.upto rowTextsSpec)) rowTextsUptoCard

/-- THE SECOND FORM's CARD OF 'tipstafflaw03.RowWords'. -/
def rowWordsUptoCard : Claim7 := { stood := { row := rowWordsUptoRow, standIns := [], harness := (true, "ccbe6b87a3cb77e02972df0d4e9247e017696e615091a2d7963004dddfbd85da"), looks := true }, kinds := [], alts := [], laidByText := true, laidKinds := [.data, .data, .data, .data, .sentinel, .sentinel, .pinned], laidTests := true, laidLooks := .later }
def RowWordsUptoCardSaid : Prop := Claim7.holds Tryz.pinned (.plain (OpenSpec.upto rowWordsSpec)) rowWordsUptoCard

/-- THE SECOND FORM's CARD OF 'tipstafflaw03.RowWrites'. -/
def rowWritesUptoCard : Claim7 := { stood := { row := rowWritesUptoRow, standIns := [], harness := (true, "ccbe6b87a3cb77e02972df0d4e9247e017696e615091a2d7963004dddfbd85da"), looks := true }, kinds := [], alts := [], laidByText := true, laidKinds := [.data, .data, .data, .data, .sentinel, .sentinel, .pinned], laidTests := true, laidLooks := .later }
def RowWritesUptoCardSaid : Prop := Claim7.holds Tryz.pinned (.plain (OpenSpec.upto rowWritesSpec)) rowWritesUptoCard

/-- THE SECOND FORM's CARD OF 'tipstafflaw03.RowAgain'. -/
def rowAgainUptoCard : Claim7 := { stood := { row := rowAgainUptoRow, standIns := [], harness := (true, "ccbe6b87a3cb77e02972df0d4e9247e017696e615091a2d7963004dddfbd85da"), looks := true }, kinds := [], alts := [], laidByText := true, laidKinds := [.data, .data, .data, .data, .sentinel, .sentinel, .pinned], laidTests := true, laidLooks := .later }
def RowAgainUptoCardSaid : Prop := Claim7.holds Tryz.pinned (.plain (OpenSpec.upto rowAgainSpec)) rowAgainUptoCard
end Rows
end Go.Proofs.YtgmejigjajcbfaaGreatDoor
