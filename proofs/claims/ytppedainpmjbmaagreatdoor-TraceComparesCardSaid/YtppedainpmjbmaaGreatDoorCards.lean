/-
  DERIVED. GIVEN WITH THE SEED: THE CARDS: each row of YtppedainpmjbmaaGreatDoorRows.lean that lists a variable, with what it lists TIED to the program's text (the seventh form; the later family's looks); each row that meets fmt, with fmt's text TOLD by the authors' own Lean function (tested against real Go, not proved from fmt's source: count such statements apart). THE CARD IS WHAT COUNTS. Prove the row's statement (the work); the ties are given (YtppedainpmjbmaaGreatDoorTie.lean); close each card by the builder's one call (the guide's Derived/Test/ToyasCard.lean, 'card_holds'). Laid BY PROGRAM, IN A SANDBOX (cutbox-door.mjs). By AI agents, Wed Nov 11 2026. No macro, syntax, notation, axiom, sorry.
-/
import Derived.Test.YtppedainpmjbmaaGreatDoorRows
import GoSem.ClaimSeven
namespace Go.Proofs.YtppedainpmjbmaaGreatDoor
namespace Rows

/-- THE TIED CARD OF 'tipstafflaw38.TraceParses'. -/
def traceParsesCard : Claim7 := { stood := { row := traceParsesRow, standIns := [], harness := (true, "7d0a360de51f2e8490d36ba5c918cf2f347f6869ab77f92239b95ee3a8996fba"), looks := true }, kinds := [], alts := [], laidByText := true, laidKinds := [.data, .data, .data, .data, .sentinel, .sentinel, .pinned], laidTests := true, laidLooks := .later }
def TraceParsesCardSaid : Prop := Claim7.holds Tryz.pinned (.plain (OpenSpec.ofChange traceParsesSpec)) traceParsesCard

/-- THE TIED CARD OF 'tipstafflaw38.TraceBack'. -/
def traceBackCard : Claim7 := { stood := { row := traceBackRow, standIns := [], harness := (true, "7d0a360de51f2e8490d36ba5c918cf2f347f6869ab77f92239b95ee3a8996fba"), looks := true }, kinds := [], alts := [], laidByText := true, laidKinds := [.data, .data, .data, .data, .sentinel, .sentinel, .pinned], laidTests := true, laidLooks := .later }
def TraceBackCardSaid : Prop := Claim7.holds Tryz.pinned (.plain (OpenSpec.ofChange traceBackSpec)) traceBackCard

/-- THE TIED CARD OF 'tipstafflaw38.TraceAgain'. -/
def traceAgainCard : Claim7 := { stood := { row := traceAgainRow, standIns := [], harness := (true, "7d0a360de51f2e8490d36ba5c918cf2f347f6869ab77f92239b95ee3a8996fba"), looks := true }, kinds := [], alts := [], laidByText := true, laidKinds := [.data, .data, .data, .data, .sentinel, .sentinel, .pinned], laidTests := true, laidLooks := .later }
def TraceAgainCardSaid : Prop := Claim7.holds Tryz.pinned (.plain (OpenSpec.ofChange traceAgainSpec)) traceAgainCard

/-- THE TIED CARD OF 'tipstafflaw38.TraceTexts'. -/
def traceTextsCard : Claim7 := { stood := { row := traceTextsRow, standIns := [], harness := (true, "7d0a360de51f2e8490d36ba5c918cf2f347f6869ab77f92239b95ee3a8996fba"), looks := true }, kinds := [], alts := [], laidByText := true, laidKinds := [.data, .data, .data, .data, .sentinel, .sentinel, .pinned], laidTests := true, laidLooks := .later }
def TraceTextsCardSaid : Prop := Claim7.holds Tryz.pinned (.plain (OpenSpec.ofChange traceTextsSpec)) traceTextsCard

/-- THE TIED CARD OF 'tipstafflaw38.TraceParts'. -/
def tracePartsCard : Claim7 := { stood := { row := tracePartsRow, standIns := [], harness := (true, "7d0a360de51f2e8490d36ba5c918cf2f347f6869ab77f92239b95ee3a8996fba"), looks := true }, kinds := [], alts := [], laidByText := true, laidKinds := [.data, .data, .data, .data, .sentinel, .sentinel, .pinned], laidTests := true, laidLooks := .later }
def TracePartsCardSaid : Prop := Claim7.holds Tryz.pinned (.plain (OpenSpec.ofChange tracePartsSpec)) tracePartsCard

/-- THE TIED CARD OF 'tipstafflaw38.TraceCompares'. -/
def traceComparesCard : Claim7 := { stood := { row := traceComparesRow, standIns := [], harness := (true, "7d0a360de51f2e8490d36ba5c918cf2f347f6869ab77f92239b95ee3a8996fba"), looks := true }, kinds := [], alts := [], laidByText := true, laidKinds := [.data, .data, .data, .data, .sentinel, .sentinel, .pinned], laidTests := true, laidLooks := .later }
def TraceComparesCardSaid : Prop := Claim7.holds Tryz.pinned (.plain (OpenSpec.ofChange traceComparesSpec)) traceComparesCard

/-- THE TIED CARD OF 'tipstafflaw38.TraceFirst'. -/
def traceFirstCard : Claim7 := { stood := { row := traceFirstRow, standIns := [], harness := (true, "7d0a360de51f2e8490d36ba5c918cf2f347f6869ab77f92239b95ee3a8996fba"), looks := true }, kinds := [], alts := [], laidByText := true, laidKinds := [.data, .data, .data, .data, .sentinel, .sentinel, .pinned], laidTests := true, laidLooks := .later }
def TraceFirstCardSaid : Prop := Claim7.holds Tryz.pinned (.plain (OpenSpec.ofChange traceFirstSpec)) traceFirstCard

/-- THE TIED CARD OF 'tipstafflaw38.TraceKnown'. -/
def traceKnownCard : Claim7 := { stood := { row := traceKnownRow, standIns := [], harness := (true, "7d0a360de51f2e8490d36ba5c918cf2f347f6869ab77f92239b95ee3a8996fba"), looks := true }, kinds := [], alts := [], laidByText := true, laidKinds := [.data, .data, .data, .data, .sentinel, .sentinel, .pinned], laidTests := true, laidLooks := .later }
def TraceKnownCardSaid : Prop := Claim7.holds Tryz.pinned (.plain (OpenSpec.ofChange traceKnownSpec)) traceKnownCard

/-- THE SECOND FORM's CARD OF 'tipstafflaw38.TraceParses'. -/
def traceParsesUptoCard : Claim7 := { stood := { row := traceParsesUptoRow, standIns := [], harness := (true, "7d0a360de51f2e8490d36ba5c918cf2f347f6869ab77f92239b95ee3a8996fba"), looks := true }, kinds := [], alts := [], laidByText := true, laidKinds := [.data, .data, .data, .data, .sentinel, .sentinel, .pinned], laidTests := true, laidLooks := .later }
def TraceParsesUptoCardSaid : Prop := Claim7.holds Tryz.pinned (.plain (OpenSpec.upto traceParsesSpec)) traceParsesUptoCard

/-- THE SECOND FORM's CARD OF 'tipstafflaw38.TraceBack'. -/
def traceBackUptoCard : Claim7 := { stood := { row := traceBackUptoRow, standIns := [], harness := (true, "7d0a360de51f2e8490d36ba5c918cf2f347f6869ab77f92239b95ee3a8996fba"), looks := true }, kinds := [], alts := [], laidByText := true, laidKinds := [.data, .data, .data, .data, .sentinel, .sentinel, .pinned], laidTests := true, laidLooks := .later }
def TraceBackUptoCardSaid : Prop := Claim7.holds Tryz.pinned (.plain (OpenSpec.upto traceBackSpec)) traceBackUptoCard

/-- THE SECOND FORM's CARD OF 'tipstafflaw38.TraceAgain'. -/
def traceAgainUptoCard : Claim7 := { stood := { row := traceAgainUptoRow, standIns := [], harness := (true, "7d0a360de51f2e8490d36ba5c918cf2f347f6869ab77f92239b95ee3a8996fba"), looks := true }, kinds := [], alts := [], laidByText := true, laidKinds := [.data, .data, .data, .data, .sentinel, .sentinel, .pinned], laidTests := true, laidLooks := .later }
def TraceAgainUptoCardSaid : Prop := Claim7.holds Tryz.pinned (.plain (OpenSpec.upto traceAgainSpec)) traceAgainUptoCard

/-- THE SECOND FORM's CARD OF 'tipstafflaw38.TraceTexts'. -/
def traceTextsUptoCard : Claim7 := { stood := { row := traceTextsUptoRow, standIns := [], harness := (true, "7d0a360de51f2e8490d36ba5c918cf2f347f6869ab77f92239b95ee3a8996fba"), looks := true }, kinds := [], alts := [], laidByText := true, laidKinds := [.data, .data, .data, .data, .sentinel, .sentinel, .pinned], laidTests := true, laidLooks := .later }
def TraceTextsUptoCardSaid : Prop := Claim7.holds Tryz.pinned (.plain (OpenSpec.upto traceTextsSpec)) traceTextsUptoCard

/-- THE SECOND FORM's CARD OF 'tipstafflaw38.TraceParts'. -/
def tracePartsUptoCard : Claim7 := { stood := { row := tracePartsUptoRow, standIns := [], harness := (true, "7d0a360de51f2e8490d36ba5c918cf2f347f6869ab77f92239b95ee3a8996fba"), looks := true }, kinds := [], alts := [], laidByText := true, laidKinds := [.data, .data, .data, .data, .sentinel, .sentinel, .pinned], laidTests := true, laidLooks := .later }
def TracePartsUptoCardSaid : Prop := Claim7.holds Tryz.pinned (.plain (OpenSpec.upto tracePartsSpec)) tracePartsUptoCard

/-- THE SECOND FORM's CARD OF 'tipstafflaw38.TraceCompares'. -/
def traceComparesUptoCard : Claim7 := { stood := { row := traceComparesUptoRow, standIns := [], harness := (true, "7d0a360de51f2e8490d36ba5c918cf2f347f6869ab77f92239b95ee3a8996fba"), looks := true }, kinds := [], alts := [], laidByText := true, laidKinds := [.data, .data, .data, .data, .sentinel, .sentinel, .pinned], laidTests := true, laidLooks := .later }
def TraceComparesUptoCardSaid : Prop := Claim7.holds Tryz.pinned (.plain (OpenSpec.upto traceComparesSpec)) traceComparesUptoCard

/-- THE SECOND FORM's CARD OF 'tipstafflaw38.TraceFirst'. -/
def traceFirstUptoCard : Claim7 := { stood := { row := traceFirstUptoRow, standIns := [], harness := (true, "7d0a360de51f2e8490d36ba5c918cf2f347f6869ab77f92239b95ee3a8996fba"), looks := true }, kinds := [], alts := [], laidByText := true, laidKinds := [.data, .data, .data, .data, .sentinel, .sentinel, .pinned], laidTests := true, laidLooks := .later }
def TraceFirstUptoCardSaid : Prop := Claim7.holds Tryz.pinned (.plain (OpenSpec.upto traceFirstSpec)) traceFirstUptoCard

/-- THE SECOND FORM's CARD OF 'tipstafflaw38.TraceKnown'. -/
def traceKnownUptoCard : Claim7 := { stood := { row := traceKnownUptoRow, standIns := [], harness := (true, "7d0a360de51f2e8490d36ba5c918cf2f347f6869ab77f92239b95ee3a8996fba"), looks := true }, kinds := [], alts := [], laidByText := true, laidKinds := [.data, .data, .data, .data, .sentinel, .sentinel, .pinned], laidTests := true, laidLooks := .later }
def TraceKnownUptoCardSaid : Prop := Claim7.holds Tryz.pinned (.plain (OpenSpec.upto traceKnownSpec)) traceKnownUptoCard
end Rows
end Go.Proofs.YtppedainpmjbmaaGreatDoor
