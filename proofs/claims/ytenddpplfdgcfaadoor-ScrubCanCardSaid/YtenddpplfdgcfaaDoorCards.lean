/-
  DERIVED. GIVEN WITH THE SEED: THE CARDS: each row of YtenddpplfdgcfaaDoorRows.lean that lists a variable, with what it lists TIED to the program's text (the seventh form; the later family's looks); each row that meets fmt, with fmt's text TOLD by the authors' own Lean function (tested against real Go, not proved from fmt's source: count such statements apart). THE CARD IS WHAT COUNTS. Prove the row's statement (the work); the ties are given (YtenddpplfdgcfaaDoorTie.lean); close each card by the builder's one call (the guide's Derived/Test/ToyasCard.lean, 'card_holds'). Laid BY PROGRAM, IN A SANDBOX (cutbox-door.mjs). By AI agents, Wed Nov 11 2026. No macro, syntax, notation, axiom, sorry.
-/
import Derived.Test.YtenddpplfdgcfaaDoorRows
import GoSem.ClaimSeven
namespace Go.Proofs.YtenddpplfdgcfaaDoor
namespace Rows

/-- THE TIED CARD OF 'tipstafflaw32.ScrubTexts'. -/
def scrubTextsCard : Claim7 := { stood := { row := scrubTextsRow, standIns := [], harness := (true, "ba33551d7bb43554551148095fc2a627f2d33f4aa63723fbf3c19795df44e0c7"), looks := true }, kinds := [], alts := [], laidByText := true, laidKinds := [.data, .data, .data, .sentinel, .sentinel, .pinned], laidTests := true, laidLooks := .later }
def ScrubTextsCardSaid : Prop := Claim7.holds Tryd.pinned (.plain (OpenSpec.ofChange scrubTextsSpec)) scrubTextsCard

/-- THE TIED CARD OF 'tipstafflaw32.ScrubCan'. -/
def scrubCanCard : Claim7 := { stood := { row := scrubCanRow, standIns := [], harness := (true, "ba33551d7bb43554551148095fc2a627f2d33f4aa63723fbf3c19795df44e0c7"), looks := true }, kinds := [], alts := [], laidByText := true, laidKinds := [.data, .data, .data, .sentinel, .sentinel, .pinned], laidTests := true, laidLooks := .later }
def ScrubCanCardSaid : Prop := Claim7.holds Tryd.pinned (.plain (OpenSpec.ofChange scrubCanSpec)) scrubCanCard

/-- THE TIED CARD OF 'tipstafflaw32.ScrubKnown'. -/
def scrubKnownCard : Claim7 := { stood := { row := scrubKnownRow, standIns := [], harness := (true, "ba33551d7bb43554551148095fc2a627f2d33f4aa63723fbf3c19795df44e0c7"), looks := true }, kinds := [], alts := [], laidByText := true, laidKinds := [.data, .data, .data, .sentinel, .sentinel, .pinned], laidTests := true, laidLooks := .later }
def ScrubKnownCardSaid : Prop := Claim7.holds Tryd.pinned (.plain (OpenSpec.ofChange scrubKnownSpec)) scrubKnownCard

/-- THE SECOND FORM's CARD OF 'tipstafflaw32.ScrubTexts'. -/
def scrubTextsUptoCard : Claim7 := { stood := { row := scrubTextsUptoRow, standIns := [], harness := (true, "ba33551d7bb43554551148095fc2a627f2d33f4aa63723fbf3c19795df44e0c7"), looks := true }, kinds := [], alts := [], laidByText := true, laidKinds := [.data, .data, .data, .sentinel, .sentinel, .pinned], laidTests := true, laidLooks := .later }
def ScrubTextsUptoCardSaid : Prop := Claim7.holds Tryd.pinned (.plain (OpenSpec.upto scrubTextsSpec)) scrubTextsUptoCard

/-- THE SECOND FORM's CARD OF 'tipstafflaw32.ScrubCan'. -/
def scrubCanUptoCard : Claim7 := { stood := { row := scrubCanUptoRow, standIns := [], harness := (true, "ba33551d7bb43554551148095fc2a627f2d33f4aa63723fbf3c19795df44e0c7"), looks := true }, kinds := [], alts := [], laidByText := true, laidKinds := [.data, .data, .data, .sentinel, .sentinel, .pinned], laidTests := true, laidLooks := .later }
def ScrubCanUptoCardSaid : Prop := Claim7.holds Tryd.pinned (.plain (OpenSpec.upto scrubCanSpec)) scrubCanUptoCard

/-- THE SECOND FORM's CARD OF 'tipstafflaw32.ScrubKnown'. -/
def scrubKnownUptoCard : Claim7 := { stood := { row := scrubKnownUptoRow, standIns := [], harness := (true, "ba33551d7bb43554551148095fc2a627f2d33f4aa63723fbf3c19795df44e0c7"), looks := true }, kinds := [], alts := [], laidByText := true, laidKinds := [.data, .data, .data, .sentinel, .sentinel, .pinned], laidTests := true, laidLooks := .later }
def ScrubKnownUptoCardSaid : Prop := Claim7.holds Tryd.pinned (.plain (OpenSpec.upto scrubKnownSpec)) scrubKnownUptoCard
end Rows
end Go.Proofs.YtenddpplfdgcfaaDoor
