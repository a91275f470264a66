/-
  DERIVED. GIVEN WITH THE SEED: THE CARDS: each row of YtiodokcfjgmpaaaGreatDoorRows.lean that lists a variable, with what it lists TIED to the program's text (the seventh form; the later family's looks); each row that meets fmt, with fmt's text TOLD by the authors' own Lean function (tested against real Go, not proved from fmt's source: count such statements apart). THE CARD IS WHAT COUNTS. Prove the row's statement (the work); the ties are given (YtiodokcfjgmpaaaGreatDoorTie.lean); close each card by the builder's one call (the guide's Derived/Test/ToyasCard.lean, 'card_holds'). Laid BY PROGRAM, IN A SANDBOX (cutbox-door.mjs). By AI agents, Wed Nov 11 2026. No macro, syntax, notation, axiom, sorry.
-/
import Derived.Test.YtiodokcfjgmpaaaGreatDoorRows
import GoSem.ClaimSeven
namespace Go.Proofs.YtiodokcfjgmpaaaGreatDoor
namespace Rows

/-- THE TIED CARD OF 'tipstafflaw39.ProductParts'. -/
def productPartsCard : Claim7 := { stood := { row := productPartsRow, standIns := [], harness := (true, "70c6139d5ac87c8b21b48831b2cec2859e6bc895496b28f8134313cfbdccc23d"), looks := true }, kinds := [], alts := [], laidByText := true, laidKinds := [.funcs, .handle], laidTests := true, laidLooks := .later }
def ProductPartsCardSaid : Prop := Claim7.holds Tryz.pinned (.plain (OpenSpec.ofChange productPartsSpec)) productPartsCard

/-- THE TIED CARD OF 'tipstafflaw39.ProductDiffers'. -/
def productDiffersCard : Claim7 := { stood := { row := productDiffersRow, standIns := [], harness := (true, "70c6139d5ac87c8b21b48831b2cec2859e6bc895496b28f8134313cfbdccc23d"), looks := true }, kinds := [], alts := [], laidByText := true, laidKinds := [.funcs, .handle], laidTests := true, laidLooks := .later }
def ProductDiffersCardSaid : Prop := Claim7.holds Tryz.pinned (.plain (OpenSpec.ofChange productDiffersSpec)) productDiffersCard

/-- THE SECOND FORM's CARD OF 'tipstafflaw39.ProductParts'. -/
def productPartsUptoCard : Claim7 := { stood := { row := productPartsUptoRow, standIns := [], harness := (true, "70c6139d5ac87c8b21b48831b2cec2859e6bc895496b28f8134313cfbdccc23d"), looks := true }, kinds := [], alts := [], laidByText := true, laidKinds := [.funcs, .handle], laidTests := true, laidLooks := .later }
def ProductPartsUptoCardSaid : Prop := Claim7.holds Tryz.pinned (.plain (OpenSpec.upto productPartsSpec)) productPartsUptoCard

/-- THE SECOND FORM's CARD OF 'tipstafflaw39.ProductDiffers'. -/
def productDiffersUptoCard : Claim7 := { stood := { row := productDiffersUptoRow, standIns := [], harness := (true, "70c6139d5ac87c8b21b48831b2cec2859e6bc895496b28f8134313cfbdccc23d"), looks := true }, kinds := [], alts := [], laidByText := true, laidKinds := [.funcs, .handle], laidTests := true, laidLooks := .later }
def ProductDiffersUptoCardSaid : Prop := Claim7.holds Tryz.pinned (.plain (OpenSpec.upto productDiffersSpec)) productDiffersUptoCard
end Rows
end Go.Proofs.YtiodokcfjgmpaaaGreatDoor
