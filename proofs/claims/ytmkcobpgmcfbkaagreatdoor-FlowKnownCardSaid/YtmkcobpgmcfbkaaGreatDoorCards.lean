/-
  DERIVED. GIVEN WITH THE SEED: THE CARDS: each row of YtmkcobpgmcfbkaaGreatDoorRows.lean that lists a variable, with what it lists TIED to the program's text (the seventh form; the later family's looks); each row that meets fmt, with fmt's text TOLD by the authors' own Lean function (tested against real Go, not proved from fmt's source: count such statements apart). THE CARD IS WHAT COUNTS. Prove the row's statement (the work); the ties are given (YtmkcobpgmcfbkaaGreatDoorTie.lean); close each card by the builder's one call (the guide's Derived/Test/ToyasCard.lean, 'card_holds'). Laid BY PROGRAM, IN A SANDBOX (cutbox-door.mjs). By AI agents, Wed Nov 11 2026. No macro, syntax, notation, axiom, sorry.
-/
import Derived.Test.YtmkcobpgmcfbkaaGreatDoorRows
import GoSem.ClaimSeven
namespace Go.Proofs.YtmkcobpgmcfbkaaGreatDoor
namespace Rows

/-- THE TIED CARD OF 'tipstafflaw42.FlowParts'. -/
def flowPartsCard : Claim7 := { stood := { row := flowPartsRow, standIns := [], harness := (true, "f183f01ae2d98ca56a85aaff4451a90a9e2e95dfa99a0105bd1ab654c70cfc35"), looks := true }, kinds := [], alts := [], laidByText := true, laidKinds := [.funcs, .handle], laidTests := true, laidLooks := .later }
def FlowPartsCardSaid : Prop := Claim7.holds Tryz.pinned (.plain (OpenSpec.ofChange flowPartsSpec)) flowPartsCard

/-- THE TIED CARD OF 'tipstafflaw42.FlowAgrees'. -/
def flowAgreesCard : Claim7 := { stood := { row := flowAgreesRow, standIns := [], harness := (true, "f183f01ae2d98ca56a85aaff4451a90a9e2e95dfa99a0105bd1ab654c70cfc35"), looks := true }, kinds := [], alts := [], laidByText := true, laidKinds := [.funcs, .handle], laidTests := true, laidLooks := .later }
def FlowAgreesCardSaid : Prop := Claim7.holds Tryz.pinned (.plain (OpenSpec.ofChange flowAgreesSpec)) flowAgreesCard

/-- THE TIED CARD OF 'tipstafflaw42.FlowKnown'. -/
def flowKnownCard : Claim7 := { stood := { row := flowKnownRow, standIns := [], harness := (true, "f183f01ae2d98ca56a85aaff4451a90a9e2e95dfa99a0105bd1ab654c70cfc35"), looks := true }, kinds := [], alts := [], laidByText := true, laidKinds := [.funcs, .handle], laidTests := true, laidLooks := .later }
def FlowKnownCardSaid : Prop := Claim7.holds Tryz.pinned (.plain (OpenSpec.ofChange flowKnownSpec)) flowKnownCard

/-- THE TIED CARD OF 'tipstafflaw42.FlowSplits'. -/
def flowSplitsCard : Claim7 := { stood := { row := flowSplitsRow, standIns := [], harness := (true, "f183f01ae2d98ca56a85aaff4451a90a9e2e95dfa99a0105bd1ab654c70cfc35"), looks := true }, kinds := [], alts := [], laidByText := true, laidKinds := [.funcs, .handle], laidTests := true, laidLooks := .later }
def FlowSplitsCardSaid : Prop := Claim7.holds Tryz.pinned (.plain (OpenSpec.ofChange flowSplitsSpec)) flowSplitsCard

/-- THE TIED CARD OF 'tipstafflaw42.FlowMixes'. -/
def flowMixesCard : Claim7 := { stood := { row := flowMixesRow, standIns := [], harness := (true, "f183f01ae2d98ca56a85aaff4451a90a9e2e95dfa99a0105bd1ab654c70cfc35"), looks := true }, kinds := [], alts := [], laidByText := true, laidKinds := [.funcs, .handle], laidTests := true, laidLooks := .later }
def FlowMixesCardSaid : Prop := Claim7.holds Tryz.pinned (.plain (OpenSpec.ofChange flowMixesSpec)) flowMixesCard

/-- THE TIED CARD OF 'tipstafflaw42.FlowWords'. -/
def flowWordsCard : Claim7 := { stood := { row := flowWordsRow, standIns := [], harness := (true, "f183f01ae2d98ca56a85aaff4451a90a9e2e95dfa99a0105bd1ab654c70cfc35"), looks := true }, kinds := [], alts := [], laidByText := true, laidKinds := [.funcs, .handle], laidTests := true, laidLooks := .later }
def FlowWordsCardSaid : Prop := Claim7.holds Tryz.pinned (.plain (OpenSpec.ofChange flowWordsSpec)) flowWordsCard

/-- THE SECOND FORM's CARD OF 'tipstafflaw42.FlowParts'. -/
def flowPartsUptoCard : Claim7 := { stood := { row := flowPartsUptoRow, standIns := [], harness := (true, "f183f01ae2d98ca56a85aaff4451a90a9e2e95dfa99a0105bd1ab654c70cfc35"), looks := true }, kinds := [], alts := [], laidByText := true, laidKinds := [.funcs, .handle], laidTests := true, laidLooks := .later }
def FlowPartsUptoCardSaid : Prop := Claim7.holds Tryz.pinned (.plain (OpenSpec.upto flowPartsSpec)) flowPartsUptoCard

/-- THE SECOND FORM's CARD OF 'tipstafflaw42.FlowAgrees'. -/
def flowAgreesUptoCard : Claim7 := { stood := { row := flowAgreesUptoRow, standIns := [], harness := (true, "f183f01ae2d98ca56a85aaff4451a90a9e2e95dfa99a0105bd1ab654c70cfc35"), looks := true }, kinds := [], alts := [], laidByText := true, laidKinds := [.funcs, .handle], laidTests := true, laidLooks := .later }
def FlowAgreesUptoCardSaid : Prop := Claim7.holds Tryz.pinned (.plain (OpenSpec.upto flowAgreesSpec)) flowAgreesUptoCard

/-- THE SECOND FORM's CARD OF 'tipstafflaw42.FlowKnown'. -/
def flowKnownUptoCard : Claim7 := { stood := { row := flowKnownUptoRow, standIns := [], harness := (true, "f183f01ae2d98ca56a85aaff4451a90a9e2e95dfa99a0105bd1ab654c70cfc35"), looks := true }, kinds := [], alts := [], laidByText := true, laidKinds := [.funcs, .handle], laidTests := true, laidLooks := .later }
def FlowKnownUptoCardSaid : Prop := Claim7.holds Tryz.pinned (.plain (OpenSpec.upto flowKnownSpec)) flowKnownUptoCard

/-- THE SECOND FORM's CARD OF 'tipstafflaw42.FlowSplits'. -/
def flowSplitsUptoCard : Claim7 := { stood := { row := flowSplitsUptoRow, standIns := [], harness := (true, "f183f01ae2d98ca56a85aaff4451a90a9e2e95dfa99a0105bd1ab654c70cfc35"), looks := true }, kinds := [], alts := [], laidByText := true, laidKinds := [.funcs, .handle], laidTests := true, laidLooks := .later }
def FlowSplitsUptoCardSaid : Prop := Claim7.holds Tryz.pinned (.plain (OpenSpec.upto flowSplitsSpec)) flowSplitsUptoCard

/-- THE SECOND FORM's CARD OF 'tipstafflaw42.FlowMixes'. -/
def flowMixesUptoCard : Claim7 := { stood := { row := flowMixesUptoRow, standIns := [], harness := (true, "f183f01ae2d98ca56a85aaff4451a90a9e2e95dfa99a0105bd1ab654c70cfc35"), looks := true }, kinds := [], alts := [], laidByText := true, laidKinds := [.funcs, .handle], laidTests := true, laidLooks := .later }
def FlowMixesUptoCardSaid : Prop := Claim7.holds Tryz.pinned (.plain (OpenSpec.upto flowMixesSpec)) flowMixesUptoCard

/-- THE SECOND FORM's CARD OF 'tipstafflaw42.FlowWords'. -/
def flowWordsUptoCard : Claim7 := { stood := { row := flowWordsUptoRow, standIns := [], harness := (true, "f183f01ae2d98ca56a85aaff4451a90a9e2e95dfa99a0105bd1ab654c70cfc35"), looks := true }, kinds := [], alts := [], laidByText := true, laidKinds := [.funcs, .handle], laidTests := true, laidLooks := .later }
def FlowWordsUptoCardSaid : Prop := Claim7.holds Tryz.pinned (.plain (OpenSpec.upto flowWordsSpec)) flowWordsUptoCard
end Rows
end Go.Proofs.YtmkcobpgmcfbkaaGreatDoor
