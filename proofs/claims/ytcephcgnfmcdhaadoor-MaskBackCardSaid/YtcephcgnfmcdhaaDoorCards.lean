/-
  DERIVED. GIVEN WITH THE SEED: THE CARDS: each row of YtcephcgnfmcdhaaDoorRows.lean that lists a variable, with what it lists TIED to the program's text (the seventh form; the later family's looks); each row that meets fmt, with fmt's text TOLD by the authors' own Lean function (tested against real Go, not proved from fmt's source: count such statements apart). THE CARD IS WHAT COUNTS. Prove the row's statement (the work); the ties are given (YtcephcgnfmcdhaaDoorTie.lean); close each card by the builder's one call (the guide's Derived/Test/ToyasCard.lean, 'card_holds'). Laid BY PROGRAM, IN A SANDBOX (cutbox-door.mjs). By AI agents, Wed Nov 11 2026. No macro, syntax, notation, axiom, sorry.
-/
import Derived.Test.YtcephcgnfmcdhaaDoorRows
import GoSem.ClaimSeven
namespace Go.Proofs.YtcephcgnfmcdhaaDoor
namespace Rows

/-- THE TIED CARD OF 'tipstafflaw02.MaskTexts'. -/
def maskTextsCard : Claim7 := { stood := { row := maskTextsRow, standIns := [], harness := (true, "f39dc6671a74a2407ed003911c44ffd99553cfa007922f57569e7ddc883c73dc"), looks := false }, kinds := [], alts := [], laidByText := true, laidKinds := [.data, .data, .data, .data, .pinned], laidTests := true, laidLooks := .later }
def MaskTextsCardSaid : Prop := Claim7.holds Tryd.pinned (.plain (OpenSpec.ofChange maskTextsSpec)) maskTextsCard

/-- THE TIED CARD OF 'tipstafflaw02.MaskPuts'. -/
def maskPutsCard : Claim7 := { stood := { row := maskPutsRow, standIns := [], harness := (true, "f39dc6671a74a2407ed003911c44ffd99553cfa007922f57569e7ddc883c73dc"), looks := false }, kinds := [], alts := [], laidByText := true, laidKinds := [.data, .data, .data, .data, .pinned], laidTests := true, laidLooks := .later }
def MaskPutsCardSaid : Prop := Claim7.holds Tryd.pinned (.plain (OpenSpec.ofChange maskPutsSpec)) maskPutsCard

/-- THE TIED CARD OF 'tipstafflaw02.MaskKnown'. -/
def maskKnownCard : Claim7 := { stood := { row := maskKnownRow, standIns := [], harness := (true, "f39dc6671a74a2407ed003911c44ffd99553cfa007922f57569e7ddc883c73dc"), looks := false }, kinds := [], alts := [], laidByText := true, laidKinds := [.data, .data, .data, .data, .pinned], laidTests := true, laidLooks := .later }
def MaskKnownCardSaid : Prop := Claim7.holds Tryd.pinned (.plain (OpenSpec.ofChange maskKnownSpec)) maskKnownCard

/-- THE TIED CARD OF 'tipstafflaw02.MaskPut'. -/
def maskPutCard : Claim7 := { stood := { row := maskPutRow, standIns := [], harness := (true, "f39dc6671a74a2407ed003911c44ffd99553cfa007922f57569e7ddc883c73dc"), looks := false }, kinds := [], alts := [], laidByText := true, laidKinds := [.data, .data, .data, .data, .pinned], laidTests := true, laidLooks := .later }
def MaskPutCardSaid : Prop := Claim7.holds Tryd.pinned (.plain (OpenSpec.ofChange maskPutSpec)) maskPutCard

/-- THE TIED CARD OF 'tipstafflaw02.MaskNear'. -/
def maskNearCard : Claim7 := { stood := { row := maskNearRow, standIns := [], harness := (true, "f39dc6671a74a2407ed003911c44ffd99553cfa007922f57569e7ddc883c73dc"), looks := false }, kinds := [], alts := [], laidByText := true, laidKinds := [.data, .data, .data, .data, .pinned], laidTests := true, laidLooks := .later }
def MaskNearCardSaid : Prop := Claim7.holds Tryd.pinned (.plain (OpenSpec.ofChange maskNearSpec)) maskNearCard

/-- THE TIED CARD OF 'tipstafflaw02.MaskBack'. -/
def maskBackCard : Claim7 := { stood := { row := maskBackRow, standIns := [], harness := (true, "f39dc6671a74a2407ed003911c44ffd99553cfa007922f57569e7ddc883c73dc"), looks := false }, kinds := [], alts := [], laidByText := true, laidKinds := [.data, .data, .data, .data, .pinned], laidTests := true, laidLooks := .later }
def MaskBackCardSaid : Prop := Claim7.holds Tryd.pinned (.plain (OpenSpec.ofChange maskBackSpec)) maskBackCard

/-- THE TIED CARD OF 'tipstafflaw02.MaskLooks'. -/
def maskLooksCard : Claim7 := { stood := { row := maskLooksRow, standIns := [], harness := (true, "f39dc6671a74a2407ed003911c44ffd99553cfa007922f57569e7ddc883c73dc"), looks := false }, kinds := [], alts := [], laidByText := true, laidKinds := [.data, .data, .data, .data, .pinned], laidTests := true, laidLooks := .later }
def MaskLooksCardSaid : Prop := Claim7.holds Tryd.pinned (.plain (OpenSpec.ofChange maskLooksSpec)) maskLooksCard

/-- THE TIED CARD OF 'tipstafflaw02.MaskWalks'. -/
def maskWalksCard : Claim7 := { stood := { row := maskWalksRow, standIns := [], harness := (true, "f39dc6671a74a2407ed003911c44ffd99553cfa007922f57569e7ddc883c73dc"), looks := false }, kinds := [], alts := [], laidByText := true, laidKinds := [.data, .data, .data, .data, .pinned], laidTests := true, laidLooks := .later }
def MaskWalksCardSaid : Prop := Claim7.holds Tryd.pinned (.plain (OpenSpec.ofChange maskWalksSpec)) maskWalksCard

/-- THE SECOND FORM's CARD OF 'tipstafflaw02.MaskTexts'. -/
def maskTextsUptoCard : Claim7 := { stood := { row := maskTextsUptoRow, standIns := [], harness := (true, "f39dc6671a74a2407ed003911c44ffd99553cfa007922f57569e7ddc883c73dc"), looks := false }, kinds := [], alts := [], laidByText := true, laidKinds := [.data, .data, .data, .data, .pinned], laidTests := true, laidLooks := .later }
def MaskTextsUptoCardSaid : Prop := Claim7.holds Tryd.pinned (.plain (OpenSpec.upto maskTextsSpec)) maskTextsUptoCard

/-- THE SECOND FORM's CARD OF 'tipstafflaw02.MaskPuts'. -/
def maskPutsUptoCard : Claim7 := { stood := { row := maskPutsUptoRow, standIns := [], harness := (true, "f39dc6671a74a2407ed003911c44ffd99553cfa007922f57569e7ddc883c73dc"), looks := false }, kinds := [], alts := [], laidByText := true, laidKinds := [.data, .data, .data, .data, .pinned], laidTests := true, laidLooks := .later }
def MaskPutsUptoCardSaid : Prop := Claim7.holds Tryd.pinned (.plain (OpenSpec.upto maskPutsSpec)) maskPutsUptoCard

/-- THE SECOND FORM's CARD OF 'tipstafflaw02.MaskKnown'. -/
def maskKnownUptoCard : Claim7 := { stood := { row := maskKnownUptoRow, standIns := [], harness := (true, "f39dc6671a74a2407ed003911c44ffd99553cfa007922f57569e7ddc883c73dc"), looks := false }, kinds := [], alts := [], laidByText := true, laidKinds := [.data, .data, .data, .data, .pinned], laidTests := true, laidLooks := .later }
def MaskKnownUptoCardSaid : Prop := Claim7.holds Tryd.pinned (.plain (OpenSpec.upto maskKnownSpec)) maskKnownUptoCard

/-- THE SECOND FORM's CARD OF 'tipstafflaw02.MaskPut'. -/
def maskPutUptoCard : Claim7 := { stood := { row := maskPutUptoRow, standIns := [], harness := (true, "f39dc6671a74a2407ed003911c44ffd99553cfa007922f57569e7ddc883c73dc"), looks := false }, kinds := [], alts := [], laidByText := true, laidKinds := [.data, .data, .data, .data, .pinned], laidTests := true, laidLooks := .later }
def MaskPutUptoCardSaid : Prop := Claim7.holds Tryd.pinned (.plain (OpenSpec.upto maskPutSpec)) maskPutUptoCard

/-- THE SECOND FORM's CARD OF 'tipstafflaw02.MaskNear'. -/
def maskNearUptoCard : Claim7 := { stood := { row := maskNearUptoRow, standIns := [], harness := (true, "f39dc6671a74a2407ed003911c44ffd99553cfa007922f57569e7ddc883c73dc"), looks := false }, kinds := [], alts := [], laidByText := true, laidKinds := [.data, .data, .data, .data, .pinned], laidTests := true, laidLooks := .later }
def MaskNearUptoCardSaid : Prop := Claim7.holds Tryd.pinned (.plain (OpenSpec.upto maskNearSpec)) maskNearUptoCard

/-- THE SECOND FORM's CARD OF 'tipstafflaw02.MaskBack'. -/
def maskBackUptoCard : Claim7 := { stood := { row := maskBackUptoRow, standIns := [], harness := (true, "f39dc6671a74a2407ed003911c44ffd99553cfa007922f57569e7ddc883c73dc"), looks := false }, kinds := [], alts := [], laidByText := true, laidKinds := [.data, .data, .data, .data, .pinned], laidTests := true, laidLooks := .later }
def MaskBackUptoCardSaid : Prop := Claim7.holds Tryd.pinned (.plain (OpenSpec.upto maskBackSpec)) maskBackUptoCard

/-- THE SECOND FORM's CARD OF 'tipstafflaw02.MaskLooks'. -/
def maskLooksUptoCard : Claim7 := { stood := { row := maskLooksUptoRow, standIns := [], harness := (true, "f39dc6671a74a2407ed003911c44ffd99553cfa007922f57569e7ddc883c73dc"), looks := false }, kinds := [], alts := [], laidByText := true, laidKinds := [.data, .data, .data, .data, .pinned], laidTests := true, laidLooks := .later }
def MaskLooksUptoCardSaid : Prop := Claim7.holds Tryd.pinned (.plain (OpenSpec.upto maskLooksSpec)) maskLooksUptoCard

/-- THE SECOND FORM's CARD OF 'tipstafflaw02.MaskWalks'. -/
def maskWalksUptoCard : Claim7 := { stood := { row := maskWalksUptoRow, standIns := [], harness := (true, "f39dc6671a74a2407ed003911c44ffd99553cfa007922f57569e7ddc883c73dc"), looks := false }, kinds := [], alts := [], laidByText := true, laidKinds := [.data, .data, .data, .data, .pinned], laidTests := true, laidLooks := .later }
def MaskWalksUptoCardSaid : Prop := Claim7.holds Tryd.pinned (.plain (OpenSpec.upto maskWalksSpec)) maskWalksUptoCard
end Rows
end Go.Proofs.YtcephcgnfmcdhaaDoor
