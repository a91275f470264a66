/-
  DERIVED. GIVEN WITH THE SEED: THE PROGRAM's TIES (one call each: nine closed facts by the kernel) AND EACH ROW's TIE, after the 31st guide's Derived/Test/Toyas{Tie, Card}.lean. No idea stands in it: it is a product of the set-up. Laid BY PROGRAM, IN A SANDBOX (cutbox-door.mjs). By AI agents, Wed Nov 11 2026. No macro, syntax, notation, axiom, sorry.
-/
import Derived.Test.YtmkcobpgmcfbkaaGreatDoorRows
import Derived.LaidByTextLater
import Derived.SevenTiedAt
import Derived.LaidSub
import Derived.LaidOnce
namespace Go.Proofs.YtmkcobpgmcfbkaaGreatDoor
open Go
set_option maxRecDepth 100000
theorem seatTie1 : Tryz.prog.laidByTextLater [("tipstaff/word.does", Rows.laid_tipstaff_word_does), ("errors.errorType", Rows.laid_errors_errorType)] [.funcs, .handle] true :=
  Program.laidByTextLater_by_one 21 8 2 (by kernel_rfl) (by kernel_rfl) (by kernel_rfl) (by kernel_rfl) (by kernel_rfl) (by kernel_rfl) (fun _ _ => by kernel_rfl)
theorem noOwnUnsafe : Tryz.pinned.checked.prog.headLifts.contains "ownunsafe" = false := by kernel_rfl
theorem tie : Tryz.prog.laidByTextLater [("tipstaff/word.does", Rows.laid_tipstaff_word_does), ("errors.errorType", Rows.laid_errors_errorType)] [.funcs, .handle] true :=
  Program.laidByTextLater.sub seatTie1 ["tipstaff/word.does", "errors.errorType"] (by kernel_rfl) (by kernel_rfl)
theorem flowParts_row_tie : Rows.flowPartsRow.laidByTextAt .later Tryz.pinned [.funcs, .handle] true :=
  OpenClaim.laidByTextAt_later rfl rfl tie noOwnUnsafe
theorem flowAgrees_row_tie : Rows.flowAgreesRow.laidByTextAt .later Tryz.pinned [.funcs, .handle] true :=
  OpenClaim.laidByTextAt_later rfl rfl tie noOwnUnsafe
theorem flowKnown_row_tie : Rows.flowKnownRow.laidByTextAt .later Tryz.pinned [.funcs, .handle] true :=
  OpenClaim.laidByTextAt_later rfl rfl tie noOwnUnsafe
theorem flowSplits_row_tie : Rows.flowSplitsRow.laidByTextAt .later Tryz.pinned [.funcs, .handle] true :=
  OpenClaim.laidByTextAt_later rfl rfl tie noOwnUnsafe
theorem flowMixes_row_tie : Rows.flowMixesRow.laidByTextAt .later Tryz.pinned [.funcs, .handle] true :=
  OpenClaim.laidByTextAt_later rfl rfl tie noOwnUnsafe
theorem flowWords_row_tie : Rows.flowWordsRow.laidByTextAt .later Tryz.pinned [.funcs, .handle] true :=
  OpenClaim.laidByTextAt_later rfl rfl tie noOwnUnsafe
theorem flowPartsUpto_row_tie : Rows.flowPartsUptoRow.laidByTextAt .later Tryz.pinned [.funcs, .handle] true :=
  OpenClaim.laidByTextAt_later rfl rfl tie noOwnUnsafe
theorem flowAgreesUpto_row_tie : Rows.flowAgreesUptoRow.laidByTextAt .later Tryz.pinned [.funcs, .handle] true :=
  OpenClaim.laidByTextAt_later rfl rfl tie noOwnUnsafe
theorem flowKnownUpto_row_tie : Rows.flowKnownUptoRow.laidByTextAt .later Tryz.pinned [.funcs, .handle] true :=
  OpenClaim.laidByTextAt_later rfl rfl tie noOwnUnsafe
theorem flowSplitsUpto_row_tie : Rows.flowSplitsUptoRow.laidByTextAt .later Tryz.pinned [.funcs, .handle] true :=
  OpenClaim.laidByTextAt_later rfl rfl tie noOwnUnsafe
theorem flowMixesUpto_row_tie : Rows.flowMixesUptoRow.laidByTextAt .later Tryz.pinned [.funcs, .handle] true :=
  OpenClaim.laidByTextAt_later rfl rfl tie noOwnUnsafe
theorem flowWordsUpto_row_tie : Rows.flowWordsUptoRow.laidByTextAt .later Tryz.pinned [.funcs, .handle] true :=
  OpenClaim.laidByTextAt_later rfl rfl tie noOwnUnsafe
end Go.Proofs.YtmkcobpgmcfbkaaGreatDoor
