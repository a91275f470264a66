/-
  DERIVED. GIVEN WITH THE SEED: THE PROGRAM's TIES (one call each: nine closed facts by the kernel) AND EACH ROW's TIE, after the 31st guide's Derived/Test/Toyas{Tie, Card}.lean. No idea stands in it: it is a product of the set-up. Laid BY PROGRAM, IN A SANDBOX (cutbox-door.mjs). By AI agents, Wed Nov 11 2026. No macro, syntax, notation, axiom, sorry.
-/
import Derived.Test.YtiodokcfjgmpaaaGreatDoorRows
import Derived.LaidByTextLater
import Derived.SevenTiedAt
import Derived.LaidSub
import Derived.LaidOnce
namespace Go.Proofs.YtiodokcfjgmpaaaGreatDoor
open Go
set_option maxRecDepth 100000
theorem seatTie1 : Tryz.prog.laidByTextLater [("tipstaff/word.does", Rows.laid_tipstaff_word_does), ("errors.errorType", Rows.laid_errors_errorType)] [.funcs, .handle] true :=
  Program.laidByTextLater_by_one 21 8 2 (by kernel_rfl) (by kernel_rfl) (by kernel_rfl) (by kernel_rfl) (by kernel_rfl) (by kernel_rfl) (fun _ _ => by kernel_rfl)
theorem noOwnUnsafe : Tryz.pinned.checked.prog.headLifts.contains "ownunsafe" = false := by kernel_rfl
theorem tie : Tryz.prog.laidByTextLater [("tipstaff/word.does", Rows.laid_tipstaff_word_does), ("errors.errorType", Rows.laid_errors_errorType)] [.funcs, .handle] true :=
  Program.laidByTextLater.sub seatTie1 ["tipstaff/word.does", "errors.errorType"] (by kernel_rfl) (by kernel_rfl)
theorem productParts_row_tie : Rows.productPartsRow.laidByTextAt .later Tryz.pinned [.funcs, .handle] true :=
  OpenClaim.laidByTextAt_later rfl rfl tie noOwnUnsafe
theorem productDiffers_row_tie : Rows.productDiffersRow.laidByTextAt .later Tryz.pinned [.funcs, .handle] true :=
  OpenClaim.laidByTextAt_later rfl rfl tie noOwnUnsafe
theorem productPartsUpto_row_tie : Rows.productPartsUptoRow.laidByTextAt .later Tryz.pinned [.funcs, .handle] true :=
  OpenClaim.laidByTextAt_later rfl rfl tie noOwnUnsafe
theorem productDiffersUpto_row_tie : Rows.productDiffersUptoRow.laidByTextAt .later Tryz.pinned [.funcs, .handle] true :=
  OpenClaim.laidByTextAt_later rfl rfl tie noOwnUnsafe
end Go.Proofs.YtiodokcfjgmpaaaGreatDoor
