/-
  DERIVED. GIVEN WITH THE SEED: THE PROGRAM's TIES (one call each: nine closed facts by the kernel) AND EACH ROW's TIE, after the 31st guide's Derived/Test/Toyas{Tie, Card}.lean. No idea stands in it: it is a product of the set-up. Laid BY PROGRAM, IN A SANDBOX (cutbox-door.mjs). By AI agents, Wed Nov 11 2026. No macro, syntax, notation, axiom, sorry.
-/
import Derived.Test.YtimlmekgapdkiaaGreatDoorRows
import Derived.LaidByTextLater
import Derived.SevenTiedAt
import Derived.LaidSub
import Derived.LaidOnce
namespace Go.Proofs.YtimlmekgapdkiaaGreatDoor
open Go
set_option maxRecDepth 100000
theorem seatTie1 : Tryz.prog.laidByTextLater [("errors.errorType", Rows.laid_errors_errorType), ("casement/api.ErrText", Rows.laid_casement_api_ErrText), ("casement/api.ErrBound", Rows.laid_casement_api_ErrBound), ("casement/api.ErrName", Rows.laid_casement_api_ErrName), ("casement/api.ErrNode", Rows.laid_casement_api_ErrNode), ("casement/api.ErrPlace", Rows.laid_casement_api_ErrPlace), ("casement/api.ErrShape", Rows.laid_casement_api_ErrShape), ("casement/api.ErrValue", Rows.laid_casement_api_ErrValue)] [.handle, .sentinel, .sentinel, .sentinel, .sentinel, .sentinel, .sentinel, .sentinel] true :=
  Program.laidByTextLater_by_one 149 8 2 (by kernel_rfl) (by kernel_rfl) (by kernel_rfl) (by kernel_rfl) (by kernel_rfl) (by kernel_rfl) (fun _ _ => by kernel_rfl)
theorem noOwnUnsafe : Tryz.pinned.checked.prog.headLifts.contains "ownunsafe" = false := by kernel_rfl
theorem tie : Tryz.prog.laidByTextLater [("errors.errorType", Rows.laid_errors_errorType), ("casement/api.ErrText", Rows.laid_casement_api_ErrText), ("casement/api.ErrBound", Rows.laid_casement_api_ErrBound), ("casement/api.ErrName", Rows.laid_casement_api_ErrName), ("casement/api.ErrNode", Rows.laid_casement_api_ErrNode), ("casement/api.ErrPlace", Rows.laid_casement_api_ErrPlace), ("casement/api.ErrShape", Rows.laid_casement_api_ErrShape), ("casement/api.ErrValue", Rows.laid_casement_api_ErrValue)] [.handle, .sentinel, .sentinel, .sentinel, .sentinel, .sentinel, .sentinel, .sentinel] true :=
  Program.laidByTextLater.sub seatTie1 ["errors.errorType", "casement/api.ErrText", "casement/api.ErrBound", "casement/api.ErrName", "casement/api.ErrNode", "casement/api.ErrPlace", "casement/api.ErrShape", "casement/api.ErrValue"] (by kernel_rfl) (by kernel_rfl)
theorem treePlays_row_tie : Rows.treePlaysRow.laidByTextAt .later Tryz.pinned [.handle, .sentinel, .sentinel, .sentinel, .sentinel, .sentinel, .sentinel, .sentinel] true :=
  OpenClaim.laidByTextAt_later rfl rfl tie noOwnUnsafe
theorem treePlaysUpto_row_tie : Rows.treePlaysUptoRow.laidByTextAt .later Tryz.pinned [.handle, .sentinel, .sentinel, .sentinel, .sentinel, .sentinel, .sentinel, .sentinel] true :=
  OpenClaim.laidByTextAt_later rfl rfl tie noOwnUnsafe
end Go.Proofs.YtimlmekgapdkiaaGreatDoor
