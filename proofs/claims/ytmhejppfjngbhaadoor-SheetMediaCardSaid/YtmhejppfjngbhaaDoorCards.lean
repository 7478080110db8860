/-
  DERIVED. GIVEN WITH THE SEED: THE CARDS: each row of YtmhejppfjngbhaaDoorRows.lean that lists a variable, with what it lists TIED to the program's text (the seventh form; the later family's looks); each row that meets fmt, with fmt's text TOLD by the authors' own Lean function (tested against real Go, not proved from fmt's source: count such statements apart). THE CARD IS WHAT COUNTS. Prove the row's statement (the work); the ties are given (YtmhejppfjngbhaaDoorTie.lean); close each card by the builder's one call (the guide's Derived/Test/ToyasCard.lean, 'card_holds'). Laid BY PROGRAM, IN A SANDBOX (cutbox-door.mjs). By AI agents, Wed Nov 11 2026. No macro, syntax, notation, axiom, sorry.
-/
import Derived.Test.YtmhejppfjngbhaaDoorRows
import GoSem.ClaimSeven
namespace Go.Proofs.YtmhejppfjngbhaaDoor
namespace Rows

/-- THE TIED CARD OF 'casementlaw2.SheetMedia'. -/
def sheetMediaCard : Claim7 := { stood := { row := sheetMediaRow, standIns := [], harness := (true, "4465edf6f104c0fe10f4d07c3ca6e877735e0726812f2d6c846c4334e5dc6ac5"), looks := false }, kinds := [], alts := [], laidByText := true, laidKinds := [.data, .pinned], laidTests := true, laidLooks := .later }
def SheetMediaCardSaid : Prop := Claim7.holds Tryd.pinned (.plain (OpenSpec.ofChange sheetMediaSpec)) sheetMediaCard

/-- THE SECOND FORM's CARD OF 'casementlaw2.SheetMedia'. -/
def sheetMediaUptoCard : Claim7 := { stood := { row := sheetMediaUptoRow, standIns := [], harness := (true, "4465edf6f104c0fe10f4d07c3ca6e877735e0726812f2d6c846c4334e5dc6ac5"), looks := false }, kinds := [], alts := [], laidByText := true, laidKinds := [.data, .pinned], laidTests := true, laidLooks := .later }
def SheetMediaUptoCardSaid : Prop := Claim7.holds Tryd.pinned (.plain (OpenSpec.upto sheetMediaSpec)) sheetMediaUptoCard
end Rows
end Go.Proofs.YtmhejppfjngbhaaDoor
