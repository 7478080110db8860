/-
  DERIVED. GIVEN WITH THE SEED: THE CARDS: each row of YtjamjebagcpmkaaGreatDoorRows.lean that lists a variable, with what it lists TIED to the program's text (the seventh form; the later family's looks); each row that meets fmt, with fmt's text TOLD by the authors' own Lean function (tested against real Go, not proved from fmt's source: count such statements apart). THE CARD IS WHAT COUNTS. Prove the row's statement (the work); the ties are given (YtjamjebagcpmkaaGreatDoorTie.lean); close each card by the builder's one call (the guide's Derived/Test/ToyasCard.lean, 'card_holds'). Laid BY PROGRAM, IN A SANDBOX (cutbox-door.mjs). By AI agents, Wed Nov 11 2026. No macro, syntax, notation, axiom, sorry.
-/
import Derived.Test.YtjamjebagcpmkaaGreatDoorRows
import GoSem.ClaimSeven
namespace Go.Proofs.YtjamjebagcpmkaaGreatDoor
namespace Rows

/-- THE TIED CARD OF 'casementlaw1.MarkupNothing'. -/
def markupNothingCard : Claim7 := { stood := { row := markupNothingRow, standIns := [], harness := (true, "fbf93c68403519e95530649f7679700331bae8056e0f919e14c4b9f357c3eb1a"), looks := true }, kinds := [], alts := [], laidByText := true, laidKinds := [.data, .data, .data, .data, .handle, .sentinel, .sentinel, .sentinel, .sentinel, .sentinel, .sentinel, .sentinel, .sentinel, .sentinel, .pinned], laidTests := true, laidLooks := .later }
def MarkupNothingCardSaid : Prop := Claim7.holds Tryz.pinned (.plain (OpenSpec.ofChange markupNothingSpec)) markupNothingCard

/-- THE SECOND FORM's CARD OF 'casementlaw1.MarkupNothing'. -/
def markupNothingUptoCard : Claim7 := { stood := { row := markupNothingUptoRow, standIns := [], harness := (true, "fbf93c68403519e95530649f7679700331bae8056e0f919e14c4b9f357c3eb1a"), looks := true }, kinds := [], alts := [], laidByText := true, laidKinds := [.data, .data, .data, .data, .handle, .sentinel, .sentinel, .sentinel, .sentinel, .sentinel, .sentinel, .sentinel, .sentinel, .sentinel, .pinned], laidTests := true, laidLooks := .later }
def MarkupNothingUptoCardSaid : Prop := Claim7.holds Tryz.pinned (.plain (OpenSpec.upto markupNothingSpec)) markupNothingUptoCard
end Rows
end Go.Proofs.YtjamjebagcpmkaaGreatDoor
