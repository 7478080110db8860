/-
  DERIVED. GIVEN WITH THE SEED: THE CARDS: each row of YtimlmekgapdkiaaDoorRows.lean that lists a variable, with what it lists TIED to the program's text (the seventh form; the later family's looks); each row that meets fmt, with fmt's text TOLD by the authors' own Lean function (tested against real Go, not proved from fmt's source: count such statements apart). THE CARD IS WHAT COUNTS. Prove the row's statement (the work); the ties are given (YtimlmekgapdkiaaDoorTie.lean); close each card by the builder's one call (the guide's Derived/Test/ToyasCard.lean, 'card_holds'). Laid BY PROGRAM, IN A SANDBOX (cutbox-door.mjs). By AI agents, Wed Nov 11 2026. No macro, syntax, notation, axiom, sorry.
-/
import Derived.Test.YtimlmekgapdkiaaDoorRows
import GoSem.ClaimSeven
namespace Go.Proofs.YtimlmekgapdkiaaDoor
namespace Rows

/-- THE TIED CARD OF 'casementlaw1.Names'. -/
def namesCard : Claim7 := { stood := { row := namesRow, standIns := [], harness := (true, "ab45896ab801c3528d82ec32637c6c85c7bf43221072e26fb1a405ab03266510"), looks := true }, kinds := [], alts := [], laidByText := true, laidKinds := [.handle, .sentinel, .sentinel, .sentinel, .sentinel, .sentinel, .sentinel, .sentinel], laidTests := true, laidLooks := .later }
def NamesCardSaid : Prop := Claim7.holds Tryd.pinned (.plain (OpenSpec.ofChange namesSpec)) namesCard

/-- THE TIED CARD OF 'casementlaw1.TreeOrders'. -/
def treeOrdersCard : Claim7 := { stood := { row := treeOrdersRow, standIns := [], harness := (true, "ab45896ab801c3528d82ec32637c6c85c7bf43221072e26fb1a405ab03266510"), looks := true }, kinds := [], alts := [], laidByText := true, laidKinds := [.sentinel, .sentinel, .sentinel, .sentinel], laidTests := true, laidLooks := .later }
def TreeOrdersCardSaid : Prop := Claim7.holds Tryd.pinned (.plain (OpenSpec.ofChange treeOrdersSpec)) treeOrdersCard

/-- THE TIED CARD OF 'casementlaw1.PlainTree'. -/
def plainTreeCard : Claim7 := { stood := { row := plainTreeRow, standIns := [], harness := (true, "ab45896ab801c3528d82ec32637c6c85c7bf43221072e26fb1a405ab03266510"), looks := true }, kinds := [], alts := [], laidByText := true, laidKinds := [.sentinel, .sentinel, .sentinel, .sentinel], laidTests := true, laidLooks := .later }
def PlainTreeCardSaid : Prop := Claim7.holds Tryd.pinned (.plain (OpenSpec.ofChange plainTreeSpec)) plainTreeCard

/-- THE TIED CARD OF 'casementlaw1.TreeUndoes'. -/
def treeUndoesCard : Claim7 := { stood := { row := treeUndoesRow, standIns := [], harness := (true, "ab45896ab801c3528d82ec32637c6c85c7bf43221072e26fb1a405ab03266510"), looks := true }, kinds := [], alts := [], laidByText := true, laidKinds := [.sentinel, .sentinel, .sentinel, .sentinel], laidTests := true, laidLooks := .later }
def TreeUndoesCardSaid : Prop := Claim7.holds Tryd.pinned (.plain (OpenSpec.ofChange treeUndoesSpec)) treeUndoesCard

/-- THE TIED CARD OF 'casementlaw5.EventsSent'. -/
def eventsSentCard : Claim7 := { stood := { row := eventsSentRow, standIns := [], harness := (true, "ab45896ab801c3528d82ec32637c6c85c7bf43221072e26fb1a405ab03266510"), looks := true }, kinds := [], alts := [], laidByText := true, laidKinds := [.sentinel, .sentinel, .sentinel, .sentinel], laidTests := true, laidLooks := .later }
def EventsSentCardSaid : Prop := Claim7.holds Tryd.pinned (.plain (OpenSpec.ofChange eventsSentSpec)) eventsSentCard

/-- THE TIED CARD OF 'casementlaw5.EventsRound'. -/
def eventsRoundCard : Claim7 := { stood := { row := eventsRoundRow, standIns := [], harness := (true, "ab45896ab801c3528d82ec32637c6c85c7bf43221072e26fb1a405ab03266510"), looks := true }, kinds := [], alts := [], laidByText := true, laidKinds := [.sentinel, .sentinel, .sentinel, .sentinel], laidTests := true, laidLooks := .later }
def EventsRoundCardSaid : Prop := Claim7.holds Tryd.pinned (.plain (OpenSpec.ofChange eventsRoundSpec)) eventsRoundCard

/-- THE TIED CARD OF 'casementlaw5.EventsFocus'. -/
def eventsFocusCard : Claim7 := { stood := { row := eventsFocusRow, standIns := [], harness := (true, "ab45896ab801c3528d82ec32637c6c85c7bf43221072e26fb1a405ab03266510"), looks := true }, kinds := [], alts := [], laidByText := true, laidKinds := [.sentinel, .sentinel, .sentinel, .sentinel], laidTests := true, laidLooks := .later }
def EventsFocusCardSaid : Prop := Claim7.holds Tryd.pinned (.plain (OpenSpec.ofChange eventsFocusSpec)) eventsFocusCard

/-- THE SECOND FORM's CARD OF 'casementlaw1.Names'. -/
def namesUptoCard : Claim7 := { stood := { row := namesUptoRow, standIns := [], harness := (true, "ab45896ab801c3528d82ec32637c6c85c7bf43221072e26fb1a405ab03266510"), looks := true }, kinds := [], alts := [], laidByText := true, laidKinds := [.handle, .sentinel, .sentinel, .sentinel, .sentinel, .sentinel, .sentinel, .sentinel], laidTests := true, laidLooks := .later }
def NamesUptoCardSaid : Prop := Claim7.holds Tryd.pinned (.plain (OpenSpec.upto namesSpec)) namesUptoCard

/-- THE SECOND FORM's CARD OF 'casementlaw1.TreeOrders'. -/
def treeOrdersUptoCard : Claim7 := { stood := { row := treeOrdersUptoRow, standIns := [], harness := (true, "ab45896ab801c3528d82ec32637c6c85c7bf43221072e26fb1a405ab03266510"), looks := true }, kinds := [], alts := [], laidByText := true, laidKinds := [.sentinel, .sentinel, .sentinel, .sentinel], laidTests := true, laidLooks := .later }
def TreeOrdersUptoCardSaid : Prop := Claim7.holds Tryd.pinned (.plain (OpenSpec.upto treeOrdersSpec)) treeOrdersUptoCard

/-- THE SECOND FORM's CARD OF 'casementlaw1.PlainTree'. -/
def plainTreeUptoCard : Claim7 := { stood := { row := plainTreeUptoRow, standIns := [], harness := (true, "ab45896ab801c3528d82ec32637c6c85c7bf43221072e26fb1a405ab03266510"), looks := true }, kinds := [], alts := [], laidByText := true, laidKinds := [.sentinel, .sentinel, .sentinel, .sentinel], laidTests := true, laidLooks := .later }
def PlainTreeUptoCardSaid : Prop := Claim7.holds Tryd.pinned (.plain (OpenSpec.upto plainTreeSpec)) plainTreeUptoCard

/-- THE SECOND FORM's CARD OF 'casementlaw1.TreeUndoes'. -/
def treeUndoesUptoCard : Claim7 := { stood := { row := treeUndoesUptoRow, standIns := [], harness := (true, "ab45896ab801c3528d82ec32637c6c85c7bf43221072e26fb1a405ab03266510"), looks := true }, kinds := [], alts := [], laidByText := true, laidKinds := [.sentinel, .sentinel, .sentinel, .sentinel], laidTests := true, laidLooks := .later }
def TreeUndoesUptoCardSaid : Prop := Claim7.holds Tryd.pinned (.plain (OpenSpec.upto treeUndoesSpec)) treeUndoesUptoCard

/-- THE SECOND FORM's CARD OF 'casementlaw5.EventsSent'. -/
def eventsSentUptoCard : Claim7 := { stood := { row := eventsSentUptoRow, standIns := [], harness := (true, "ab45896ab801c3528d82ec32637c6c85c7bf43221072e26fb1a405ab03266510"), looks := true }, kinds := [], alts := [], laidByText := true, laidKinds := [.sentinel, .sentinel, .sentinel, .sentinel], laidTests := true, laidLooks := .later }
def EventsSentUptoCardSaid : Prop := Claim7.holds Tryd.pinned (.plain (OpenSpec.upto eventsSentSpec)) eventsSentUptoCard

/-- THE SECOND FORM's CARD OF 'casementlaw5.EventsRound'. -/
def eventsRoundUptoCard : Claim7 := { stood := { row := eventsRoundUptoRow, standIns := [], harness := (true, "ab45896ab801c3528d82ec32637c6c85c7bf43221072e26fb1a405ab03266510"), looks := true }, kinds := [], alts := [], laidByText := true, laidKinds := [.sentinel, .sentinel, .sentinel, .sentinel], laidTests := true, laidLooks := .later }
def EventsRoundUptoCardSaid : Prop := Claim7.holds Tryd.pinned (.plain (OpenSpec.upto eventsRoundSpec)) eventsRoundUptoCard

/-- THE SECOND FORM's CARD OF 'casementlaw5.EventsFocus'. -/
def eventsFocusUptoCard : Claim7 := { stood := { row := eventsFocusUptoRow, standIns := [], harness := (true, "ab45896ab801c3528d82ec32637c6c85c7bf43221072e26fb1a405ab03266510"), looks := true }, kinds := [], alts := [], laidByText := true, laidKinds := [.sentinel, .sentinel, .sentinel, .sentinel], laidTests := true, laidLooks := .later }
def EventsFocusUptoCardSaid : Prop := Claim7.holds Tryd.pinned (.plain (OpenSpec.upto eventsFocusSpec)) eventsFocusUptoCard
end Rows
end Go.Proofs.YtimlmekgapdkiaaDoor
