/-
  NARROWER THAN 'FOR EVERY INPUT', by the rows' own cells (each row's printed sentence says how): Names: laid · TreeOrders: laid · PlainTree: laid · TreeUndoes: laid · EventsSent: laid · EventsRound: laid · EventsFocus: laid.
  DERIVED. THE GIVEN ROWS OF THIS SEAT. 7 by the template 'for every input the law returns true; each argument reads behind the call as it read before'; 0 by the template 'total and deterministic' (their statements: YtimlmekgapdkiaaDoorTotals.lean).
  GIVEN WITH THE SEED: the statements are not yours to turn. If you find one false, say at which input.
  Laid BY PROGRAM, IN A SANDBOX (cutbox-rows.mjs): the forced cells as the released guide's own fill.sh prints them over the translation cc236d922ccb9fb7… (all of the seat's roots in one cut). By AI agents, Wed Nov 11 2026. No macro, syntax, notation, axiom, sorry.
-/
import Derived.Test.YtimlmekgapdkiaaDoorChecked
import GoSem.Claim
import GoSem.ClaimJoined
import GoSem.ClaimMapViews
import Derived.JoinedTies
import Derived.KernelRfl
namespace Go.Proofs.YtimlmekgapdkiaaDoor
/- THE CELL 'sum', in the pinned program and in every row, IS THE sha256 OF THE DUMP (.gsa) THAT YtimlmekgapdkiaaDoorProg.lean LOADS. Nothing in Lean hashes anything: it is a label: what it is worth is what the hold of that sum in a sandbox is worth. -/
noncomputable def Tryd.pinned : Pinned := { name := "ytimlmekgapdkiaadoor", sum := "cc236d922ccb9fb764dcd6a7e9d5718f9fb8ec492b813b3ca33d2bff02086835", checked := Tryd.checked }
namespace Rows
def none {H : Type} : Left H := { results := [], args := [] }

/- WHAT THE LISTED PACKAGE-LEVEL VARIABLES READ AS WHEN THE CALL BEGINS. Each datum BY PROGRAM (the guide's laid-datum.mjs) off the statement by which the dump's own 'gosem.cut.vars' lays the variable. In a bare row this is a premise. The card (YtimlmekgapdkiaaDoorCards.lean) ties it to the program's text. -/
def laid_errors_errorType {H : Type} : DataW H := .iface "internal/reflectlite.rtype" (.agg [.ptr (.lit (.string [101, 114, 114, 111, 114]))])
def laid_casement_api_ErrText {H : Type} : DataW H := .iface "*errors.errorString" (.ptr (.agg [.lit (.string [99, 97, 115, 101, 109, 101, 110, 116, 58, 32, 116, 101, 120, 116])]))
def laid_casement_api_ErrBound {H : Type} : DataW H := .iface "*errors.errorString" (.ptr (.agg [.lit (.string [99, 97, 115, 101, 109, 101, 110, 116, 58, 32, 98, 111, 117, 110, 100])]))
def laid_casement_api_ErrName {H : Type} : DataW H := .iface "*errors.errorString" (.ptr (.agg [.lit (.string [99, 97, 115, 101, 109, 101, 110, 116, 58, 32, 110, 97, 109, 101])]))
def laid_casement_api_ErrNode {H : Type} : DataW H := .iface "*errors.errorString" (.ptr (.agg [.lit (.string [99, 97, 115, 101, 109, 101, 110, 116, 58, 32, 110, 111, 100, 101])]))
def laid_casement_api_ErrPlace {H : Type} : DataW H := .iface "*errors.errorString" (.ptr (.agg [.lit (.string [99, 97, 115, 101, 109, 101, 110, 116, 58, 32, 112, 108, 97, 99, 101])]))
def laid_casement_api_ErrShape {H : Type} : DataW H := .iface "*errors.errorString" (.ptr (.agg [.lit (.string [99, 97, 115, 101, 109, 101, 110, 116, 58, 32, 115, 104, 97, 112, 101])]))
def laid_casement_api_ErrValue {H : Type} : DataW H := .iface "*errors.errorString" (.ptr (.agg [.lit (.string [99, 97, 115, 101, 109, 101, 110, 116, 58, 32, 118, 97, 108, 117, 101])]))

/-- 'casementlaw1.Names': WHATEVER THE INPUT: true; the input reads as it did. -/
def namesSpec : ChangeSpec := { name := "names", fn := fun _ => fun
  | [] => { results := [.lit (.bool true)], args := [] }
  | _ => none }
def namesRow : OpenClaim := { program := "ytimlmekgapdkiaadoor", sum := "cc236d922ccb9fb764dcd6a7e9d5718f9fb8ec492b813b3ca33d2bff02086835", func := "casement/casementlaw1.Names", spec := "names", inPlace := ["internal/reflectlite.TypeOf", "internal/reflectlite.ValueOf", "(internal/reflectlite.Value).Type", "(internal/reflectlite.Value).IsNil", "(internal/reflectlite.Value).Elem", "(internal/reflectlite.Value).Set"], unfollowed := true, recurses := true, named := ["casement/api.ErrText", "casement/api.ErrValue", "casement/api.ErrBound", "casement/api.ErrName", "casement/api.ErrNode", "casement/api.ErrPlace", "casement/api.ErrShape", "errors.errorType"], apart := false, laid := [("errors.errorType", laid_errors_errorType), ("casement/api.ErrText", laid_casement_api_ErrText), ("casement/api.ErrBound", laid_casement_api_ErrBound), ("casement/api.ErrName", laid_casement_api_ErrName), ("casement/api.ErrNode", laid_casement_api_ErrNode), ("casement/api.ErrPlace", laid_casement_api_ErrPlace), ("casement/api.ErrShape", laid_casement_api_ErrShape), ("casement/api.ErrValue", laid_casement_api_ErrValue)] }
def NamesSaid : Prop := namesRow.holds Tryd.pinned (OpenSpec.ofChange namesSpec)

/-- ITS FALSE NEIGHBOUR: 'it returns false'. Refute it at one input. -/
def namesWrong : ChangeSpec := { name := "names", fn := fun _ => fun
  | [] => { results := [.lit (.bool false)], args := [] }
  | _ => none }
def NamesWrongFalsely : Prop := namesRow.holds Tryd.pinned (OpenSpec.ofChange namesWrong)

/-- 'casementlaw1.TreeOrders': WHATEVER THE INPUT: true; the input reads as it did. -/
def treeOrdersSpec : ChangeSpec := { name := "treeOrders", fn := fun _ => fun
  | [d1, d2, d3, d4] => { results := [.lit (.bool true)], args := [d1, d2, d3, d4] }
  | _ => none }
def treeOrdersRow : OpenClaim := { program := "ytimlmekgapdkiaadoor", sum := "cc236d922ccb9fb764dcd6a7e9d5718f9fb8ec492b813b3ca33d2bff02086835", func := "casement/casementlaw1.TreeOrders", spec := "treeOrders", inPlace := ["slices.overlaps[int]"], unfollowed := true, recurses := true, named := ["casement/api.ErrName", "casement/api.ErrBound", "casement/api.ErrNode", "casement/api.ErrPlace"], apart := false, laid := [("casement/api.ErrBound", laid_casement_api_ErrBound), ("casement/api.ErrName", laid_casement_api_ErrName), ("casement/api.ErrNode", laid_casement_api_ErrNode), ("casement/api.ErrPlace", laid_casement_api_ErrPlace)] }
def TreeOrdersSaid : Prop := treeOrdersRow.holds Tryd.pinned (OpenSpec.ofChange treeOrdersSpec)

/-- ITS FALSE NEIGHBOUR: 'it returns false'. Refute it at one input. -/
def treeOrdersWrong : ChangeSpec := { name := "treeOrders", fn := fun _ => fun
  | [d1, d2, d3, d4] => { results := [.lit (.bool false)], args := [d1, d2, d3, d4] }
  | _ => none }
def TreeOrdersWrongFalsely : Prop := treeOrdersRow.holds Tryd.pinned (OpenSpec.ofChange treeOrdersWrong)

/-- 'casementlaw1.PlainTree': WHATEVER THE INPUT: true; the input reads as it did. -/
def plainTreeSpec : ChangeSpec := { name := "plainTree", fn := fun _ => fun
  | [d] => { results := [.lit (.bool true)], args := [d] }
  | _ => none }
def plainTreeRow : OpenClaim := { program := "ytimlmekgapdkiaadoor", sum := "cc236d922ccb9fb764dcd6a7e9d5718f9fb8ec492b813b3ca33d2bff02086835", func := "casement/casementlaw1.PlainTree", spec := "plainTree", inPlace := ["slices.overlaps[int]"], unfollowed := true, recurses := true, named := ["casement/api.ErrName", "casement/api.ErrBound", "casement/api.ErrNode", "casement/api.ErrPlace"], apart := false, laid := [("casement/api.ErrBound", laid_casement_api_ErrBound), ("casement/api.ErrName", laid_casement_api_ErrName), ("casement/api.ErrNode", laid_casement_api_ErrNode), ("casement/api.ErrPlace", laid_casement_api_ErrPlace)] }
def PlainTreeSaid : Prop := plainTreeRow.holds Tryd.pinned (OpenSpec.ofChange plainTreeSpec)

/-- ITS FALSE NEIGHBOUR: 'it returns false'. Refute it at one input. -/
def plainTreeWrong : ChangeSpec := { name := "plainTree", fn := fun _ => fun
  | [d] => { results := [.lit (.bool false)], args := [d] }
  | _ => none }
def PlainTreeWrongFalsely : Prop := plainTreeRow.holds Tryd.pinned (OpenSpec.ofChange plainTreeWrong)

/-- 'casementlaw1.TreeUndoes': WHATEVER THE INPUT: true; the input reads as it did. -/
def treeUndoesSpec : ChangeSpec := { name := "treeUndoes", fn := fun _ => fun
  | [d1, d2] => { results := [.lit (.bool true)], args := [d1, d2] }
  | _ => none }
def treeUndoesRow : OpenClaim := { program := "ytimlmekgapdkiaadoor", sum := "cc236d922ccb9fb764dcd6a7e9d5718f9fb8ec492b813b3ca33d2bff02086835", func := "casement/casementlaw1.TreeUndoes", spec := "treeUndoes", inPlace := ["slices.overlaps[int]"], unfollowed := true, recurses := true, named := ["casement/api.ErrName", "casement/api.ErrBound", "casement/api.ErrNode", "casement/api.ErrPlace"], apart := false, laid := [("casement/api.ErrBound", laid_casement_api_ErrBound), ("casement/api.ErrName", laid_casement_api_ErrName), ("casement/api.ErrNode", laid_casement_api_ErrNode), ("casement/api.ErrPlace", laid_casement_api_ErrPlace)] }
def TreeUndoesSaid : Prop := treeUndoesRow.holds Tryd.pinned (OpenSpec.ofChange treeUndoesSpec)

/-- ITS FALSE NEIGHBOUR: 'it returns false'. Refute it at one input. -/
def treeUndoesWrong : ChangeSpec := { name := "treeUndoes", fn := fun _ => fun
  | [d1, d2] => { results := [.lit (.bool false)], args := [d1, d2] }
  | _ => none }
def TreeUndoesWrongFalsely : Prop := treeUndoesRow.holds Tryd.pinned (OpenSpec.ofChange treeUndoesWrong)

/-- 'casementlaw5.EventsSent': WHATEVER THE INPUT: true; the input reads as it did. -/
def eventsSentSpec : ChangeSpec := { name := "eventsSent", fn := fun _ => fun
  | [d1, d2] => { results := [.lit (.bool true)], args := [d1, d2] }
  | _ => none }
def eventsSentRow : OpenClaim := { program := "ytimlmekgapdkiaadoor", sum := "cc236d922ccb9fb764dcd6a7e9d5718f9fb8ec492b813b3ca33d2bff02086835", func := "casement/casementlaw5.EventsSent", spec := "eventsSent", inPlace := ["slices.overlaps[int]"], unfollowed := true, recurses := true, named := ["casement/api.ErrName", "casement/api.ErrBound", "casement/api.ErrNode", "casement/api.ErrPlace"], apart := false, laid := [("casement/api.ErrBound", laid_casement_api_ErrBound), ("casement/api.ErrName", laid_casement_api_ErrName), ("casement/api.ErrNode", laid_casement_api_ErrNode), ("casement/api.ErrPlace", laid_casement_api_ErrPlace)] }
def EventsSentSaid : Prop := eventsSentRow.holds Tryd.pinned (OpenSpec.ofChange eventsSentSpec)

/-- ITS FALSE NEIGHBOUR: 'it returns false'. Refute it at one input. -/
def eventsSentWrong : ChangeSpec := { name := "eventsSent", fn := fun _ => fun
  | [d1, d2] => { results := [.lit (.bool false)], args := [d1, d2] }
  | _ => none }
def EventsSentWrongFalsely : Prop := eventsSentRow.holds Tryd.pinned (OpenSpec.ofChange eventsSentWrong)

/-- 'casementlaw5.EventsRound': WHATEVER THE INPUT: true; the input reads as it did. -/
def eventsRoundSpec : ChangeSpec := { name := "eventsRound", fn := fun _ => fun
  | [d] => { results := [.lit (.bool true)], args := [d] }
  | _ => none }
def eventsRoundRow : OpenClaim := { program := "ytimlmekgapdkiaadoor", sum := "cc236d922ccb9fb764dcd6a7e9d5718f9fb8ec492b813b3ca33d2bff02086835", func := "casement/casementlaw5.EventsRound", spec := "eventsRound", inPlace := ["slices.overlaps[int]"], unfollowed := true, recurses := true, named := ["casement/api.ErrName", "casement/api.ErrBound", "casement/api.ErrNode", "casement/api.ErrPlace"], apart := false, laid := [("casement/api.ErrBound", laid_casement_api_ErrBound), ("casement/api.ErrName", laid_casement_api_ErrName), ("casement/api.ErrNode", laid_casement_api_ErrNode), ("casement/api.ErrPlace", laid_casement_api_ErrPlace)] }
def EventsRoundSaid : Prop := eventsRoundRow.holds Tryd.pinned (OpenSpec.ofChange eventsRoundSpec)

/-- ITS FALSE NEIGHBOUR: 'it returns false'. Refute it at one input. -/
def eventsRoundWrong : ChangeSpec := { name := "eventsRound", fn := fun _ => fun
  | [d] => { results := [.lit (.bool false)], args := [d] }
  | _ => none }
def EventsRoundWrongFalsely : Prop := eventsRoundRow.holds Tryd.pinned (OpenSpec.ofChange eventsRoundWrong)

/-- 'casementlaw5.EventsFocus': WHATEVER THE INPUT: true; the input reads as it did. -/
def eventsFocusSpec : ChangeSpec := { name := "eventsFocus", fn := fun _ => fun
  | [d1, d2, d3] => { results := [.lit (.bool true)], args := [d1, d2, d3] }
  | _ => none }
def eventsFocusRow : OpenClaim := { program := "ytimlmekgapdkiaadoor", sum := "cc236d922ccb9fb764dcd6a7e9d5718f9fb8ec492b813b3ca33d2bff02086835", func := "casement/casementlaw5.EventsFocus", spec := "eventsFocus", inPlace := ["slices.overlaps[int]"], unfollowed := true, recurses := true, named := ["casement/api.ErrName", "casement/api.ErrBound", "casement/api.ErrNode", "casement/api.ErrPlace"], apart := false, laid := [("casement/api.ErrBound", laid_casement_api_ErrBound), ("casement/api.ErrName", laid_casement_api_ErrName), ("casement/api.ErrNode", laid_casement_api_ErrNode), ("casement/api.ErrPlace", laid_casement_api_ErrPlace)] }
def EventsFocusSaid : Prop := eventsFocusRow.holds Tryd.pinned (OpenSpec.ofChange eventsFocusSpec)

/-- ITS FALSE NEIGHBOUR: 'it returns false'. Refute it at one input. -/
def eventsFocusWrong : ChangeSpec := { name := "eventsFocus", fn := fun _ => fun
  | [d1, d2, d3] => { results := [.lit (.bool false)], args := [d1, d2, d3] }
  | _ => none }
def EventsFocusWrongFalsely : Prop := eventsFocusRow.holds Tryd.pinned (OpenSpec.ofChange eventsFocusWrong)

/- THE SECOND FORM. 'bulk': how many values and letters a reading holds, each counted each time it is reached (what is shared counts as often as it is met; a slice's spare places count too). A statement '..UptoSaid' is the law's where the arguments, and the package variables that the reading takes, are together of bulk at most 1048576: NARROWER than '..Said'. Prove '..Said' where nothing that the law and all that it calls make is longer than what came in: it says more and counts as full. Else prove '..UptoSaid'. A law counts once. -/
mutual
def uptoBulk {H : Type} : DataW H → Nat
  | .lit (.string bytes) => bytes.length + 1
  | .lit _ => 1
  | .nil => 1
  | .ptr d => uptoBulk d + 1
  | .slice elems spare => uptoBulkAll elems + uptoBulkAll spare + 1
  | .agg parts => uptoBulkAll parts + 1
  | .iface _ d => uptoBulk d + 1
  | .map entries => uptoBulkEntries entries + 1
  | .held _ => 1
def uptoBulkAll {H : Type} : List (DataW H) → Nat
  | [] => 0
  | d :: r => uptoBulk d + uptoBulkAll r
def uptoBulkEntries {H : Type} : List (Lit × DataW H) → Nat
  | [] => 0
  | x :: r => uptoBulkEntry x + uptoBulkEntries r
def uptoBulkEntry {H : Type} : Lit × DataW H → Nat
  | (.string bytes, d) => bytes.length + uptoBulk d + 1
  | (_, d) => uptoBulk d + 1
 end
def uptoSmall : (H : Type) → List (DataW H) → Bool := fun _ ds => decide (uptoBulkAll ds ≤ 1048576)
def OpenSpec.upto (s : _root_.Go.ChangeSpec) : _root_.Go.OpenSpec := { _root_.Go.OpenSpec.ofChange s with cond := some uptoSmall }

/-- 'casementlaw1.Names', WHERE WHAT IT READS IS OF BULK AT MOST 1048576: true; the input reads as it did. -/
def namesUptoRow : OpenClaim := { program := "ytimlmekgapdkiaadoor", sum := "cc236d922ccb9fb764dcd6a7e9d5718f9fb8ec492b813b3ca33d2bff02086835", func := "casement/casementlaw1.Names", spec := "names", inPlace := ["internal/reflectlite.TypeOf", "internal/reflectlite.ValueOf", "(internal/reflectlite.Value).Type", "(internal/reflectlite.Value).IsNil", "(internal/reflectlite.Value).Elem", "(internal/reflectlite.Value).Set"], unfollowed := true, recurses := true, named := ["casement/api.ErrText", "casement/api.ErrValue", "casement/api.ErrBound", "casement/api.ErrName", "casement/api.ErrNode", "casement/api.ErrPlace", "casement/api.ErrShape", "errors.errorType"], apart := false, laid := [("errors.errorType", laid_errors_errorType), ("casement/api.ErrText", laid_casement_api_ErrText), ("casement/api.ErrBound", laid_casement_api_ErrBound), ("casement/api.ErrName", laid_casement_api_ErrName), ("casement/api.ErrNode", laid_casement_api_ErrNode), ("casement/api.ErrPlace", laid_casement_api_ErrPlace), ("casement/api.ErrShape", laid_casement_api_ErrShape), ("casement/api.ErrValue", laid_casement_api_ErrValue)], narrowed := true }
def NamesUptoSaid : Prop := namesUptoRow.holds Tryd.pinned (OpenSpec.upto namesSpec)

/-- 'casementlaw1.TreeOrders', WHERE WHAT IT READS IS OF BULK AT MOST 1048576: true; the input reads as it did. -/
def treeOrdersUptoRow : OpenClaim := { program := "ytimlmekgapdkiaadoor", sum := "cc236d922ccb9fb764dcd6a7e9d5718f9fb8ec492b813b3ca33d2bff02086835", func := "casement/casementlaw1.TreeOrders", spec := "treeOrders", inPlace := ["slices.overlaps[int]"], unfollowed := true, recurses := true, named := ["casement/api.ErrName", "casement/api.ErrBound", "casement/api.ErrNode", "casement/api.ErrPlace"], apart := false, laid := [("casement/api.ErrBound", laid_casement_api_ErrBound), ("casement/api.ErrName", laid_casement_api_ErrName), ("casement/api.ErrNode", laid_casement_api_ErrNode), ("casement/api.ErrPlace", laid_casement_api_ErrPlace)], narrowed := true }
def TreeOrdersUptoSaid : Prop := treeOrdersUptoRow.holds Tryd.pinned (OpenSpec.upto treeOrdersSpec)

/-- 'casementlaw1.PlainTree', WHERE WHAT IT READS IS OF BULK AT MOST 1048576: true; the input reads as it did. -/
def plainTreeUptoRow : OpenClaim := { program := "ytimlmekgapdkiaadoor", sum := "cc236d922ccb9fb764dcd6a7e9d5718f9fb8ec492b813b3ca33d2bff02086835", func := "casement/casementlaw1.PlainTree", spec := "plainTree", inPlace := ["slices.overlaps[int]"], unfollowed := true, recurses := true, named := ["casement/api.ErrName", "casement/api.ErrBound", "casement/api.ErrNode", "casement/api.ErrPlace"], apart := false, laid := [("casement/api.ErrBound", laid_casement_api_ErrBound), ("casement/api.ErrName", laid_casement_api_ErrName), ("casement/api.ErrNode", laid_casement_api_ErrNode), ("casement/api.ErrPlace", laid_casement_api_ErrPlace)], narrowed := true }
def PlainTreeUptoSaid : Prop := plainTreeUptoRow.holds Tryd.pinned (OpenSpec.upto plainTreeSpec)

/-- 'casementlaw1.TreeUndoes', WHERE WHAT IT READS IS OF BULK AT MOST 1048576: true; the input reads as it did. -/
def treeUndoesUptoRow : OpenClaim := { program := "ytimlmekgapdkiaadoor", sum := "cc236d922ccb9fb764dcd6a7e9d5718f9fb8ec492b813b3ca33d2bff02086835", func := "casement/casementlaw1.TreeUndoes", spec := "treeUndoes", inPlace := ["slices.overlaps[int]"], unfollowed := true, recurses := true, named := ["casement/api.ErrName", "casement/api.ErrBound", "casement/api.ErrNode", "casement/api.ErrPlace"], apart := false, laid := [("casement/api.ErrBound", laid_casement_api_ErrBound), ("casement/api.ErrName", laid_casement_api_ErrName), ("casement/api.ErrNode", laid_casement_api_ErrNode), ("casement/api.ErrPlace", laid_casement_api_ErrPlace)], narrowed := true }
def TreeUndoesUptoSaid : Prop := treeUndoesUptoRow.holds Tryd.pinned (OpenSpec.upto treeUndoesSpec)

/-- 'casementlaw5.EventsSent', WHERE WHAT IT READS IS OF BULK AT MOST 1048576: true; the input reads as it did. -/
def eventsSentUptoRow : OpenClaim := { program := "ytimlmekgapdkiaadoor", sum := "cc236d922ccb9fb764dcd6a7e9d5718f9fb8ec492b813b3ca33d2bff02086835", func := "casement/casementlaw5.EventsSent", spec := "eventsSent", inPlace := ["slices.overlaps[int]"], unfollowed := true, recurses := true, named := ["casement/api.ErrName", "casement/api.ErrBound", "casement/api.ErrNode", "casement/api.ErrPlace"], apart := false, laid := [("casement/api.ErrBound", laid_casement_api_ErrBound), ("casement/api.ErrName", laid_casement_api_ErrName), ("casement/api.ErrNode", laid_casement_api_ErrNode), ("casement/api.ErrPlace", laid_casement_api_ErrPlace)], narrowed := true }
def EventsSentUptoSaid : Prop := eventsSentUptoRow.holds Tryd.pinned (OpenSpec.upto eventsSentSpec)

/-- 'casementlaw5.EventsRound', WHERE WHAT IT READS IS OF BULK AT MOST 1048576: true; the input reads as it did. -/
def eventsRoundUptoRow : OpenClaim := { program := "ytimlmekgapdkiaadoor", sum := "cc236d922ccb9fb764dcd6a7e9d5718f9fb8ec492b813b3ca33d2bff02086835", func := "casement/casementlaw5.EventsRound", spec := "eventsRound", inPlace := ["slices.overlaps[int]"], unfollowed := true, recurses := true, named := ["casement/api.ErrName", "casement/api.ErrBound", "casement/api.ErrNode", "casement/api.ErrPlace"], apart := false, laid := [("casement/api.ErrBound", laid_casement_api_ErrBound), ("casement/api.ErrName", laid_casement_api_ErrName), ("casement/api.ErrNode", laid_casement_api_ErrNode), ("casement/api.ErrPlace", laid_casement_api_ErrPlace)], narrowed := true }
def EventsRoundUptoSaid : Prop := eventsRoundUptoRow.holds Tryd.pinned (OpenSpec.upto eventsRoundSpec)

/-- 'casementlaw5.EventsFocus', WHERE WHAT IT READS IS OF BULK AT MOST 1048576: true; the input reads as it did. -/
def eventsFocusUptoRow : OpenClaim := { program := "ytimlmekgapdkiaadoor", sum := "cc236d922ccb9fb764dcd6a7e9d5718f9fb8ec492b813b3ca33d2bff02086835", func := "casement/casementlaw5.EventsFocus", spec := "eventsFocus", inPlace := ["slices.overlaps[int]"], unfollowed := true, recurses := true, named := ["casement/api.ErrName", "casement/api.ErrBound", "casement/api.ErrNode", "casement/api.ErrPlace"], apart := false, laid := [("casement/api.ErrBound", laid_casement_api_ErrBound), ("casement/api.ErrName", laid_casement_api_ErrName), ("casement/api.ErrNode", laid_casement_api_ErrNode), ("casement/api.ErrPlace", laid_casement_api_ErrPlace)], narrowed := true }
def EventsFocusUptoSaid : Prop := eventsFocusUptoRow.holds Tryd.pinned (OpenSpec.upto eventsFocusSpec)

end Rows
end Go.Proofs.YtimlmekgapdkiaaDoor
