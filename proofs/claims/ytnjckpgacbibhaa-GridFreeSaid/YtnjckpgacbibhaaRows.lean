/-
  No cell of these rows narrows 'for every input' (looked for: loops, veiled, ifaces, maps, wideKeys, modest, calm, conditions, laid).
  DERIVED. THE GIVEN ROWS OF THIS SEAT. 12 by the template 'for every input the law returns true; each argument reads behind the call as it read before'; 0 by the template 'total and deterministic' (their statements: YtnjckpgacbibhaaTotals.lean).
  GIVEN WITH THE SEED: the statements are not yours to turn. If you find one false, say at which input.
  Laid BY PROGRAM, IN A SANDBOX (cutbox-rows.mjs): the forced cells as the released guide's own fill.sh prints them over the translation 4fa77fa80c976e0b… (all of the seat's roots in one cut). By AI agents, Wed Nov 11 2026. No macro, syntax, notation, axiom, sorry.
-/
import Derived.Test.YtnjckpgacbibhaaChecked
import GoSem.Claim
import GoSem.ClaimJoined
import GoSem.ClaimMapViews
import Derived.JoinedTies
import Derived.KernelRfl
namespace Go.Proofs.Ytnjckpgacbibhaa
/- THE CELL 'sum', in the pinned program and in every row, IS THE sha256 OF THE DUMP (.gsa) THAT YtnjckpgacbibhaaProg.lean LOADS. Nothing in Lean hashes anything: it is a label: what it is worth is what the hold of that sum in a sandbox is worth. -/
noncomputable def Try.pinned : Pinned := { name := "ytnjckpgacbibhaa", sum := "4fa77fa80c976e0b7133523a4a2687185b19fc6d725cff8109bc23aa144208b9", checked := Try.checked }
namespace Rows
def none {H : Type} : Left H := { results := [], args := [] }

/-- 'casementlaw4.FlowsMargins': WHATEVER THE INPUT: true; the input reads as it did. -/
def flowsMarginsSpec : ChangeSpec := { name := "flowsMargins", fn := fun _ => fun
  | [d1, d2, d3] => { results := [.lit (.bool true)], args := [d1, d2, d3] }
  | _ => none }
def flowsMarginsRow : OpenClaim := { program := "ytnjckpgacbibhaa", sum := "4fa77fa80c976e0b7133523a4a2687185b19fc6d725cff8109bc23aa144208b9", func := "casement/casementlaw4.FlowsMargins", spec := "flowsMargins", plainKeys := false, apart := false }
def FlowsMarginsSaid : Prop := flowsMarginsRow.holds Try.pinned (OpenSpec.ofChange flowsMarginsSpec)

/-- ITS FALSE NEIGHBOUR: 'it returns false'. Refute it at one input. -/
def flowsMarginsWrong : ChangeSpec := { name := "flowsMargins", fn := fun _ => fun
  | [d1, d2, d3] => { results := [.lit (.bool false)], args := [d1, d2, d3] }
  | _ => none }
def FlowsMarginsWrongFalsely : Prop := flowsMarginsRow.holds Try.pinned (OpenSpec.ofChange flowsMarginsWrong)

/-- 'casementlaw5.PaintPicture': WHATEVER THE INPUT: true; the input reads as it did. -/
def paintPictureSpec : ChangeSpec := { name := "paintPicture", fn := fun _ => fun
  | [d1, d2, d3] => { results := [.lit (.bool true)], args := [d1, d2, d3] }
  | _ => none }
def paintPictureRow : OpenClaim := { program := "ytnjckpgacbibhaa", sum := "4fa77fa80c976e0b7133523a4a2687185b19fc6d725cff8109bc23aa144208b9", func := "casement/casementlaw5.PaintPicture", spec := "paintPicture", plainKeys := false, apart := false }
def PaintPictureSaid : Prop := paintPictureRow.holds Try.pinned (OpenSpec.ofChange paintPictureSpec)

/-- ITS FALSE NEIGHBOUR: 'it returns false'. Refute it at one input. -/
def paintPictureWrong : ChangeSpec := { name := "paintPicture", fn := fun _ => fun
  | [d1, d2, d3] => { results := [.lit (.bool false)], args := [d1, d2, d3] }
  | _ => none }
def PaintPictureWrongFalsely : Prop := paintPictureRow.holds Try.pinned (OpenSpec.ofChange paintPictureWrong)

/-- 'casementlaw1.InkParts': WHATEVER THE INPUT: true; the input reads as it did. -/
def inkPartsSpec : ChangeSpec := { name := "inkParts", fn := fun _ => fun
  | [d1, d2, d3] => { results := [.lit (.bool true)], args := [d1, d2, d3] }
  | _ => none }
def inkPartsRow : OpenClaim := { program := "ytnjckpgacbibhaa", sum := "4fa77fa80c976e0b7133523a4a2687185b19fc6d725cff8109bc23aa144208b9", func := "casement/casementlaw1.InkParts", spec := "inkParts", plainKeys := false, apart := false }
def InkPartsSaid : Prop := inkPartsRow.holds Try.pinned (OpenSpec.ofChange inkPartsSpec)

/-- ITS FALSE NEIGHBOUR: 'it returns false'. Refute it at one input. -/
def inkPartsWrong : ChangeSpec := { name := "inkParts", fn := fun _ => fun
  | [d1, d2, d3] => { results := [.lit (.bool false)], args := [d1, d2, d3] }
  | _ => none }
def InkPartsWrongFalsely : Prop := inkPartsRow.holds Try.pinned (OpenSpec.ofChange inkPartsWrong)

/-- 'casementlaw1.InkWidths': WHATEVER THE INPUT: true; the input reads as it did. -/
def inkWidthsSpec : ChangeSpec := { name := "inkWidths", fn := fun _ => fun
  | [d1, d2] => { results := [.lit (.bool true)], args := [d1, d2] }
  | _ => none }
def inkWidthsRow : OpenClaim := { program := "ytnjckpgacbibhaa", sum := "4fa77fa80c976e0b7133523a4a2687185b19fc6d725cff8109bc23aa144208b9", func := "casement/casementlaw1.InkWidths", spec := "inkWidths", plainKeys := false, apart := false }
def InkWidthsSaid : Prop := inkWidthsRow.holds Try.pinned (OpenSpec.ofChange inkWidthsSpec)

/-- ITS FALSE NEIGHBOUR: 'it returns false'. Refute it at one input. -/
def inkWidthsWrong : ChangeSpec := { name := "inkWidths", fn := fun _ => fun
  | [d1, d2] => { results := [.lit (.bool false)], args := [d1, d2] }
  | _ => none }
def InkWidthsWrongFalsely : Prop := inkWidthsRow.holds Try.pinned (OpenSpec.ofChange inkWidthsWrong)

/-- 'casementlaw1.InkBreaks': WHATEVER THE INPUT: true; the input reads as it did. -/
def inkBreaksSpec : ChangeSpec := { name := "inkBreaks", fn := fun _ => fun
  | [d] => { results := [.lit (.bool true)], args := [d] }
  | _ => none }
def inkBreaksRow : OpenClaim := { program := "ytnjckpgacbibhaa", sum := "4fa77fa80c976e0b7133523a4a2687185b19fc6d725cff8109bc23aa144208b9", func := "casement/casementlaw1.InkBreaks", spec := "inkBreaks", plainKeys := false, apart := false }
def InkBreaksSaid : Prop := inkBreaksRow.holds Try.pinned (OpenSpec.ofChange inkBreaksSpec)

/-- ITS FALSE NEIGHBOUR: 'it returns false'. Refute it at one input. -/
def inkBreaksWrong : ChangeSpec := { name := "inkBreaks", fn := fun _ => fun
  | [d] => { results := [.lit (.bool false)], args := [d] }
  | _ => none }
def InkBreaksWrongFalsely : Prop := inkBreaksRow.holds Try.pinned (OpenSpec.ofChange inkBreaksWrong)

/-- 'casementlaw4.FlowsWidths': WHATEVER THE INPUT: true; the input reads as it did. -/
def flowsWidthsSpec : ChangeSpec := { name := "flowsWidths", fn := fun _ => fun
  | [d] => { results := [.lit (.bool true)], args := [d] }
  | _ => none }
def flowsWidthsRow : OpenClaim := { program := "ytnjckpgacbibhaa", sum := "4fa77fa80c976e0b7133523a4a2687185b19fc6d725cff8109bc23aa144208b9", func := "casement/casementlaw4.FlowsWidths", spec := "flowsWidths", plainKeys := false, apart := false }
def FlowsWidthsSaid : Prop := flowsWidthsRow.holds Try.pinned (OpenSpec.ofChange flowsWidthsSpec)

/-- ITS FALSE NEIGHBOUR: 'it returns false'. Refute it at one input. -/
def flowsWidthsWrong : ChangeSpec := { name := "flowsWidths", fn := fun _ => fun
  | [d] => { results := [.lit (.bool false)], args := [d] }
  | _ => none }
def FlowsWidthsWrongFalsely : Prop := flowsWidthsRow.holds Try.pinned (OpenSpec.ofChange flowsWidthsWrong)

/-- 'casementlaw4.FlexPlaces': WHATEVER THE INPUT: true; the input reads as it did. -/
def flexPlacesSpec : ChangeSpec := { name := "flexPlaces", fn := fun _ => fun
  | [d1, d2, d3, d4] => { results := [.lit (.bool true)], args := [d1, d2, d3, d4] }
  | _ => none }
def flexPlacesRow : OpenClaim := { program := "ytnjckpgacbibhaa", sum := "4fa77fa80c976e0b7133523a4a2687185b19fc6d725cff8109bc23aa144208b9", func := "casement/casementlaw4.FlexPlaces", spec := "flexPlaces", plainKeys := false, apart := false }
def FlexPlacesSaid : Prop := flexPlacesRow.holds Try.pinned (OpenSpec.ofChange flexPlacesSpec)

/-- ITS FALSE NEIGHBOUR: 'it returns false'. Refute it at one input. -/
def flexPlacesWrong : ChangeSpec := { name := "flexPlaces", fn := fun _ => fun
  | [d1, d2, d3, d4] => { results := [.lit (.bool false)], args := [d1, d2, d3, d4] }
  | _ => none }
def FlexPlacesWrongFalsely : Prop := flexPlacesRow.holds Try.pinned (OpenSpec.ofChange flexPlacesWrong)

/-- 'casementlaw4.FlowsFixed': WHATEVER THE INPUT: true; the input reads as it did. -/
def flowsFixedSpec : ChangeSpec := { name := "flowsFixed", fn := fun _ => fun
  | [d] => { results := [.lit (.bool true)], args := [d] }
  | _ => none }
def flowsFixedRow : OpenClaim := { program := "ytnjckpgacbibhaa", sum := "4fa77fa80c976e0b7133523a4a2687185b19fc6d725cff8109bc23aa144208b9", func := "casement/casementlaw4.FlowsFixed", spec := "flowsFixed", plainKeys := false, apart := false }
def FlowsFixedSaid : Prop := flowsFixedRow.holds Try.pinned (OpenSpec.ofChange flowsFixedSpec)

/-- ITS FALSE NEIGHBOUR: 'it returns false'. Refute it at one input. -/
def flowsFixedWrong : ChangeSpec := { name := "flowsFixed", fn := fun _ => fun
  | [d] => { results := [.lit (.bool false)], args := [d] }
  | _ => none }
def FlowsFixedWrongFalsely : Prop := flowsFixedRow.holds Try.pinned (OpenSpec.ofChange flowsFixedWrong)

/-- 'casementlaw4.FlowsApart': WHATEVER THE INPUT: true; the input reads as it did. -/
def flowsApartSpec : ChangeSpec := { name := "flowsApart", fn := fun _ => fun
  | [d1, d2] => { results := [.lit (.bool true)], args := [d1, d2] }
  | _ => none }
def flowsApartRow : OpenClaim := { program := "ytnjckpgacbibhaa", sum := "4fa77fa80c976e0b7133523a4a2687185b19fc6d725cff8109bc23aa144208b9", func := "casement/casementlaw4.FlowsApart", spec := "flowsApart", unfollowed := true, recurses := true, plainKeys := false, apart := false }
def FlowsApartSaid : Prop := flowsApartRow.holds Try.pinned (OpenSpec.ofChange flowsApartSpec)

/-- ITS FALSE NEIGHBOUR: 'it returns false'. Refute it at one input. -/
def flowsApartWrong : ChangeSpec := { name := "flowsApart", fn := fun _ => fun
  | [d1, d2] => { results := [.lit (.bool false)], args := [d1, d2] }
  | _ => none }
def FlowsApartWrongFalsely : Prop := flowsApartRow.holds Try.pinned (OpenSpec.ofChange flowsApartWrong)

/-- 'casementlaw4.FlowsFloats': WHATEVER THE INPUT: true; the input reads as it did. -/
def flowsFloatsSpec : ChangeSpec := { name := "flowsFloats", fn := fun _ => fun
  | [d1, d2, d3, d4] => { results := [.lit (.bool true)], args := [d1, d2, d3, d4] }
  | _ => none }
def flowsFloatsRow : OpenClaim := { program := "ytnjckpgacbibhaa", sum := "4fa77fa80c976e0b7133523a4a2687185b19fc6d725cff8109bc23aa144208b9", func := "casement/casementlaw4.FlowsFloats", spec := "flowsFloats", unfollowed := true, recurses := true, plainKeys := false, apart := false }
def FlowsFloatsSaid : Prop := flowsFloatsRow.holds Try.pinned (OpenSpec.ofChange flowsFloatsSpec)

/-- ITS FALSE NEIGHBOUR: 'it returns false'. Refute it at one input. -/
def flowsFloatsWrong : ChangeSpec := { name := "flowsFloats", fn := fun _ => fun
  | [d1, d2, d3, d4] => { results := [.lit (.bool false)], args := [d1, d2, d3, d4] }
  | _ => none }
def FlowsFloatsWrongFalsely : Prop := flowsFloatsRow.holds Try.pinned (OpenSpec.ofChange flowsFloatsWrong)

/-- 'casementlaw4.GridPlaces': WHATEVER THE INPUT: true; the input reads as it did. -/
def gridPlacesSpec : ChangeSpec := { name := "gridPlaces", fn := fun _ => fun
  | [d1, d2] => { results := [.lit (.bool true)], args := [d1, d2] }
  | _ => none }
def gridPlacesRow : OpenClaim := { program := "ytnjckpgacbibhaa", sum := "4fa77fa80c976e0b7133523a4a2687185b19fc6d725cff8109bc23aa144208b9", func := "casement/casementlaw4.GridPlaces", spec := "gridPlaces", unfollowed := true, recurses := true, plainKeys := false, apart := false }
def GridPlacesSaid : Prop := gridPlacesRow.holds Try.pinned (OpenSpec.ofChange gridPlacesSpec)

/-- ITS FALSE NEIGHBOUR: 'it returns false'. Refute it at one input. -/
def gridPlacesWrong : ChangeSpec := { name := "gridPlaces", fn := fun _ => fun
  | [d1, d2] => { results := [.lit (.bool false)], args := [d1, d2] }
  | _ => none }
def GridPlacesWrongFalsely : Prop := gridPlacesRow.holds Try.pinned (OpenSpec.ofChange gridPlacesWrong)

/-- 'casementlaw4.GridFree': WHATEVER THE INPUT: true; the input reads as it did. -/
def gridFreeSpec : ChangeSpec := { name := "gridFree", fn := fun _ => fun
  | [d1, d2] => { results := [.lit (.bool true)], args := [d1, d2] }
  | _ => none }
def gridFreeRow : OpenClaim := { program := "ytnjckpgacbibhaa", sum := "4fa77fa80c976e0b7133523a4a2687185b19fc6d725cff8109bc23aa144208b9", func := "casement/casementlaw4.GridFree", spec := "gridFree", unfollowed := true, recurses := true, plainKeys := false, apart := false }
def GridFreeSaid : Prop := gridFreeRow.holds Try.pinned (OpenSpec.ofChange gridFreeSpec)

/-- ITS FALSE NEIGHBOUR: 'it returns false'. Refute it at one input. -/
def gridFreeWrong : ChangeSpec := { name := "gridFree", fn := fun _ => fun
  | [d1, d2] => { results := [.lit (.bool false)], args := [d1, d2] }
  | _ => none }
def GridFreeWrongFalsely : Prop := gridFreeRow.holds Try.pinned (OpenSpec.ofChange gridFreeWrong)

/- THE SECOND FORM. 'bulk': how many values and letters a reading holds, each counted each time it is reached (what is shared counts as often as it is met; a slice's spare places count too). A statement '..UptoSaid' is the law's where the arguments, and the package variables that the reading takes, are together of bulk at most 1048576: NARROWER than '..Said'. Prove '..Said' where nothing that the law and all that it calls make is longer than what came in: it says more and counts as full. Else prove '..UptoSaid'. A law counts once. -/
mutual
def uptoBulk {H : Type} : DataW H → Nat
  | .lit (.string bytes) => bytes.length + 1
  | .lit _ => 1
  | .nil => 1
  | .ptr d => uptoBulk d + 1
  | .slice elems spare => uptoBulkAll elems + uptoBulkAll spare + 1
  | .agg parts => uptoBulkAll parts + 1
  | .iface _ d => uptoBulk d + 1
  | .map entries => uptoBulkEntries entries + 1
  | .held _ => 1
def uptoBulkAll {H : Type} : List (DataW H) → Nat
  | [] => 0
  | d :: r => uptoBulk d + uptoBulkAll r
def uptoBulkEntries {H : Type} : List (Lit × DataW H) → Nat
  | [] => 0
  | x :: r => uptoBulkEntry x + uptoBulkEntries r
def uptoBulkEntry {H : Type} : Lit × DataW H → Nat
  | (.string bytes, d) => bytes.length + uptoBulk d + 1
  | (_, d) => uptoBulk d + 1
 end
def uptoSmall : (H : Type) → List (DataW H) → Bool := fun _ ds => decide (uptoBulkAll ds ≤ 1048576)
def OpenSpec.upto (s : _root_.Go.ChangeSpec) : _root_.Go.OpenSpec := { _root_.Go.OpenSpec.ofChange s with cond := some uptoSmall }

/-- 'casementlaw4.FlowsMargins', WHERE WHAT IT READS IS OF BULK AT MOST 1048576: true; the input reads as it did. -/
def flowsMarginsUptoRow : OpenClaim := { program := "ytnjckpgacbibhaa", sum := "4fa77fa80c976e0b7133523a4a2687185b19fc6d725cff8109bc23aa144208b9", func := "casement/casementlaw4.FlowsMargins", spec := "flowsMargins", plainKeys := false, apart := false, narrowed := true }
def FlowsMarginsUptoSaid : Prop := flowsMarginsUptoRow.holds Try.pinned (OpenSpec.upto flowsMarginsSpec)

/-- 'casementlaw5.PaintPicture', WHERE WHAT IT READS IS OF BULK AT MOST 1048576: true; the input reads as it did. -/
def paintPictureUptoRow : OpenClaim := { program := "ytnjckpgacbibhaa", sum := "4fa77fa80c976e0b7133523a4a2687185b19fc6d725cff8109bc23aa144208b9", func := "casement/casementlaw5.PaintPicture", spec := "paintPicture", plainKeys := false, apart := false, narrowed := true }
def PaintPictureUptoSaid : Prop := paintPictureUptoRow.holds Try.pinned (OpenSpec.upto paintPictureSpec)

/-- 'casementlaw1.InkParts', WHERE WHAT IT READS IS OF BULK AT MOST 1048576: true; the input reads as it did. -/
def inkPartsUptoRow : OpenClaim := { program := "ytnjckpgacbibhaa", sum := "4fa77fa80c976e0b7133523a4a2687185b19fc6d725cff8109bc23aa144208b9", func := "casement/casementlaw1.InkParts", spec := "inkParts", plainKeys := false, apart := false, narrowed := true }
def InkPartsUptoSaid : Prop := inkPartsUptoRow.holds Try.pinned (OpenSpec.upto inkPartsSpec)

/-- 'casementlaw1.InkWidths', WHERE WHAT IT READS IS OF BULK AT MOST 1048576: true; the input reads as it did. -/
def inkWidthsUptoRow : OpenClaim := { program := "ytnjckpgacbibhaa", sum := "4fa77fa80c976e0b7133523a4a2687185b19fc6d725cff8109bc23aa144208b9", func := "casement/casementlaw1.InkWidths", spec := "inkWidths", plainKeys := false, apart := false, narrowed := true }
def InkWidthsUptoSaid : Prop := inkWidthsUptoRow.holds Try.pinned (OpenSpec.upto inkWidthsSpec)

/-- 'casementlaw1.InkBreaks', WHERE WHAT IT READS IS OF BULK AT MOST 1048576: true; the input reads as it did. -/
def inkBreaksUptoRow : OpenClaim := { program := "ytnjckpgacbibhaa", sum := "4fa77fa80c976e0b7133523a4a2687185b19fc6d725cff8109bc23aa144208b9", func := "casement/casementlaw1.InkBreaks", spec := "inkBreaks", plainKeys := false, apart := false, narrowed := true }
def InkBreaksUptoSaid : Prop := inkBreaksUptoRow.holds Try.pinned (OpenSpec.upto inkBreaksSpec)

/-- 'casementlaw4.FlowsWidths', WHERE WHAT IT READS IS OF BULK AT MOST 1048576: true; the input reads as it did. -/
def flowsWidthsUptoRow : OpenClaim := { program := "ytnjckpgacbibhaa", sum := "4fa77fa80c976e0b7133523a4a2687185b19fc6d725cff8109bc23aa144208b9", func := "casement/casementlaw4.FlowsWidths", spec := "flowsWidths", plainKeys := false, apart := false, narrowed := true }
def FlowsWidthsUptoSaid : Prop := flowsWidthsUptoRow.holds Try.pinned (OpenSpec.upto flowsWidthsSpec)

/-- 'casementlaw4.FlexPlaces', WHERE WHAT IT READS IS OF BULK AT MOST 1048576: true; the input reads as it did. -/
def flexPlacesUptoRow : OpenClaim := { program := "ytnjckpgacbibhaa", sum := "4fa77fa80c976e0b7133523a4a2687185b19fc6d725cff8109bc23aa144208b9", func := "casement/casementlaw4.FlexPlaces", spec := "flexPlaces", plainKeys := false, apart := false, narrowed := true }
def FlexPlacesUptoSaid : Prop := flexPlacesUptoRow.holds Try.pinned (OpenSpec.upto flexPlacesSpec)

/-- 'casementlaw4.FlowsFixed', WHERE WHAT IT READS IS OF BULK AT MOST 1048576: true; the input reads as it did. -/
def flowsFixedUptoRow : OpenClaim := { program := "ytnjckpgacbibhaa", sum := "4fa77fa80c976e0b7133523a4a2687185b19fc6d725cff8109bc23aa144208b9", func := "casement/casementlaw4.FlowsFixed", spec := "flowsFixed", plainKeys := false, apart := false, narrowed := true }
def FlowsFixedUptoSaid : Prop := flowsFixedUptoRow.holds Try.pinned (OpenSpec.upto flowsFixedSpec)

/-- 'casementlaw4.FlowsApart', WHERE WHAT IT READS IS OF BULK AT MOST 1048576: true; the input reads as it did. -/
def flowsApartUptoRow : OpenClaim := { program := "ytnjckpgacbibhaa", sum := "4fa77fa80c976e0b7133523a4a2687185b19fc6d725cff8109bc23aa144208b9", func := "casement/casementlaw4.FlowsApart", spec := "flowsApart", unfollowed := true, recurses := true, plainKeys := false, apart := false, narrowed := true }
def FlowsApartUptoSaid : Prop := flowsApartUptoRow.holds Try.pinned (OpenSpec.upto flowsApartSpec)

/-- 'casementlaw4.FlowsFloats', WHERE WHAT IT READS IS OF BULK AT MOST 1048576: true; the input reads as it did. -/
def flowsFloatsUptoRow : OpenClaim := { program := "ytnjckpgacbibhaa", sum := "4fa77fa80c976e0b7133523a4a2687185b19fc6d725cff8109bc23aa144208b9", func := "casement/casementlaw4.FlowsFloats", spec := "flowsFloats", unfollowed := true, recurses := true, plainKeys := false, apart := false, narrowed := true }
def FlowsFloatsUptoSaid : Prop := flowsFloatsUptoRow.holds Try.pinned (OpenSpec.upto flowsFloatsSpec)

/-- 'casementlaw4.GridPlaces', WHERE WHAT IT READS IS OF BULK AT MOST 1048576: true; the input reads as it did. -/
def gridPlacesUptoRow : OpenClaim := { program := "ytnjckpgacbibhaa", sum := "4fa77fa80c976e0b7133523a4a2687185b19fc6d725cff8109bc23aa144208b9", func := "casement/casementlaw4.GridPlaces", spec := "gridPlaces", unfollowed := true, recurses := true, plainKeys := false, apart := false, narrowed := true }
def GridPlacesUptoSaid : Prop := gridPlacesUptoRow.holds Try.pinned (OpenSpec.upto gridPlacesSpec)

/-- 'casementlaw4.GridFree', WHERE WHAT IT READS IS OF BULK AT MOST 1048576: true; the input reads as it did. -/
def gridFreeUptoRow : OpenClaim := { program := "ytnjckpgacbibhaa", sum := "4fa77fa80c976e0b7133523a4a2687185b19fc6d725cff8109bc23aa144208b9", func := "casement/casementlaw4.GridFree", spec := "gridFree", unfollowed := true, recurses := true, plainKeys := false, apart := false, narrowed := true }
def GridFreeUptoSaid : Prop := gridFreeUptoRow.holds Try.pinned (OpenSpec.upto gridFreeSpec)

end Rows
end Go.Proofs.Ytnjckpgacbibhaa
