/-
  No cell of these rows narrows 'for every input' (looked for: loops, veiled, ifaces, maps, wideKeys, modest, calm, conditions, laid).
  DERIVED. THE GIVEN ROWS OF THIS SEAT. 3 by the template 'for every input the law returns true; each argument reads behind the call as it read before'; 0 by the template 'total and deterministic' (their statements: YtdpnpjficcciiaaTotals.lean).
  GIVEN WITH THE SEED: the statements are not yours to turn. If you find one false, say at which input.
  Laid BY PROGRAM, IN A SANDBOX (cutbox-rows.mjs): the forced cells as the released guide's own fill.sh prints them over the translation cff8b78229b08a4d… (all of the seat's roots in one cut). By AI agents, Wed Nov 11 2026. No macro, syntax, notation, axiom, sorry.
-/
import Derived.Test.YtdpnpjficcciiaaChecked
import GoSem.Claim
import GoSem.ClaimJoined
import GoSem.ClaimMapViews
import Derived.JoinedTies
import Derived.KernelRfl
namespace Go.Proofs.Ytdpnpjficcciiaa
/- THE CELL 'sum', in the pinned program and in every row, IS THE sha256 OF THE DUMP (.gsa) THAT YtdpnpjficcciiaaProg.lean LOADS. Nothing in Lean hashes anything: it is a label: what it is worth is what the hold of that sum in a sandbox is worth. -/
noncomputable def Try.pinned : Pinned := { name := "ytdpnpjficcciiaa", sum := "cff8b78229b08a4d3fbf1db4318cbf464b5ae68e7b4138e883a5fa967ba8d79a", checked := Try.checked }
namespace Rows
def none {H : Type} : Left H := { results := [], args := [] }

/-- 'casementlaw4.FlexSums': WHATEVER THE INPUT: true; the input reads as it did. -/
def flexSumsSpec : ChangeSpec := { name := "flexSums", fn := fun _ => fun
  | [d1, d2, d3] => { results := [.lit (.bool true)], args := [d1, d2, d3] }
  | _ => none }
def flexSumsRow : OpenClaim := { program := "ytdpnpjficcciiaa", sum := "cff8b78229b08a4d3fbf1db4318cbf464b5ae68e7b4138e883a5fa967ba8d79a", func := "casement/casementlaw4.FlexSums", spec := "flexSums", named := ["math/bits.divideError", "math/bits.overflowError"], apart := false }
def FlexSumsSaid : Prop := flexSumsRow.holds Try.pinned (OpenSpec.ofChange flexSumsSpec)

/-- ITS FALSE NEIGHBOUR: 'it returns false'. Refute it at one input. -/
def flexSumsWrong : ChangeSpec := { name := "flexSums", fn := fun _ => fun
  | [d1, d2, d3] => { results := [.lit (.bool false)], args := [d1, d2, d3] }
  | _ => none }
def FlexSumsWrongFalsely : Prop := flexSumsRow.holds Try.pinned (OpenSpec.ofChange flexSumsWrong)

/-- 'casementlaw4.FlexShares': WHATEVER THE INPUT: true; the input reads as it did. -/
def flexSharesSpec : ChangeSpec := { name := "flexShares", fn := fun _ => fun
  | [d1, d2, d3, d4] => { results := [.lit (.bool true)], args := [d1, d2, d3, d4] }
  | _ => none }
def flexSharesRow : OpenClaim := { program := "ytdpnpjficcciiaa", sum := "cff8b78229b08a4d3fbf1db4318cbf464b5ae68e7b4138e883a5fa967ba8d79a", func := "casement/casementlaw4.FlexShares", spec := "flexShares", named := ["math/bits.divideError", "math/bits.overflowError"], apart := false }
def FlexSharesSaid : Prop := flexSharesRow.holds Try.pinned (OpenSpec.ofChange flexSharesSpec)

/-- ITS FALSE NEIGHBOUR: 'it returns false'. Refute it at one input. -/
def flexSharesWrong : ChangeSpec := { name := "flexShares", fn := fun _ => fun
  | [d1, d2, d3, d4] => { results := [.lit (.bool false)], args := [d1, d2, d3, d4] }
  | _ => none }
def FlexSharesWrongFalsely : Prop := flexSharesRow.holds Try.pinned (OpenSpec.ofChange flexSharesWrong)

/-- 'casementlaw4.GridTracks': WHATEVER THE INPUT: true; the input reads as it did. -/
def gridTracksSpec : ChangeSpec := { name := "gridTracks", fn := fun _ => fun
  | [d1, d2, d3, d4] => { results := [.lit (.bool true)], args := [d1, d2, d3, d4] }
  | _ => none }
def gridTracksRow : OpenClaim := { program := "ytdpnpjficcciiaa", sum := "cff8b78229b08a4d3fbf1db4318cbf464b5ae68e7b4138e883a5fa967ba8d79a", func := "casement/casementlaw4.GridTracks", spec := "gridTracks", unfollowed := true, recurses := true, named := ["math/bits.divideError", "math/bits.overflowError"], apart := false }
def GridTracksSaid : Prop := gridTracksRow.holds Try.pinned (OpenSpec.ofChange gridTracksSpec)

/-- ITS FALSE NEIGHBOUR: 'it returns false'. Refute it at one input. -/
def gridTracksWrong : ChangeSpec := { name := "gridTracks", fn := fun _ => fun
  | [d1, d2, d3, d4] => { results := [.lit (.bool false)], args := [d1, d2, d3, d4] }
  | _ => none }
def GridTracksWrongFalsely : Prop := gridTracksRow.holds Try.pinned (OpenSpec.ofChange gridTracksWrong)

/- THE SECOND FORM. 'bulk': how many values and letters a reading holds, each counted each time it is reached (what is shared counts as often as it is met; a slice's spare places count too). A statement '..UptoSaid' is the law's where the arguments, and the package variables that the reading takes, are together of bulk at most 1048576: NARROWER than '..Said'. Prove '..Said' where nothing that the law and all that it calls make is longer than what came in: it says more and counts as full. Else prove '..UptoSaid'. A law counts once. -/
mutual
def uptoBulk {H : Type} : DataW H → Nat
  | .lit (.string bytes) => bytes.length + 1
  | .lit _ => 1
  | .nil => 1
  | .ptr d => uptoBulk d + 1
  | .slice elems spare => uptoBulkAll elems + uptoBulkAll spare + 1
  | .agg parts => uptoBulkAll parts + 1
  | .iface _ d => uptoBulk d + 1
  | .map entries => uptoBulkEntries entries + 1
  | .held _ => 1
def uptoBulkAll {H : Type} : List (DataW H) → Nat
  | [] => 0
  | d :: r => uptoBulk d + uptoBulkAll r
def uptoBulkEntries {H : Type} : List (Lit × DataW H) → Nat
  | [] => 0
  | x :: r => uptoBulkEntry x + uptoBulkEntries r
def uptoBulkEntry {H : Type} : Lit × DataW H → Nat
  | (.string bytes, d) => bytes.length + uptoBulk d + 1
  | (_, d) => uptoBulk d + 1
 end
def uptoSmall : (H : Type) → List (DataW H) → Bool := fun _ ds => decide (uptoBulkAll ds ≤ 1048576)
def OpenSpec.upto (s : _root_.Go.ChangeSpec) : _root_.Go.OpenSpec := { _root_.Go.OpenSpec.ofChange s with cond := some uptoSmall }

/-- 'casementlaw4.FlexSums', WHERE WHAT IT READS IS OF BULK AT MOST 1048576: true; the input reads as it did. -/
def flexSumsUptoRow : OpenClaim := { program := "ytdpnpjficcciiaa", sum := "cff8b78229b08a4d3fbf1db4318cbf464b5ae68e7b4138e883a5fa967ba8d79a", func := "casement/casementlaw4.FlexSums", spec := "flexSums", named := ["math/bits.divideError", "math/bits.overflowError"], apart := false, narrowed := true }
def FlexSumsUptoSaid : Prop := flexSumsUptoRow.holds Try.pinned (OpenSpec.upto flexSumsSpec)

/-- 'casementlaw4.FlexShares', WHERE WHAT IT READS IS OF BULK AT MOST 1048576: true; the input reads as it did. -/
def flexSharesUptoRow : OpenClaim := { program := "ytdpnpjficcciiaa", sum := "cff8b78229b08a4d3fbf1db4318cbf464b5ae68e7b4138e883a5fa967ba8d79a", func := "casement/casementlaw4.FlexShares", spec := "flexShares", named := ["math/bits.divideError", "math/bits.overflowError"], apart := false, narrowed := true }
def FlexSharesUptoSaid : Prop := flexSharesUptoRow.holds Try.pinned (OpenSpec.upto flexSharesSpec)

/-- 'casementlaw4.GridTracks', WHERE WHAT IT READS IS OF BULK AT MOST 1048576: true; the input reads as it did. -/
def gridTracksUptoRow : OpenClaim := { program := "ytdpnpjficcciiaa", sum := "cff8b78229b08a4d3fbf1db4318cbf464b5ae68e7b4138e883a5fa967ba8d79a", func := "casement/casementlaw4.GridTracks", spec := "gridTracks", unfollowed := true, recurses := true, named := ["math/bits.divideError", "math/bits.overflowError"], apart := false, narrowed := true }
def GridTracksUptoSaid : Prop := gridTracksUptoRow.holds Try.pinned (OpenSpec.upto gridTracksSpec)

end Rows
end Go.Proofs.Ytdpnpjficcciiaa
