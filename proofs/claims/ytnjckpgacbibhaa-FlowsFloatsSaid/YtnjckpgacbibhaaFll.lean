/- FlowsFloats: the law's argument -/
import Derived.Test.YtnjckpgacbibhaaFlj
import Derived.Test.YtnjckpgacbibhaaFlk
import Derived.Test.YtnjckpgacbibhaaFlput
namespace Go.Proofs.Ytnjckpgacbibhaa
set_option linter.unusedVariables false
set_option linter.unusedSimpArgs false
open Go.RowKit Go.Cas Go.WideShapes Go.ChangeShapes

set_option maxRecDepth 100000 in
theorem W_flowsFloats {H : Type} {enc : TypeId × Value → H} {b0 base : Nat} {r : Reach} {spare : Nat → Bool} {held : Bool} {d : DataW H} {p : List MemPlace} (wd : Int) (v : Value) (y h : Int) (w : World)
    (_ : (Lit.int .i64 wd).wf = true) (hv : Value.okWide Try.prog w r b0 67 v) (hh : DataW.Trod enc Try.prog w base spare held 67 v d p) (_ : (Lit.int .i64 y).wf = true) (_ : (Lit.int .i64 h).wf = true) :
    Calls Try.prog 12 #[.int .i64 wd, v, .int .i64 y, .int .i64 h] w fun e w' => e = .returned (.bool true) ∧ Below w.heap.size w w' := by
  obtain ⟨n, L, h1, h2, h3⟩ := open_Puts hv hh
  by_cases h240 : (n : Int) > 240
  · exact W_walkFlF v n L wd y h w h240 h1 h2 h3
  · by_cases hneg : hld wd < 0
    · exact W_walkFlN v n L wd y h w h240 hneg h1 h2 h3
    · exact W_walkFlP v n L wd y h w h240 hneg h1 h2 h3
end Go.Proofs.Ytnjckpgacbibhaa
