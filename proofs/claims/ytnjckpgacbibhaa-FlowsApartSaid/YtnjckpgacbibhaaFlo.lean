/- FlowsApart: the law's argument -/
import Derived.Test.YtnjckpgacbibhaaFln
import Derived.Test.YtnjckpgacbibhaaFlput
namespace Go.Proofs.Ytnjckpgacbibhaa
set_option linter.unusedVariables false
set_option linter.unusedSimpArgs false
open Go.RowKit Go.Cas Go.WideShapes Go.ChangeShapes
set_option maxRecDepth 100000 in
theorem W_flowsApart {H : Type} {enc : TypeId × Value → H} {b0 base : Nat} {r : Reach} {spare : Nat → Bool} {held : Bool} {d : DataW H} {p : List MemPlace} (wd : Int) (v : Value) (w : World)
    (_ : (Lit.int .i64 wd).wf = true) (hv : Value.okWide Try.prog w r b0 67 v) (hh : DataW.Trod enc Try.prog w base spare held 67 v d p) :
    Calls Try.prog 11 #[.int .i64 wd, v] w fun e w' => e = .returned (.bool true) ∧ Below w.heap.size w w' := by
  obtain ⟨n, L, h1, h2, h3⟩ := open_Puts hv hh
  exact W_walkAp v n L wd w h1 h2 h3
end Go.Proofs.Ytnjckpgacbibhaa
