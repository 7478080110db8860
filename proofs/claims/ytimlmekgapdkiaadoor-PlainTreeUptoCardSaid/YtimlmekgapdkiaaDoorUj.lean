/- the document's tree: a new one -/
import Derived.Test.YtimlmekgapdkiaaDoorUi
import Derived.Test.YtimlmekgapdkiaaDoorTmo
import Derived.Handy
namespace Go.Proofs.YtimlmekgapdkiaaDoor
set_option linter.unusedVariables false
set_option linter.unusedSimpArgs false
open Go.RowKit Go.Cas

def NtRet (w : World) (e : Ending) (w' : World) : Prop := ∃ L, e = .returned (.agg #[.slice (some ⟨L, 0, none⟩) 1 1, .slice none 0 0]) ∧ w.heap.size ≤ L ∧ Bk w' L 105 #[.int .i64 1, .string ByteArray.empty, .string ByteArray.empty, .slice none 0 0, .int .i64 (-1), .slice none 0 0] ∧ Below w.heap.size w w'
theorem c_rNewTree (w : World) : Calls Tryd.prog 50 #[] w (NtRet w) := by
  go_enter Tryd.func50, Tryd.ntmps50
  go_wp2_with fail
  go_returns
  refine ⟨w.heap.size + 1, rfl, by omega, bk_new' _ _ _ (by simp), bl_alloc (bl_alloc (Below.refl _ _) _) _⟩
end Go.Proofs.YtimlmekgapdkiaaDoor
