/- plain (no program): a struct's fields out of its reading -/
import Derived.ProofKit
import Derived.Deep.Fields
import Derived.Lib.SmallJoins
namespace Go.Cas
set_option linter.unusedVariables false
set_option linter.unusedSimpArgs false
open Go.ChangeShapes Go.WideShapes Go.Deep
section
variable {H : Type} {enc : TypeId × Value → H} {P : Program} {w : World} {base : Nat} {spare : Nat → Bool} {held : Bool}
theorem trod_field {t : TypeId} {fs : Array Field} {fuel : Nat} {cs : List Value} {x : DataW H × List MemPlace} (ht : P.underlying t = some (.struct fs)) (hone : oneCellFields P fs = true)
    (h : DataW.trod enc P w base spare held fuel t cs = some x) (hl : cs.length = fs.size) : ∀ (i : Nat) (f : Field), fs[i]? = some f → ∃ v n y, cs[i]? = some v ∧ DataW.trod enc P w base spare held n f.type [v] = some y := by
  obtain ⟨xs, n, _, _, hlen, hxl, hg⟩ := DataW.trod_struct ht h
  intro i f hi
  obtain ⟨ho, hk⟩ := hone_of hone i f hi
  have hlt : i < fs.size := (Array.getElem?_eq_some_iff.1 hi).1
  have h1 := hg i f hi
  rw [ho, hk, List.drop_eq_getElem_cons (by omega)] at h1
  have hx : xs[i]? = some (xs[i]'(by omega)) := List.getElem?_eq_getElem (by omega)
  have h2 : List.take 1 (cs[i]'(by omega) :: List.drop (i + 1) cs) = [cs[i]'(by omega)] := rfl
  rw [h2] at h1
  exact ⟨cs[i]'(by omega), n, _, List.getElem?_eq_getElem (by omega), h1.trans hx⟩
theorem field_int {t : TypeId} {fs : Array Field} {fuel : Nat} {cs : List Value} {x : DataW H × List MemPlace} (ht : P.underlying t = some (.struct fs)) (hone : oneCellFields P fs = true)
    (h : DataW.trod enc P w base spare held fuel t cs = some x) (hl : cs.length = fs.size) {i : Nat} {f : Field} {k : IntKind} (hi : fs[i]? = some f) (hf : P.underlying f.type = some (.int k)) : ∃ n : Int, cs[i]? = some (.int k n) ∧ (Lit.int k n).wf = true := by
  obtain ⟨v, m, y, hv, hy⟩ := trod_field ht hone h hl i f hi
  obtain ⟨n, h1, _, h2⟩ := DataW.trod_int hf hy
  injection h1 with h1
  exact ⟨n, by rw [hv, h1], h2⟩
theorem field_bool {t : TypeId} {fs : Array Field} {fuel : Nat} {cs : List Value} {x : DataW H × List MemPlace} (ht : P.underlying t = some (.struct fs)) (hone : oneCellFields P fs = true)
    (h : DataW.trod enc P w base spare held fuel t cs = some x) (hl : cs.length = fs.size) {i : Nat} {f : Field} (hi : fs[i]? = some f) (hf : P.underlying f.type = some .bool) : ∃ b : Bool, cs[i]? = some (.bool b) := by
  obtain ⟨v, m, y, hv, hy⟩ := trod_field ht hone h hl i f hi
  obtain ⟨n, h1, _⟩ := DataW.trod_bool hf hy
  injection h1 with h1
  exact ⟨n, by rw [hv, h1]⟩
end
end Go.Cas
