/- plain (no program): a struct's fields out of its reading -/
import Derived.ProofKit
import Derived.Deep.Fields
import Derived.Lib.SmallJoins
import Derived.Test.YtimlmekgapdkiaaDoormem
import Derived.ChangeSlices
namespace Go.Cas
set_option linter.unusedVariables false
set_option linter.unusedSimpArgs false
open Go.ChangeShapes Go.WideShapes Go.Deep
section
variable {H : Type} {enc : TypeId × Value → H} {P : Program} {w : World} {base : Nat} {spare : Nat → Bool} {held : Bool}
theorem trod_field {t : TypeId} {fs : Array Field} {fuel : Nat} {cs : List Value} {x : DataW H × List MemPlace} (ht : P.underlying t = some (.struct fs)) (hone : oneCellFields P fs = true)
    (h : DataW.trod enc P w base spare held fuel t cs = some x) (hl : cs.length = fs.size) : ∀ (i : Nat) (f : Field), fs[i]? = some f → ∃ v n y, cs[i]? = some v ∧ DataW.trod enc P w base spare held n f.type [v] = some y := by
  obtain ⟨xs, n, _, _, hlen, hxl, hg⟩ := DataW.trod_struct ht h
  intro i f hi
  obtain ⟨ho, hk⟩ := hone_of hone i f hi
  have hlt : i < fs.size := (Array.getElem?_eq_some_iff.1 hi).1
  have h1 := hg i f hi
  rw [ho, hk, List.drop_eq_getElem_cons (by omega)] at h1
  have hx : xs[i]? = some (xs[i]'(by omega)) := List.getElem?_eq_getElem (by omega)
  have h2 : List.take 1 (cs[i]'(by omega) :: List.drop (i + 1) cs) = [cs[i]'(by omega)] := rfl
  rw [h2] at h1
  exact ⟨cs[i]'(by omega), n, _, List.getElem?_eq_getElem (by omega), h1.trans hx⟩
theorem field_int {t : TypeId} {fs : Array Field} {fuel : Nat} {cs : List Value} {x : DataW H × List MemPlace} (ht : P.underlying t = some (.struct fs)) (hone : oneCellFields P fs = true)
    (h : DataW.trod enc P w base spare held fuel t cs = some x) (hl : cs.length = fs.size) {i : Nat} {f : Field} {k : IntKind} (hi : fs[i]? = some f) (hf : P.underlying f.type = some (.int k)) : ∃ n : Int, cs[i]? = some (.int k n) ∧ (Lit.int k n).wf = true := by
  obtain ⟨v, m, y, hv, hy⟩ := trod_field ht hone h hl i f hi
  obtain ⟨n, h1, _, h2⟩ := DataW.trod_int hf hy
  injection h1 with h1
  exact ⟨n, by rw [hv, h1], h2⟩
theorem field_bool {t : TypeId} {fs : Array Field} {fuel : Nat} {cs : List Value} {x : DataW H × List MemPlace} (ht : P.underlying t = some (.struct fs)) (hone : oneCellFields P fs = true)
    (h : DataW.trod enc P w base spare held fuel t cs = some x) (hl : cs.length = fs.size) {i : Nat} {f : Field} (hi : fs[i]? = some f) (hf : P.underlying f.type = some .bool) : ∃ b : Bool, cs[i]? = some (.bool b) := by
  obtain ⟨v, m, y, hv, hy⟩ := trod_field ht hone h hl i f hi
  obtain ⟨n, h1, _⟩ := DataW.trod_bool hf hy
  injection h1 with h1
  exact ⟨n, by rw [hv, h1]⟩
theorem add_none (b o i : Nat) : (⟨b, o, none⟩ : Addr).add i = ⟨b, o + i, none⟩ := by
  unfold Addr.add; split
  · rename_i h; subst h; rfl
  · rfl
theorem open_list {t e : TypeId} {k : IntKind} {r : Reach} {b0 : Nat} {v : Value} {d : DataW H} {p : List MemPlace} (ht : P.underlying t = some (.slice e)) (he : P.underlying e = some (.int k)) (hc : P.cellsOf e = 1)
    (hv : Value.okWide P w r b0 t v) (h : DataW.Trod enc P w base spare held t v d p) :
    ∃ (n : Nat) (L : List Int), L.length = n ∧ n ≤ maxLen ∧ RdS w w.heap.size 1 v n (L.map (Value.int k)) ∧ ∀ x ∈ L, (Lit.int k x).wf = true := by
  obtain ⟨a0, len0, cap0, rfl⟩ := okWide_slice ht hv
  obtain ⟨fuel, hf⟩ := h
  rcases open_ints ht he hc hf with ⟨hcs, _⟩ | ⟨a, len, cap, zs, hcs, _, hl, hm, hz, _, hcell, hwz⟩
  · simp [Value.cells] at hcs
    obtain ⟨rfl, rfl, rfl⟩ := hcs
    exact ⟨0, [], rfl, Nat.zero_le _, RdS.nil _ _ _, by simp⟩
  · simp [Value.cells] at hcs
    obtain ⟨rfl, rfl, rfl⟩ := hcs
    have hzl : len0 ≤ zs.length := by rw [hz]; split <;> omega
    refine ⟨len0, zs.take len0, by simp; omega, by omega, ⟨by simp; omega, some a, cap0, rfl, hl, fun hn => ?_⟩, fun x hx => hwz x (List.mem_of_mem_take hx)⟩
    obtain ⟨b, o, sp⟩ := a
    have h0 := hcell 0 (by omega)
    have hsp : sp = none := by simpa [Addr.add] using World.cell?_spot h0
    subst hsp
    refine ⟨b, o, rfl, ?_, fun j u hu => ?_⟩
    · rw [add_none] at h0
      rcases Nat.lt_or_ge b w.heap.size with hlt | hge
      · exact hlt
      · simp [World.cell?, Array.getElem?_eq_none hge] at h0
    · have hj : j < len0 := by
        have := (List.getElem?_eq_some_iff.1 hu).1
        simp at this; omega
      have h1 := hcell j (by omega)
      rw [add_none] at h1
      rw [h1]
      have : (zs.take len0)[j]? = some (zs.getD j 0) := by
        rw [List.getElem?_take_of_lt hj, List.getD_eq_getElem?_getD, List.getElem?_eq_getElem (by omega)]; rfl
      rw [List.getElem?_map, this] at hu
      exact hu
end
end Go.Cas
