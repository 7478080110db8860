/- the document's tree: an attribute's value is another one: the memory -/
import Derived.Test.YtimlmekgapdkiaaDoorUk
namespace Go.Proofs.YtimlmekgapdkiaaDoor
set_option linter.unusedVariables false
set_option linter.unusedSimpArgs false
open Go.RowKit Go.Cas

/-- a cell of a node's attributes is written -/
theorem RT.setV {w : World} {B R L cap nT i g n c : Nat} {tv : Value} {xs : List Value} {τ : Nat → Nat} {M : List NV} {y : NV} (h : RT B R L cap nT tv xs τ M w) (hy : M[i]? = some y) (hva : y.va = .slice (some ⟨g, 0, none⟩) n c) (l : List (ByteArray × ByteArray)) (j : Nat) (u : Value) (hl : l.length = y.x.at_.length) (hu : (atc y.x.at_).set j u = atc l) :
    RT B R L cap nT tv xs τ (M.set i { y with x := { y.x with at_ := l } }) (w.setCell ⟨g, j, none⟩ u) := by
  have hg : τ g = 5 + i := h.tA i y hy g (by rw [hva]; rfl)
  have hk : ∀ k, τ k ≠ 5 + i → (w.setCell ⟨g, j, none⟩ u).heap[k]? = w.heap[k]? := fun k hn => Below.heap_setCell w ⟨g, j, none⟩ u k (fun e => hn (by rw [show k = g from e]; exact hg))
  have hs : (w.setCell ⟨g, j, none⟩ u).heap.size = w.heap.size := by simp [World.setCell]
  have get : ∀ (q : Nat) z, (M.set i { y with x := { y.x with at_ := l } })[q]? = some z → (q = i ∧ z = { y with x := { y.x with at_ := l } }) ∨ (q ≠ i ∧ M[q]? = some z) := fun q z hz => by
    rw [List.getElem?_set] at hz
    by_cases e : i = q
    · rw [if_pos e] at hz
      split at hz
      · injection hz with hz; exact .inl ⟨e.symm, hz.symm⟩
      · cases hz
    · rw [if_neg e] at hz; exact .inr ⟨fun e2 => e e2.symm, hz⟩
  have hflat : (M.set i { y with x := { y.x with at_ := l } }).flatMap nvc = M.flatMap nvc := by
    have := flat_set nvc 6 (fun _ => rfl) M i 3 y { y with x := { y.x with at_ := l } } y.va hy (by omega) rfl
    rw [← this]
    have hq := flat_get nvc 6 (fun _ => rfl) M i 3 y hy (by omega)
    have h3 : (M.flatMap nvc)[i * 6 + 3]? = some y.va := hq.trans rfl
    obtain ⟨hlt, he⟩ := List.getElem?_eq_some_iff.1 h3
    rw [← he]; simp
  refine ⟨?_, ?_, own_keep h.ow (fun k e => hk k (by rw [h.tT k e]; omega)), fun q z hz => ?_, fun q z hz => ?_, h.tR, h.tL, h.tT, fun q z hz k e => ?_, fun k hf => by rw [hs]; exact h.tB k hf⟩
  · rw [List.length_set]
    exact (hk R (by rw [h.tR]; omega)).trans h.root
  · rw [List.length_set, hflat]
    exact h.row.at_ (hk L (by rw [h.tL]; omega))
  · rcases get q z hz with ⟨rfl, rfl⟩ | ⟨hq, hz⟩
    · have ho := h.at_ q y hy
      rw [hva] at ho ⊢
      have := own_setN ho j u
      rw [hu] at this
      rw [hl]
      exact this
    · refine own_keep (h.at_ q z hz) (fun k e => hk k ?_)
      rw [h.tA q z hz k e]; omega
  · rcases get q z hz with ⟨rfl, rfl⟩ | ⟨hq, hz⟩
    · exact (h.ki q y hy).keep (fun k e => hk k (by rw [show τ k = 4 from e]; omega)) (fun _ h => h)
    · exact (h.ki q z hz).keep (fun k e => hk k (by rw [show τ k = 4 from e]; omega)) (fun _ h => h)
  · rcases get q z hz with ⟨rfl, rfl⟩ | ⟨hq, hz⟩
    · exact h.tA q y hy k e
    · exact h.tA q z hz k e
end Go.Proofs.YtimlmekgapdkiaaDoor
