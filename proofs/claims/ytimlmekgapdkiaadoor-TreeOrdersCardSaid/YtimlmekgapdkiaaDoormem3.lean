/- plain (no program): more of what an append leaves -/
import Derived.Test.YtimlmekgapdkiaaDoormem2
namespace Go.Cas
set_option linter.unusedVariables false
set_option linter.unusedSimpArgs false
open Go.RowKit
theorem Pushed.form {w0 w' : World} {base n size : Nat} {e : TypeId} {v v' : Value} {xs ys : List Value} (h : Pushed w0 base e size v n xs ys v' w') : ∃ g c, v' = .slice (some ⟨g, 0, none⟩) (n + 1) c ∧ base ≤ g ∧ g < w'.heap.size := by
  obtain ⟨g, cap, e, _, hg⟩ := h.own.form (by omega)
  exact ⟨g, cap, e, (own_lt h.own (k := g) (by rw [e]; rfl)).1, hg⟩
theorem Pushed.cellR {w0 w' : World} {base n size : Nat} {e : TypeId} {v v' : Value} {xs ys : List Value} (h : Pushed w0 base e size v n xs ys v' w') {k : Nat} (hk : k < w0.heap.size) (hn : v.ownBlock ≠ some k) (o : Nat) : w'.cell? ⟨k, o, none⟩ = w0.cell? ⟨k, o, none⟩ ∧ w'.frozen? ⟨k, o, none⟩ = w0.frozen? ⟨k, o, none⟩ :=
  ⟨h.grown.cell_far ⟨k, o, none⟩ hk (fun e => hn e.symm), h.grown.frozen_far ⟨k, o, none⟩ hk (fun e => hn e.symm)⟩
theorem own_keep {w w' : World} {base n size : Nat} {e : TypeId} {v : Value} {xs : List Value} (ho : w.ownsRow base e size v n xs) (hk : ∀ k, v.ownBlock = some k → w'.heap[k]? = w.heap[k]?) : w'.ownsRow base e size v n xs := by
  refine ⟨ho.1, ?_⟩
  rcases ho.2 with h1 | ⟨g, cap, cur, rfl, hb, hgg, rest⟩
  · exact .inl h1
  · exact .inr ⟨g, cap, cur, rfl, hb, (hk g rfl).trans hgg, rest⟩
theorem own_less {w : World} {base n c g size : Nat} {e : TypeId} {xs ys : List Value} (h : w.ownsRow base e size (.slice (some ⟨g, 0, none⟩) (n + 1) c) (n + 1) (xs ++ ys)) (hx : xs.length = n * size) : w.ownsRow base e size (.slice (some ⟨g, 0, none⟩) n c) n xs := by
  rcases h.2 with ⟨h1, _⟩ | ⟨g', cap, cur, e1, hb, hh, hn, hm, hc, ht⟩
  · cases h1
  · injection e1 with e1 _ e2
    injection e1 with e1
    injection e1 with e1
    subst e1 e2
    refine ⟨hx, .inr ⟨g, c, cur, rfl, hb, hh, by omega, hm, hc, ?_⟩⟩
    have := congrArg (List.take (n * size)) ht
    rw [List.take_take, Nat.min_eq_left (by rw [Nat.succ_mul]; omega), List.take_append_of_le_length (Nat.le_of_eq hx.symm)] at this
    exact this.trans (List.take_of_length_le (Nat.le_of_eq hx))
theorem own_setN {w : World} {base n m cap g size : Nat} {e : TypeId} {xs : List Value} (h : w.ownsRow base e size (.slice (some ⟨g, 0, none⟩) n cap) m xs) (i : Nat) (u : Value) : (w.setCell ⟨g, i, none⟩ u).ownsRow base e size (.slice (some ⟨g, 0, none⟩) n cap) m (xs.set i u) := by
  obtain ⟨h1, h2⟩ := h
  refine ⟨by simpa using h1, ?_⟩
  rcases h2 with ⟨h3, _⟩ | ⟨g', cap', cur, h3, h4, h5, h6, h7, h8, h9⟩
  · cases h3
  · injection h3 with e1 e2 e3
    injection e1 with e1
    injection e1 with e1
    subst e1 e2 e3
    refine .inr ⟨g, cap, cur.setIfInBounds i u, rfl, h4, Bk.set_ h5 i u, h6, h7, by simpa using h8, ?_⟩
    rw [Array.toList_setIfInBounds, List.take_set, h9]
theorem own_free {w : World} {base n m cap g size : Nat} {e : TypeId} {xs : List Value} (h : w.ownsRow base e size (.slice (some ⟨g, 0, none⟩) n cap) m xs) (i : Nat) : w.frozen? ⟨g, i, none⟩ = false := by
  rcases h.2 with ⟨h3, _⟩ | ⟨g', cap', cur, h3, h4, h5, _⟩
  · cases h3
  · injection h3 with e1 e2 e3
    injection e1 with e1
    injection e1 with e1
    subst e1
    exact Bk.free h5 i
end Go.Cas
