/- seat C: two sorted parts become one, in place -/
import Derived.Test.YtdpnpjficcciiaaSc
namespace Go.Proofs.Ytdpnpjficcciiaa
set_option linter.unusedVariables false
set_option linter.unusedSimpArgs false
open Go.RowKit Go.Cas

theorem two_cells {B g cap n : Nat} {w0 : World} {L : List Nd} {p q : Nat} {x y : Nd} (hx : L[p]? = some x) (hy : L[q]? = some y) : ∀ w', SOk B g cap n w0 L w' → w'.cell? ⟨g, p * 3, none⟩ = some (.int .i64 x.fr) ∧ w'.cell? ⟨g, p * 3 + 1, none⟩ = some (.int .i64 x.sp) ∧ w'.cell? ⟨g, p * 3 + 2, none⟩ = some (.int .i64 x.sz) ∧ w'.cell? ⟨g, q * 3, none⟩ = some (.int .i64 y.fr) ∧ w'.cell? ⟨g, q * 3 + 1, none⟩ = some (.int .i64 y.sp) ∧ w'.cell? ⟨g, q * 3 + 2, none⟩ = some (.int .i64 y.sz) := fun w' h => by
  obtain ⟨d0, d1, d2⟩ := h.cells hx
  obtain ⟨e0, e1, e2⟩ := h.cells hy
  exact ⟨d0, d1, d2, e0, e1, e2⟩
theorem rotL_id {α : Type} {L : List α} {a m b : Nat} (h1 : a ≤ m) (h2 : m ≤ b) (h3 : b ≤ L.length) (h : a = m ∨ m = b) : rotL L a m b = L := by
  apply List.ext_getElem?
  intro q
  rw [rot_get h1 h2 h3]
  congr 1
  unfold rix
  split
  · rfl
  · split <;> omega
end Go.Proofs.Ytdpnpjficcciiaa
