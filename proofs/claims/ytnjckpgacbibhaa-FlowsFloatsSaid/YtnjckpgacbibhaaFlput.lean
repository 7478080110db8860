/- floats: the law's list of them -/
import Derived.Test.YtnjckpgacbibhaaFli
namespace Go.Proofs.Ytnjckpgacbibhaa
set_option linter.unusedVariables false
set_option linter.unusedSimpArgs false
open Go.RowKit Go.Cas Go.WideShapes Go.ChangeShapes

theorem cells_Put : Try.prog.cellsOf 71 = 7 := by kernel_rfl
set_option maxRecDepth 100000 in
theorem open_Puts {H : Type} {enc : TypeId × Value → H} {b0 base : Nat} {r : Reach} {spare : Nat → Bool} {held : Bool} {d : DataW H} {p : List MemPlace} {v : Value} {w : World}
    (hv : Value.okWide Try.prog w r b0 67 v) (h : DataW.Trod enc Try.prog w base spare held 67 v d p) :
    ∃ (n : Nat) (L : List PutC), L.length = n ∧ n ≤ maxLen ∧ RdS w w.heap.size 7 v n (L.flatMap pc) := by
  obtain ⟨n, L, h1, h2, h3, _⟩ := open_rows pc (fun _ => True) 7 (fun _ => rfl) (by omega) Try.underlying67 cells_Put (fun m cs y hl hf' => by
    match cs, hl with
    | [c0, c1, c2, c3, c4, c5, c6], _ =>
      obtain ⟨x0, e0⟩ := field_bool Try.underlying71 (by kernel_rfl) hf' rfl (i := 0) rfl Try.underlying4
      obtain ⟨x1, e1⟩ := field_bool Try.underlying71 (by kernel_rfl) hf' rfl (i := 1) rfl Try.underlying4
      obtain ⟨x2, e2, _⟩ := field_int (k := .i64) Try.underlying71 (by kernel_rfl) hf' rfl (i := 2) rfl Try.underlying3
      obtain ⟨x3, e3, _⟩ := field_int (k := .i64) Try.underlying71 (by kernel_rfl) hf' rfl (i := 3) rfl Try.underlying3
      obtain ⟨x4, e4, _⟩ := field_int (k := .i64) Try.underlying71 (by kernel_rfl) hf' rfl (i := 4) rfl Try.underlying3
      obtain ⟨x5, e5, _⟩ := field_int (k := .i64) Try.underlying71 (by kernel_rfl) hf' rfl (i := 5) rfl Try.underlying3
      obtain ⟨x6, e6, _⟩ := field_int (k := .i64) Try.underlying71 (by kernel_rfl) hf' rfl (i := 6) rfl Try.underlying3
      simp only [List.getElem?_cons_zero, List.getElem?_cons_succ, Option.some.injEq] at e0 e1 e2 e3 e4 e5 e6
      subst e0 e1 e2 e3 e4 e5 e6
      exact ⟨⟨x0, x1, x2, x3, x4, x5, x6⟩, rfl, trivial⟩) hv h
  exact ⟨n, L, h1, h2, h3⟩
end Go.Proofs.Ytnjckpgacbibhaa
