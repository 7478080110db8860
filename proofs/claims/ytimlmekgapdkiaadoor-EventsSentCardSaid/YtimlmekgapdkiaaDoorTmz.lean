/- a list of twigs out of its reading -/
import Derived.Test.YtimlmekgapdkiaaDoorTmu
import Derived.Test.YtimlmekgapdkiaaDoorbase
namespace Go.Proofs.YtimlmekgapdkiaaDoor
set_option linter.unusedVariables false
set_option linter.unusedSimpArgs false
open Go.RowKit Go.Cas Go.WideShapes Go.ChangeShapes

theorem i64_of_wf {k : Int} (h : (Lit.int .i64 k).wf = true) : -9223372036854775808 ≤ k ∧ k ≤ 9223372036854775807 := by
  simp only [Lit.wf, Bool.and_eq_true, decide_eq_true_eq] at h
  exact h
theorem cells_Attr : Tryd.prog.cellsOf 88 = 2 := by kernel_rfl
theorem cells_Twig : Tryd.prog.cellsOf 86 = 5 := by kernel_rfl
theorem cells_Int : Tryd.prog.cellsOf 3 = 1 := by kernel_rfl
theorem map_flat (l : List Int) : l.flatMap (fun k => [Value.int .i64 k]) = l.map (Value.int .i64) := by
  induction l with
  | nil => rfl
  | cons a l ih => rw [List.flatMap_cons, List.map_cons, ih]; rfl
section
variable {H : Type} {enc : TypeId × Value → H} {b0 base : Nat} {r : Reach} {spare : Nat → Bool} {held : Bool} {d : DataW H} {p : List MemPlace} {v : Value} {w : World} {fuel : Nat} {z : DataW H × List MemPlace}
set_option maxRecDepth 100000 in
theorem open_AttrsT (h : DataW.trod enc Tryd.prog w base spare held fuel 84 [v] = some z) : ∃ l : List (ByteArray × ByteArray), l.length ≤ maxLen ∧ RdS w w.heap.size 2 v l.length (atc l) ∧ ∀ q ∈ l, q.1.size ≤ maxLen ∧ q.2.size ≤ maxLen := by
  obtain ⟨n, L, rfl, h2, h3, h4⟩ := open_rowsT (fun q : ByteArray × ByteArray => ([.string q.1, .string q.2] : List Value)) (fun q => q.1.size ≤ maxLen ∧ q.2.size ≤ maxLen) 2 (fun _ => rfl) (by omega) Tryd.underlying84 cells_Attr (fun m cs y hl hf' => by
    match cs, hl with
    | [c0, c1], _ =>
      obtain ⟨v0, m0, y0, e0, p0⟩ := trod_field Tryd.underlying88 (by kernel_rfl) hf' rfl 0 _ rfl
      obtain ⟨v1, m1, y1, e1, p1⟩ := trod_field Tryd.underlying88 (by kernel_rfl) hf' rfl 1 _ rfl
      obtain ⟨s0, q0, _, z0⟩ := DataW.trod_string Tryd.underlying9 p0
      obtain ⟨s1, q1, _, z1⟩ := DataW.trod_string Tryd.underlying9 p1
      simp only [List.getElem?_cons_zero, List.getElem?_cons_succ, Option.some.injEq] at e0 e1
      injection q0 with q0
      injection q1 with q1
      subst e0 e1 q0 q1
      exact ⟨(s0, s1), rfl, z0, z1⟩) h
  exact ⟨L, h2, h3, h4⟩
set_option maxRecDepth 100000 in
theorem open_IntsT (h : DataW.trod enc Tryd.prog w base spare held fuel 75 [v] = some z) : ∃ l : List Int, l.length ≤ maxLen ∧ RdS w w.heap.size 1 v l.length (l.map (Value.int .i64)) ∧ ∀ k ∈ l, -9223372036854775808 ≤ k ∧ k ≤ 9223372036854775807 := by
  obtain ⟨n, L, rfl, h2, h3, h4⟩ := open_rowsT (fun k : Int => ([.int .i64 k] : List Value)) (fun k => -9223372036854775808 ≤ k ∧ k ≤ 9223372036854775807) 1 (fun _ => rfl) (by omega) Tryd.underlying75 cells_Int (fun m cs y hl hf' => by
    obtain ⟨k, rfl, _, hw⟩ := DataW.trod_int Tryd.underlying3 hf'
    exact ⟨k, rfl, i64_of_wf hw⟩) h
  rw [map_flat] at h3
  exact ⟨L, h2, h3, h4⟩
set_option maxRecDepth 100000 in
theorem open_Twigs (hv : Value.okWide Tryd.prog w r b0 26 v) (h : DataW.Trod enc Tryd.prog w base spare held 26 v d p) :
    ∃ (n : Nat) (L : List TwV), L.length = n ∧ n ≤ maxLen ∧ RdT w w.heap.size v n L ∧ ∀ y ∈ L, y.x.at_.length ≤ maxLen ∧ y.x.ki.length ≤ maxLen := by
  obtain ⟨n, L, h1, h2, h3, h4⟩ := open_rows twv (fun y => (RdS w w.heap.size 2 y.va y.x.at_.length (atc y.x.at_) ∧ RdS w w.heap.size 1 y.vk y.x.ki.length (y.x.ki.map (Value.int .i64)) ∧ (y.x.tag.size ≤ maxLen ∧ y.x.txt.size ≤ maxLen) ∧ (∀ p ∈ y.x.at_, p.1.size ≤ maxLen ∧ p.2.size ≤ maxLen) ∧ ∀ k ∈ y.x.ki, -9223372036854775808 ≤ k ∧ k ≤ 9223372036854775807) ∧ y.x.at_.length ≤ maxLen ∧ y.x.ki.length ≤ maxLen) 5 (fun _ => rfl) (by omega) Tryd.underlying26 cells_Twig (fun m cs y hl hf' => by
    match cs, hl with
    | [c0, c1, c2, c3, c4], _ =>
      obtain ⟨v0, m0, y0, e0, p0⟩ := trod_field Tryd.underlying86 (by kernel_rfl) hf' rfl 0 _ rfl
      obtain ⟨v1, m1, y1, e1, p1⟩ := trod_field Tryd.underlying86 (by kernel_rfl) hf' rfl 1 _ rfl
      obtain ⟨v2, m2, y2, e2, p2⟩ := trod_field Tryd.underlying86 (by kernel_rfl) hf' rfl 2 _ rfl
      obtain ⟨v3, m3, y3, e3, p3⟩ := trod_field Tryd.underlying86 (by kernel_rfl) hf' rfl 3 _ rfl
      obtain ⟨v4, m4, y4, e4, p4⟩ := trod_field Tryd.underlying86 (by kernel_rfl) hf' rfl 4 _ rfl
      obtain ⟨k0, q0, _⟩ := DataW.trod_int Tryd.underlying3 p0
      obtain ⟨s1, q1, _, z1⟩ := DataW.trod_string Tryd.underlying9 p1
      obtain ⟨s2, q2, _, z2⟩ := DataW.trod_string Tryd.underlying9 p2
      obtain ⟨la, a1, a2, a3⟩ := open_AttrsT p3
      obtain ⟨lk, k1, k2, k3⟩ := open_IntsT p4
      simp only [List.getElem?_cons_zero, List.getElem?_cons_succ, Option.some.injEq] at e0 e1 e2 e3 e4
      injection q0 with q0
      injection q1 with q1
      injection q2 with q2
      subst e0 e1 e2 e3 e4 q0 q1 q2
      exact ⟨⟨⟨k0, s1, s2, la, lk⟩, c3, c4⟩, rfl, ⟨a2, k2, ⟨z1, z2⟩, a3, k3⟩, a1, k1⟩) hv h
  exact ⟨n, L, h1, h2, ⟨h3, fun y hy => (h4 y hy).1⟩, fun y hy => (h4 y hy).2⟩
end
end Go.Proofs.YtimlmekgapdkiaaDoor
