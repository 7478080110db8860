/- a list of twigs out of its reading, weighed -/
import Derived.Test.YtimlmekgapdkiaaDoorTmz
import Derived.Test.YtimlmekgapdkiaaDoorTms
import Derived.Test.YtimlmekgapdkiaaDoorbase
import Derived.Test.YtimlmekgapdkiaaDoorRows
namespace Go.Proofs.YtimlmekgapdkiaaDoor
set_option linter.unusedVariables false
set_option linter.unusedSimpArgs false
open Go.RowKit Go.Cas Go.WideShapes Go.ChangeShapes

section
variable {H : Type} {enc : TypeId × Value → H} {b0 base : Nat} {r : Reach} {spare : Nat → Bool} {held : Bool} {d : DataW H} {p : List MemPlace} {v : Value} {w : World} {fuel : Nat} {z : DataW H × List MemPlace}
theorem bulk_one (d : DataW H) : 1 ≤ Rows.uptoBulk d := by
  cases d with
  | lit l => cases l <;> simp [Rows.uptoBulk]
  | nil => simp [Rows.uptoBulk]
  | ptr d => simp [Rows.uptoBulk]
  | slice elems spare => simp [Rows.uptoBulk]
  | agg parts => simp [Rows.uptoBulk]
  | iface t d => simp [Rows.uptoBulk]
  | map entries => simp [Rows.uptoBulk]
  | held h => simp [Rows.uptoBulk]
theorem bulk_sum (l : List (DataW H)) : Rows.uptoBulkAll l = (l.map Rows.uptoBulk).sum := by
  induction l with
  | nil => simp [Rows.uptoBulkAll]
  | cons x l ih => simp [Rows.uptoBulkAll, ih]
theorem bulk_slice (es sp : List (DataW H)) : (es.map Rows.uptoBulk).sum + 1 ≤ Rows.uptoBulk (.slice es sp) := by
  rw [← bulk_sum]
  simp only [Rows.uptoBulk]; omega
theorem sum_ones {α : Type} (l : List α) : (l.map fun _ => 1).sum = l.length := by
  induction l with
  | nil => rfl
  | cons a l ih => simp only [List.map_cons, List.sum_cons, ih, List.length_cons]; omega
theorem len_bulk {α : Type} {l : List α} {b : Nat} (h1 : 1 ≤ b) (h : l = [] ∨ (l.map fun _ => 1).sum + 1 ≤ b) : l.length + 1 ≤ b := by
  rcases h with rfl | h
  · simpa using h1
  · rw [sum_ones] at h; exact h
set_option maxRecDepth 100000 in
theorem open_AttrsW (h : DataW.trod enc Tryd.prog w base spare held fuel 84 [v] = some z) : ∃ l : List (ByteArray × ByteArray), (l.length ≤ maxLen ∧ l.length + 1 ≤ Rows.uptoBulk z.1) ∧ RdS w w.heap.size 2 v l.length (atc l) ∧ ∀ q ∈ l, q.1.size ≤ maxLen ∧ q.2.size ≤ maxLen := by
  obtain ⟨n, L, rfl, h2, h3, h4, _, h5⟩ := open_rowsW (fun q : ByteArray × ByteArray => ([.string q.1, .string q.2] : List Value)) (fun q => q.1.size ≤ maxLen ∧ q.2.size ≤ maxLen) (fun _ => 1) Rows.uptoBulk bulk_slice 2 (fun _ => rfl) (by omega) Tryd.underlying84 cells_Attr (fun m cs y hl hf' => by
    match cs, hl with
    | [c0, c1], _ =>
      obtain ⟨v0, m0, y0, e0, p0⟩ := trod_field Tryd.underlying88 (by kernel_rfl) hf' rfl 0 _ rfl
      obtain ⟨v1, m1, y1, e1, p1⟩ := trod_field Tryd.underlying88 (by kernel_rfl) hf' rfl 1 _ rfl
      obtain ⟨s0, q0, _, z0⟩ := DataW.trod_string Tryd.underlying9 p0
      obtain ⟨s1, q1, _, z1⟩ := DataW.trod_string Tryd.underlying9 p1
      simp only [List.getElem?_cons_zero, List.getElem?_cons_succ, Option.some.injEq] at e0 e1
      injection q0 with q0
      injection q1 with q1
      subst e0 e1 q0 q1
      exact ⟨(s0, s1), rfl, ⟨z0, z1⟩, bulk_one _⟩) h
  exact ⟨L, ⟨h2, len_bulk (bulk_one _) h5⟩, h3, h4⟩
set_option maxRecDepth 100000 in
theorem open_IntsW (h : DataW.trod enc Tryd.prog w base spare held fuel 75 [v] = some z) : ∃ l : List Int, (l.length ≤ maxLen ∧ l.length + 1 ≤ Rows.uptoBulk z.1) ∧ RdS w w.heap.size 1 v l.length (l.map (Value.int .i64)) ∧ ∀ k ∈ l, -9223372036854775808 ≤ k ∧ k ≤ 9223372036854775807 := by
  obtain ⟨n, L, rfl, h2, h3, h4, _, h5⟩ := open_rowsW (fun k : Int => ([.int .i64 k] : List Value)) (fun k => -9223372036854775808 ≤ k ∧ k ≤ 9223372036854775807) (fun _ => 1) Rows.uptoBulk bulk_slice 1 (fun _ => rfl) (by omega) Tryd.underlying75 cells_Int (fun m cs y hl hf' => by
    obtain ⟨k, rfl, _, hw⟩ := DataW.trod_int Tryd.underlying3 hf'
    exact ⟨k, rfl, i64_of_wf hw, bulk_one _⟩) h
  rw [map_flat] at h3
  exact ⟨L, ⟨h2, len_bulk (bulk_one _) h5⟩, h3, h4⟩
set_option maxRecDepth 100000 in
theorem open_TwigsW (hv : Value.okWide Tryd.prog w r b0 26 v) (h : DataW.Trod enc Tryd.prog w base spare held 26 v d p) :
    ∃ (n : Nat) (L : List TwV), L.length = n ∧ n ≤ maxLen ∧ RdT w w.heap.size v n L ∧ (∀ y ∈ L, y.x.at_.length ≤ maxLen ∧ y.x.ki.length ≤ maxLen) ∧ cst (L.map TwV.x) ≤ Rows.uptoBulk d := by
  obtain ⟨a0, len0, cap0, rfl⟩ := okWide_slice Tryd.underlying26 hv
  obtain ⟨fuel, hfu⟩ := h
  obtain ⟨n, L, h1, h2, h3, h4, h5, _⟩ := open_rowsW twv (fun y => (RdS w w.heap.size 2 y.va y.x.at_.length (atc y.x.at_) ∧ RdS w w.heap.size 1 y.vk y.x.ki.length (y.x.ki.map (Value.int .i64)) ∧ (y.x.tag.size ≤ maxLen ∧ y.x.txt.size ≤ maxLen) ∧ (∀ p ∈ y.x.at_, p.1.size ≤ maxLen ∧ p.2.size ≤ maxLen) ∧ ∀ k ∈ y.x.ki, -9223372036854775808 ≤ k ∧ k ≤ 9223372036854775807) ∧ y.x.at_.length ≤ maxLen ∧ y.x.ki.length ≤ maxLen) (fun y => y.x.at_.length + y.x.ki.length + 4) Rows.uptoBulk bulk_slice 5 (fun _ => rfl) (by omega) Tryd.underlying26 cells_Twig (fun m cs y hl hf' => by
    match cs, hl with
    | [c0, c1, c2, c3, c4], _ =>
      obtain ⟨xs, hx, hxl, hfs⟩ := trod_fields Tryd.underlying86 (by kernel_rfl) hf' rfl
      obtain ⟨v0, m0, y0, e0, x0, p0⟩ := hfs 0 _ rfl
      obtain ⟨v1, m1, y1, e1, x1, p1⟩ := hfs 1 _ rfl
      obtain ⟨v2, m2, y2, e2, x2, p2⟩ := hfs 2 _ rfl
      obtain ⟨v3, m3, y3, e3, x3, p3⟩ := hfs 3 _ rfl
      obtain ⟨v4, m4, y4, e4, x4, p4⟩ := hfs 4 _ rfl
      obtain ⟨k0, q0, _⟩ := DataW.trod_int Tryd.underlying3 p0
      obtain ⟨s1, q1, _, z1⟩ := DataW.trod_string Tryd.underlying9 p1
      obtain ⟨s2, q2, _, z2⟩ := DataW.trod_string Tryd.underlying9 p2
      obtain ⟨la, a1, a2, a3⟩ := open_AttrsW p3
      obtain ⟨lk, k1, k2, k3⟩ := open_IntsW p4
      have hbulk : la.length + lk.length + 4 ≤ Rows.uptoBulk y.1 := by
        have hxs : xs = [y0, y1, y2, y3, y4] := by
          have hl5 : xs.length = 5 := hxl
          match xs, hl5 with
          | [b0, b1, b2, b3, b4], _ =>
            simp only [List.getElem?_cons_zero, List.getElem?_cons_succ, Option.some.injEq] at x0 x1 x2 x3 x4
            rw [x0, x1, x2, x3, x4]
        rw [hx, hxs]
        simp only [Rows.uptoBulk, bulk_sum, List.map_cons, List.map_nil, List.sum_cons, List.sum_nil]
        have b0 := bulk_one y0.1
        have b1 := bulk_one y1.1
        have b2 := bulk_one y2.1
        have := a1.2
        have := k1.2
        omega
      simp only [List.getElem?_cons_zero, List.getElem?_cons_succ, Option.some.injEq] at e0 e1 e2 e3 e4
      injection q0 with q0
      injection q1 with q1
      injection q2 with q2
      subst e0 e1 e2 e3 e4 q0 q1 q2
      exact ⟨⟨⟨k0, s1, s2, la, lk⟩, c3, c4⟩, rfl, ⟨⟨a2, k2, ⟨z1, z2⟩, a3, k3⟩, a1.1, k1.1⟩, hbulk⟩) hfu
  refine ⟨n, L, h1, h2, ⟨h3, fun y hy => (h4 y hy).1⟩, fun y hy => (h4 y hy).2, ?_⟩
  unfold cst
  rw [List.map_map]
  exact h5
end
end Go.Proofs.YtimlmekgapdkiaaDoor
