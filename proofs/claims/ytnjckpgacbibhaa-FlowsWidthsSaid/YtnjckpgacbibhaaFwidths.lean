/- FlowsWidths: the walk -/
import Derived.Test.YtnjckpgacbibhaaWg
import Derived.Test.Ytnjckpgacbibhaaopen
namespace Go.Proofs.Ytnjckpgacbibhaa
set_option linter.unusedVariables false
set_option linter.unusedSimpArgs false
open Go.RowKit Go.Cas Go.WideShapes Go.ChangeShapes

theorem cells_W : Try.prog.cellsOf 51 = 10 := by kernel_rfl
set_option maxRecDepth 100000 in
theorem open_W {H : Type} {enc : TypeId × Value → H} {w : World} {r : Reach} {b0 base : Nat} {spare : Nat → Bool} {held : Bool} {v : Value} {d : DataW H} {p : List MemPlace}
    (hv : Value.okWide Try.prog w r b0 51 v) (h : DataW.Trod enc Try.prog w base spare held 51 v d p) :
    ∃ (x0 : Int) (x1 : Int) (x2 : Int) (x3 : Int) (x4 : Int) (x5 : Int) (x6 : Int) (x7 : Bool) (x8 : Bool) (x9 : Bool), v = aggW x0 x1 x2 x3 x4 x5 x6 x7 x8 x9 := by
  obtain ⟨cs, rfl, hsz⟩ := okWide_struct Try.underlying51 hv
  obtain ⟨l⟩ := cs
  have hl : l.length = 10 := by rw [← cells_W]; exact hsz
  obtain ⟨fuel, hf⟩ := h
  have hf' : DataW.trod enc Try.prog w base spare held fuel 51 l = some (d, p) := hf
  match l, hl with
  | [c0, c1, c2, c3, c4, c5, c6, c7, c8, c9], _ =>
    obtain ⟨x0, e0, _⟩ := field_int (k := .i64) Try.underlying51 (by kernel_rfl) hf' rfl (i := 0) rfl Try.underlying3
    obtain ⟨x1, e1, _⟩ := field_int (k := .i64) Try.underlying51 (by kernel_rfl) hf' rfl (i := 1) rfl Try.underlying3
    obtain ⟨x2, e2, _⟩ := field_int (k := .i64) Try.underlying51 (by kernel_rfl) hf' rfl (i := 2) rfl Try.underlying3
    obtain ⟨x3, e3, _⟩ := field_int (k := .i64) Try.underlying51 (by kernel_rfl) hf' rfl (i := 3) rfl Try.underlying3
    obtain ⟨x4, e4, _⟩ := field_int (k := .i64) Try.underlying51 (by kernel_rfl) hf' rfl (i := 4) rfl Try.underlying3
    obtain ⟨x5, e5, _⟩ := field_int (k := .i64) Try.underlying51 (by kernel_rfl) hf' rfl (i := 5) rfl Try.underlying3
    obtain ⟨x6, e6, _⟩ := field_int (k := .i64) Try.underlying51 (by kernel_rfl) hf' rfl (i := 6) rfl Try.underlying3
    obtain ⟨x7, e7⟩ := field_bool Try.underlying51 (by kernel_rfl) hf' rfl (i := 7) rfl Try.underlying4
    obtain ⟨x8, e8⟩ := field_bool Try.underlying51 (by kernel_rfl) hf' rfl (i := 8) rfl Try.underlying4
    obtain ⟨x9, e9⟩ := field_bool Try.underlying51 (by kernel_rfl) hf' rfl (i := 9) rfl Try.underlying4
    simp only [List.getElem?_cons_zero, List.getElem?_cons_succ, Option.some.injEq] at e0 e1 e2 e3 e4 e5 e6 e7 e8 e9
    subst e0 e1 e2 e3 e4 e5 e6 e7 e8 e9
    exact ⟨x0, x1, x2, x3, x4, x5, x6, x7, x8, x9, rfl⟩

theorem sol_one : solW 10 0 0 0 0 0 (-1) false true false = .tuple #[.int .i64 0, .int .i64 10, .int .i64 0] := by kernel_rfl
set_option maxHeartbeats 1000000 in
theorem W_walk (a b c d e f g : Int) (x y z : Bool) (w : World) :
    Calls Try.prog 8 #[aggW a b c d e f g x y z] w fun en w' => en = .returned (.bool true) ∧ Below w.heap.size w w' := by
  obtain ⟨p, q, r, hs⟩ : ∃ p q r : Int, refW a b c d e f g x y z = .tuple #[.int .i64 p, .int .i64 q, .int .i64 r] := ⟨_, _, _, rfl⟩
  have HS := Lib.hid hs
  clear hs
  go_enter Try.func8, Try.ntmps8
  go_wp2_with fail
  refine (c_SolveW _ _ _ _ _ _ _ _ _ _ _).mono ?_; rintro en w1 ⟨rfl, hb1⟩
  rw [sol_ref, HS.out]
  have k1 := ((Bk.new w 51 #[.int .i64 a, .int .i64 b, .int .i64 c, .int .i64 d, .int .i64 e, .int .i64 f, .int .i64 g, .bool x, .bool y, .bool z]).alloc _).below hb1 (by simp; omega)
  have b1 : Below w.heap.size w w1 := bl_trans (bl_alloc (bl_alloc (Below.refl _ _) _) _) hb1
  have c1 := k1.cell; have l1 := k1.lt
  clear hb1 k1
  go_wp2_with fail
  refine (c_SolveWidth _ _ _ _ _ _ _ _ _ _ _).mono ?_; rintro en w2 ⟨rfl, hb2⟩
  rw [HS.out]
  have b2 := bl_trans b1 hb2
  clear hb2 c1 l1
  go_wp2_with fail
  refine (c_SolveW _ _ _ _ _ _ _ _ _ _ _).mono ?_; rintro en w3 ⟨rfl, hb3⟩
  rw [sol_one]
  go_wp2_with fail
  go_ret
  exact ⟨rfl, bl_trans (bl_alloc b2 _) hb3⟩
set_option maxRecDepth 100000 in
theorem W_flowsWidths {H : Type} {enc : TypeId × Value → H} {r : Reach} {b0 base : Nat} {spare : Nat → Bool} {held : Bool} {d : DataW H} {p : List MemPlace} (v : Value) (w : World)
    (hv : Value.okWide Try.prog w r b0 51 v) (h : DataW.Trod enc Try.prog w base spare held 51 v d p) :
    Calls Try.prog 8 #[v] w fun en w' => en = .returned (.bool true) ∧ Below w.heap.size w w' := by
  obtain ⟨a, b, c, d, e, f, g, x, y, z, rfl⟩ := open_W hv h
  exact W_walk _ _ _ _ _ _ _ _ _ _ _
end Go.Proofs.Ytnjckpgacbibhaa
