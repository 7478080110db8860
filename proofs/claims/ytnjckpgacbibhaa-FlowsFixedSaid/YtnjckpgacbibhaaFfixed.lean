/- FlowsFixed: the walk -/
import Derived.Test.YtnjckpgacbibhaaGga
import Derived.Test.YtnjckpgacbibhaaGge
import Derived.Test.YtnjckpgacbibhaaGgb
import Derived.Test.YtnjckpgacbibhaaGgc
import Derived.Test.YtnjckpgacbibhaaGgd
import Derived.Test.Ytnjckpgacbibhaaopen
namespace Go.Proofs.Ytnjckpgacbibhaa
set_option linter.unusedVariables false
set_option linter.unusedSimpArgs false
open Go.RowKit Go.Cas Go.WideShapes Go.ChangeShapes

theorem cells_F : Try.prog.cellsOf 61 = 16 := by kernel_rfl
set_option maxRecDepth 100000 in
theorem open_F {H : Type} {enc : TypeId × Value → H} {w : World} {r : Reach} {b0 base : Nat} {spare : Nat → Bool} {held : Bool} {v : Value} {d : DataW H} {p : List MemPlace}
    (hv : Value.okWide Try.prog w r b0 61 v) (h : DataW.Trod enc Try.prog w base spare held 61 v d p) :
    ∃ (x0 : Int) (x1 : Int) (x2 : Int) (x3 : Int) (x4 : Int) (x5 : Int) (x6 : Int) (x7 : Int) (x8 : Int) (x9 : Int) (x10 : Int) (x11 : Bool) (x12 : Bool) (x13 : Bool) (x14 : Bool) (x15 : Bool), v = aggF x0 x1 x2 x3 x4 x5 x6 x7 x8 x9 x10 x11 x12 x13 x14 x15 := by
  obtain ⟨cs, rfl, hsz⟩ := okWide_struct Try.underlying61 hv
  obtain ⟨l⟩ := cs
  have hl : l.length = 16 := by rw [← cells_F]; exact hsz
  obtain ⟨fuel, hf⟩ := h
  have hf' : DataW.trod enc Try.prog w base spare held fuel 61 l = some (d, p) := hf
  match l, hl with
  | [c0, c1, c2, c3, c4, c5, c6, c7, c8, c9, c10, c11, c12, c13, c14, c15], _ =>
    obtain ⟨x0, e0, _⟩ := field_int (k := .i64) Try.underlying61 (by kernel_rfl) hf' rfl (i := 0) rfl Try.underlying3
    obtain ⟨x1, e1, _⟩ := field_int (k := .i64) Try.underlying61 (by kernel_rfl) hf' rfl (i := 1) rfl Try.underlying3
    obtain ⟨x2, e2, _⟩ := field_int (k := .i64) Try.underlying61 (by kernel_rfl) hf' rfl (i := 2) rfl Try.underlying3
    obtain ⟨x3, e3, _⟩ := field_int (k := .i64) Try.underlying61 (by kernel_rfl) hf' rfl (i := 3) rfl Try.underlying3
    obtain ⟨x4, e4, _⟩ := field_int (k := .i64) Try.underlying61 (by kernel_rfl) hf' rfl (i := 4) rfl Try.underlying3
    obtain ⟨x5, e5, _⟩ := field_int (k := .i64) Try.underlying61 (by kernel_rfl) hf' rfl (i := 5) rfl Try.underlying3
    obtain ⟨x6, e6, _⟩ := field_int (k := .i64) Try.underlying61 (by kernel_rfl) hf' rfl (i := 6) rfl Try.underlying3
    obtain ⟨x7, e7, _⟩ := field_int (k := .i64) Try.underlying61 (by kernel_rfl) hf' rfl (i := 7) rfl Try.underlying3
    obtain ⟨x8, e8, _⟩ := field_int (k := .i64) Try.underlying61 (by kernel_rfl) hf' rfl (i := 8) rfl Try.underlying3
    obtain ⟨x9, e9, _⟩ := field_int (k := .i64) Try.underlying61 (by kernel_rfl) hf' rfl (i := 9) rfl Try.underlying3
    obtain ⟨x10, e10, _⟩ := field_int (k := .i64) Try.underlying61 (by kernel_rfl) hf' rfl (i := 10) rfl Try.underlying3
    obtain ⟨x11, e11⟩ := field_bool Try.underlying61 (by kernel_rfl) hf' rfl (i := 11) rfl Try.underlying4
    obtain ⟨x12, e12⟩ := field_bool Try.underlying61 (by kernel_rfl) hf' rfl (i := 12) rfl Try.underlying4
    obtain ⟨x13, e13⟩ := field_bool Try.underlying61 (by kernel_rfl) hf' rfl (i := 13) rfl Try.underlying4
    obtain ⟨x14, e14⟩ := field_bool Try.underlying61 (by kernel_rfl) hf' rfl (i := 14) rfl Try.underlying4
    obtain ⟨x15, e15⟩ := field_bool Try.underlying61 (by kernel_rfl) hf' rfl (i := 15) rfl Try.underlying4
    simp only [List.getElem?_cons_zero, List.getElem?_cons_succ, Option.some.injEq] at e0 e1 e2 e3 e4 e5 e6 e7 e8 e9 e10 e11 e12 e13 e14 e15
    subst e0 e1 e2 e3 e4 e5 e6 e7 e8 e9 e10 e11 e12 e13 e14 e15
    exact ⟨x0, x1, x2, x3, x4, x5, x6, x7, x8, x9, x10, x11, x12, x13, x14, x15, rfl⟩

theorem c_SolveFixed (a b c d e f g h m n q : Int) (u v x y z : Bool) (w : World) :
    Calls Try.prog 40 #[aggF a b c d e f g h m n q u v x y z] w fun en w' => en = .returned (solF a b c d e f g h m n q u v x y z) ∧ Below w.heap.size w w' := by
  cases u <;> cases v
  · cases x
    · exact c_SolveFixedA0 _ _ _ _ _ _ _ _ _ _ _ _ _ _
    · exact c_SolveFixedA1 _ _ _ _ _ _ _ _ _ _ _ _ _ _
  · exact c_SolveFixedB _ _ _ _ _ _ _ _ _ _ _ _ _ _ _
  · exact c_SolveFixedC _ _ _ _ _ _ _ _ _ _ _ _ _ _ _
  · exact c_SolveFixedD _ _ _ _ _ _ _ _ _ _ _ _ _ _ _
theorem solF_one : solF 10 0 0 0 0 0 0 0 0 (-1) 0 false false false true false = .tuple #[.int .i64 0, .int .i64 0, .int .i64 10, .int .i64 0] := by kernel_rfl
set_option maxRecDepth 100000 in
set_option maxHeartbeats 2000000 in
theorem W_walkF (a b c d e f g h m n q : Int) (u v x y z : Bool) (w : World) :
    Calls Try.prog 10 #[aggF a b c d e f g h m n q u v x y z] w fun en w' => en = .returned (.bool true) ∧ Below w.heap.size w w' := by
  obtain ⟨p1, p2, p3, p4, hs⟩ : ∃ p1 p2 p3 p4 : Int, solF a b c d e f g h m n q u v x y z = .tuple #[.int .i64 p1, .int .i64 p2, .int .i64 p3, .int .i64 p4] := ⟨_, _, _, _, rfl⟩
  have HS := Lib.hid hs
  clear hs
  go_enter Try.func10, Try.ntmps10
  go_wp2_with fail
  refine (c_SolveF _ _ _ _ _ _ _ _ _ _ _ _ _ _ _ _ _).mono ?_
  intro en w1 hh
  as_aux_lemma =>
    obtain ⟨rfl, hb1⟩ := hh
    rw [HS.out]
    have k1 := ((Bk.new w 61 #[.int .i64 a, .int .i64 b, .int .i64 c, .int .i64 d, .int .i64 e, .int .i64 f, .int .i64 g, .int .i64 h, .int .i64 m, .int .i64 n, .int .i64 q, .bool u, .bool v, .bool x, .bool y, .bool z]).alloc _).below hb1 (by simp; omega)
    have b1 : Below w.heap.size w w1 := bl_trans (bl_alloc (bl_alloc (Below.refl _ _) _) _) hb1
    have c1 := k1.cell; have l1 := k1.lt
    clear hb1 k1
    go_wp2_with fail
    refine (c_SolveFixed _ _ _ _ _ _ _ _ _ _ _ _ _ _ _ _ _).mono ?_
    intro en w2 hh
    as_aux_lemma =>
      obtain ⟨rfl, hb2⟩ := hh
      rw [HS.out]
      have b2 := bl_trans b1 hb2
      clear hb2 c1 l1
      go_wp2_with fail
      refine (c_SolveF _ _ _ _ _ _ _ _ _ _ _ _ _ _ _ _ _).mono ?_
      intro en w3 hh
      as_aux_lemma =>
        obtain ⟨rfl, hb3⟩ := hh
        rw [solF_one]
        go_wp2_with fail
        go_ret
        exact ⟨rfl, bl_trans (bl_alloc b2 _) hb3⟩
set_option maxRecDepth 100000 in
theorem W_flowsFixed {H : Type} {enc : TypeId × Value → H} {r : Reach} {b0 base : Nat} {spare : Nat → Bool} {held : Bool} {d : DataW H} {p : List MemPlace} (v : Value) (w : World)
    (hv : Value.okWide Try.prog w r b0 61 v) (h : DataW.Trod enc Try.prog w base spare held 61 v d p) :
    Calls Try.prog 10 #[v] w fun en w' => en = .returned (.bool true) ∧ Below w.heap.size w w' := by
  obtain ⟨x0, x1, x2, x3, x4, x5, x6, x7, x8, x9, x10, x11, x12, x13, x14, x15, rfl⟩ := open_F hv h
  exact W_walkF _ _ _ _ _ _ _ _ _ _ _ _ _ _ _ _ _
end Go.Proofs.Ytnjckpgacbibhaa
