/- a box at a place: the program's (flows.Fixed).once -/
import Derived.Test.YtnjckpgacbibhaaWd
namespace Go.Proofs.Ytnjckpgacbibhaa
set_option linter.unusedVariables false
set_option linter.unusedSimpArgs false
open Go.RowKit Go.Cas
def fL0 (d : Int) (x : Bool) : Int := if x = true then 0 else d
def fI (a b c d e f g h : Int) (u v x y z : Bool) : Int := if y = true then (if u = false ∧ v = false then max 0 (a - b - c - fL0 d x - fL0 f z - g) else h) else e
def fRs (a b c d f g I : Int) (x z : Bool) : Int := a - b - c - fL0 d x - fL0 f z - g - I
def oL (a b c d f g I : Int) (u v x y z : Bool) : Int := if (u = false ∧ v = false ∧ y = false) ∧ x = true then (if z = true then max 0 (fRs a b c d f g I x z) / 2 else fRs a b c d f g I x z) else fL0 d x
def oR (a b c d f g I : Int) (u v x y z : Bool) : Int := if (u = false ∧ v = false ∧ y = false) ∧ z = true then (if x = true then fRs a b c d f g I x z - max 0 (fRs a b c d f g I x z) / 2 else fRs a b c d f g I x z) else fL0 f z
def oF (a b c d f g I q : Int) (u v x z : Bool) : Int := if u = false then b else if v = false then a - fL0 d x - fL0 f z - g - I - c else q
abbrev aggF (a b c d e f g h m n q : Int) (u v x y z : Bool) : Value := .agg #[.int .i64 a, .int .i64 b, .int .i64 c, .int .i64 d, .int .i64 e, .int .i64 f, .int .i64 g, .int .i64 h, .int .i64 m, .int .i64 n, .int .i64 q, .bool u, .bool v, .bool x, .bool y, .bool z]
theorem tup4 {a b c d a' b' c' d' : Int} (h1 : a = a') (h2 : b = b') (h3 : c = c') (h4 : d = d') : Ending.returned (.tuple #[.int .i64 a, .int .i64 b, .int .i64 c, .int .i64 d]) = .returned (.tuple #[.int .i64 a', .int .i64 b', .int .i64 c', .int .i64 d']) := by rw [h1, h2, h3, h4]
theorem results_four {fn : Func} {t u v x : Tmp} (h : fn.results = #[.tmp t, .tmp u, .tmp v, .tmp x]) (tmps : Array Value) (P : Program) (w : World) :
    (results fn tmps).run P w = .ok (.tuple #[tmps.getD t undef, tmps.getD u undef, tmps.getD v undef, tmps.getD x undef]) w := by simp [results, h]

set_option maxHeartbeats 20000000 in
theorem c_onceF (a b c d e f g h m n q : Int) (u v x y z : Bool) (w : World) (ha : Hd a) (hb : Hd b) (hc : Hd c) (hd : Hd d) (he : Hd e) (hf : Hd f) (hg : Hd g) (hh : Hd h) :
    Calls Try.prog 75 #[aggF a b c d e f g h m n q u v x y z] w fun en w' => en = .returned (.tuple #[.int .i64 (oF a b c d f g (fI a b c d e f g h u v x y z) q u v x z), .int .i64 (oL a b c d f g (fI a b c d e f g h u v x y z) u v x y z), .int .i64 (fI a b c d e f g h u v x y z), .int .i64 (oR a b c d f g (fI a b c d e f g h u v x y z) u v x y z)]) ∧ Below w.heap.size w w' := by
  obtain ⟨a1, a2⟩ := ha; obtain ⟨b1, b2⟩ := hb; obtain ⟨c1, c2⟩ := hc; obtain ⟨d1, d2⟩ := hd; obtain ⟨e1, e2⟩ := he; obtain ⟨f1, f2⟩ := hf; obtain ⟨g1, g2⟩ := hg; obtain ⟨h1, h2⟩ := hh
  have fx := fold_max
  cases u <;> cases v <;> cases x <;> cases y <;> cases z
  all_goals
    go_enter Try.func75, Try.ntmps75
    go_wp2_with (go_at_call 91; refine (c_half _ _).mono ?_; rintro e w' ⟨rfl, rfl⟩)
  all_goals
    (try (go_quiet (fail); go_wp2_with (go_at_call 91; refine (c_half _ _).mono ?_; rintro e w' ⟨rfl, rfl⟩)))
  all_goals
    (try (go_quiet (fail); go_wp2_with (go_at_call 91; refine (c_half _ _).mono ?_; rintro e w' ⟨rfl, rfl⟩)))
  all_goals
    refine bodyPost_ret (results_four rfl _ _ _) rfl ?_
    refine ⟨tup4 ?_ ?_ ?_ ?_, ?_⟩
    · simp only [oF, fRs, fI, fL0, Bool.false_eq_true, Bool.true_eq_false, if_true, if_false, true_and, false_and, and_false, and_true, reduceIte] <;> omega
    · simp only [oL, fRs, fI, fL0, Bool.false_eq_true, Bool.true_eq_false, if_true, if_false, true_and, false_and, and_false, and_true, reduceIte] <;> omega
    · simp only [fI, fL0, Bool.false_eq_true, Bool.true_eq_false, if_true, if_false, true_and, false_and, and_false, and_true, reduceIte] <;> omega
    · simp only [oR, fRs, fI, fL0, Bool.false_eq_true, Bool.true_eq_false, if_true, if_false, true_and, false_and, and_false, and_true, reduceIte] <;> omega
    · repeat (first | with_reducible refine bl_drewN ?_ _ | with_reducible refine bl_alloc ?_ _)
      exact Below.refl _ _
end Go.Proofs.Ytnjckpgacbibhaa
