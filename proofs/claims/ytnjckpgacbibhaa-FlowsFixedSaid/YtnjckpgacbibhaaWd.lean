/- widths of a block: the program's (flows.Width).once, Solve -/
import Derived.Test.YtnjckpgacbibhaaIa
import Derived.Test.Ytnjckpgacbibhaamem
namespace Go.Proofs.Ytnjckpgacbibhaa
set_option linter.unusedVariables false
set_option linter.unusedSimpArgs false
open Go.RowKit Go.Cas

/-- a length that is held -/
def Hd (n : Int) : Prop := -16777216 ≤ n ∧ n ≤ 16777216
def oneL (room left inner right around : Int) (al ai ar : Bool) : Int :=
  if al = false then left else if ai = true then 0 else
  if ar = true then (if room - around - inner < 0 then 0 else (room - around - inner) / 2) else room - right - around - inner
def oneI (room left inner right around : Int) (al ai ar : Bool) : Int :=
  if ai = false then inner else max 0 (room - (if al = true then 0 else left) - (if ar = true then 0 else right) - around)
def oneR (room left inner right around : Int) (al ai ar : Bool) : Int :=
  if ai = true then (if ar = true then 0 else right)
  else if al = true then (if ar = true then (if room - around - inner < 0 then room - around - inner else (room - around - inner) - (room - around - inner) / 2) else right)
  else if ar = true then room - left - around - inner else right + (room - left - right - around - inner)
theorem ret_three {a b c d e f : Int} (h1 : a = d) (h2 : b = e) (h3 : c = f) : Ending.returned (.tuple #[.int .i64 a, .int .i64 b, .int .i64 c]) = .returned (.tuple #[.int .i64 d, .int .i64 e, .int .i64 f]) := by rw [h1, h2, h3]
abbrev aggW (a b c d e f g : Int) (x y z : Bool) : Value := .agg #[.int .i64 a, .int .i64 b, .int .i64 c, .int .i64 d, .int .i64 e, .int .i64 f, .int .i64 g, .bool x, .bool y, .bool z]

set_option maxHeartbeats 4000000 in
theorem c_onceW (a b c d e f g : Int) (x y z : Bool) (w : World) (ha : Hd a) (hb : Hd b) (hc : Hd c) (hd : Hd d) (he : Hd e) :
    Calls Try.prog 70 #[aggW a b c d e f g x y z] w fun en w' => en = .returned (.tuple #[.int .i64 (oneL a b c d e x y z), .int .i64 (oneI a b c d e x y z), .int .i64 (oneR a b c d e x y z)]) ∧ Below w.heap.size w w' := by
  obtain ⟨a1, a2⟩ := ha; obtain ⟨b1, b2⟩ := hb; obtain ⟨c1, c2⟩ := hc; obtain ⟨d1, d2⟩ := hd; obtain ⟨e1, e2⟩ := he
  have f1 := fold_max
  cases y
  · cases x <;> cases z
    all_goals
      go_enter Try.func70, Try.ntmps70
      go_wp2_with fail
      go_quiet (fail)
      go_wp2_with (go_at_call 91; refine (c_half _ _).mono ?_; rintro e w' ⟨rfl, rfl⟩)
    all_goals
      go_ret3
      refine ⟨ret_three ?_ ?_ ?_, ?_⟩
      · simp only [oneL, oneI, oneR, Bool.false_eq_true, Bool.true_eq_false, if_true, if_false] <;> omega
      · simp only [oneL, oneI, oneR, Bool.false_eq_true, Bool.true_eq_false, if_true, if_false] <;> omega
      · simp only [oneL, oneI, oneR, Bool.false_eq_true, Bool.true_eq_false, if_true, if_false] <;> omega
      · repeat (first | with_reducible refine bl_drewN ?_ _ | with_reducible refine bl_alloc ?_ _)
        exact Below.refl _ _
  · cases x <;> cases z
    all_goals
      go_enter Try.func70, Try.ntmps70
      go_wp2_with fail
      go_quiet (fail)
      go_wp2_with fail
      go_quiet (fail)
      go_wp2_with fail
    all_goals
      go_ret3
      refine ⟨ret_three ?_ ?_ ?_, ?_⟩
      · simp only [oneL, oneI, oneR, Bool.false_eq_true, Bool.true_eq_false, if_true, if_false] <;> omega
      · simp only [oneL, oneI, oneR, Bool.false_eq_true, Bool.true_eq_false, if_true, if_false] <;> omega
      · simp only [oneL, oneI, oneR, Bool.false_eq_true, Bool.true_eq_false, if_true, if_false] <;> omega
      · repeat (first | with_reducible refine bl_drewN ?_ _ | with_reducible refine bl_alloc ?_ _)
        exact Below.refl _ _
end Go.Proofs.Ytnjckpgacbibhaa
