/- widths of a block: the reference's SolveWidth -/
import Derived.Test.YtnjckpgacbibhaaWe
namespace Go.Proofs.Ytnjckpgacbibhaa
set_option linter.unusedVariables false
set_option linter.unusedSimpArgs false
open Go.RowKit Go.Cas

section
variable (a b c d e f g : Int) (x y z : Bool)
def rL : Int := if x = true then 0 else b
def rR : Int := if z = true then 0 else d
def rI1 : Int := if y = true then max 0 (a - rL b x - rR d z - e) else c
def rI2 : Int := if 0 ≤ g ∧ g < rI1 a b c d e x y z then g else rI1 a b c d e x y z
def rI3 : Int := if rI2 a b c d e g x y z < max 0 f then max 0 f else rI2 a b c d e g x y z
def rAuto : Prop := y = true ∧ ¬ (0 ≤ g ∧ g < rI1 a b c d e x y z) ∧ ¬ (rI2 a b c d e g x y z < max 0 f)
instance : Decidable (rAuto a b c d e f g x y z) := by unfold rAuto; infer_instance
def rRest : Int := a - rL b x - rR d z - e - rI3 a b c d e f g x y z
def refL : Int := if rAuto a b c d e f g x y z then rL b x else if x = true ∧ z = true then (if rRest a b c d e f g x y z < 0 then 0 else rRest a b c d e f g x y z / 2) else if x = true then rRest a b c d e f g x y z else rL b x
def refR : Int := if rAuto a b c d e f g x y z then rR d z else if x = true ∧ z = true then (if rRest a b c d e f g x y z < 0 then rRest a b c d e f g x y z else rRest a b c d e f g x y z - rRest a b c d e f g x y z / 2) else if x = true then rR d z else rR d z + rRest a b c d e f g x y z
end
def refW (a b c d e f g : Int) (x y z : Bool) : Value := .tuple #[.int .i64 (refL (hld a) (hld b) (hld c) (hld d) (hld e) (hld f) (hld g) x y z), .int .i64 (rI3 (hld a) (hld b) (hld c) (hld d) (hld e) (hld f) (hld g) x y z), .int .i64 (refR (hld a) (hld b) (hld c) (hld d) (hld e) (hld f) (hld g) x y z)]
theorem tup3 {a b c d e f : Int} (h1 : a = d) (h2 : b = e) (h3 : c = f) : Value.tuple #[.int .i64 a, .int .i64 b, .int .i64 c] = .tuple #[.int .i64 d, .int .i64 e, .int .i64 f] := by rw [h1, h2, h3]

theorem sol_ref (a b c d e f g : Int) (x y z : Bool) : solW a b c d e f g x y z = refW a b c d e f g x y z := by
  unfold solW refW
  by_cases hA : sA a b c d e g x y z
  · have e2 : sC2 a b c d e g x y z = hld g := if_pos hA
    have e3 : sY2 a b c d e g x y z = false := if_pos hA
    by_cases hB : sB a b c d e f g x y z
    · have e4 : sC3 a b c d e f g x y z = max 0 (hld f) := if_pos hB
      have e5 : sY3 a b c d e f g x y z = false := if_pos hB
      rw [e4, e5]
      unfold sB at hB
      rw [e2, e3] at hB
      unfold sA at hA
      generalize hld a = A at *; generalize hld b = B at *; generalize hld c = C at *; generalize hld d = D at *; generalize hld e = E at *; generalize hld f = F at *; generalize hld g = G at *
      clear e2 e3 e4 e5
      cases x <;> cases y <;> cases z <;> simp only [oneL, oneI, oneR, refL, refR, rI1, rI2, rI3, rL, rR, rAuto, rRest, Bool.false_eq_true, Bool.true_eq_false, if_true, if_false, true_and, false_and, and_false, and_true] at hA hB ⊢ <;> refine tup3 ?_ ?_ ?_ <;> omega
    · have e4 : sC3 a b c d e f g x y z = hld g := (if_neg hB).trans e2
      have e5 : sY3 a b c d e f g x y z = false := (if_neg hB).trans e3
      rw [e4, e5]
      unfold sB at hB
      rw [e2, e3] at hB
      unfold sA at hA
      generalize hld a = A at *; generalize hld b = B at *; generalize hld c = C at *; generalize hld d = D at *; generalize hld e = E at *; generalize hld f = F at *; generalize hld g = G at *
      clear e2 e3 e4 e5
      cases x <;> cases y <;> cases z <;> simp only [oneL, oneI, oneR, refL, refR, rI1, rI2, rI3, rL, rR, rAuto, rRest, Bool.false_eq_true, Bool.true_eq_false, if_true, if_false, true_and, false_and, and_false, and_true] at hA hB ⊢ <;> refine tup3 ?_ ?_ ?_ <;> omega
  · have e2 : sC2 a b c d e g x y z = hld c := if_neg hA
    have e3 : sY2 a b c d e g x y z = y := if_neg hA
    by_cases hB : sB a b c d e f g x y z
    · have e4 : sC3 a b c d e f g x y z = max 0 (hld f) := if_pos hB
      have e5 : sY3 a b c d e f g x y z = false := if_pos hB
      rw [e4, e5]
      unfold sB at hB
      rw [e2, e3] at hB
      unfold sA at hA
      generalize hld a = A at *; generalize hld b = B at *; generalize hld c = C at *; generalize hld d = D at *; generalize hld e = E at *; generalize hld f = F at *; generalize hld g = G at *
      clear e2 e3 e4 e5
      cases x <;> cases y <;> cases z <;> simp only [oneL, oneI, oneR, refL, refR, rI1, rI2, rI3, rL, rR, rAuto, rRest, Bool.false_eq_true, Bool.true_eq_false, if_true, if_false, true_and, false_and, and_false, and_true] at hA hB ⊢ <;> refine tup3 ?_ ?_ ?_ <;> omega
    · have e4 : sC3 a b c d e f g x y z = hld c := (if_neg hB).trans e2
      have e5 : sY3 a b c d e f g x y z = y := (if_neg hB).trans e3
      rw [e4, e5]
      unfold sB at hB
      rw [e2, e3] at hB
      unfold sA at hA
      generalize hld a = A at *; generalize hld b = B at *; generalize hld c = C at *; generalize hld d = D at *; generalize hld e = E at *; generalize hld f = F at *; generalize hld g = G at *
      clear e2 e3 e4 e5
      cases x <;> cases y <;> cases z <;> simp only [oneL, oneI, oneR, refL, refR, rI1, rI2, rI3, rL, rR, rAuto, rRest, Bool.false_eq_true, Bool.true_eq_false, if_true, if_false, true_and, false_and, and_false, and_true] at hA hB ⊢ <;> refine tup3 ?_ ?_ ?_ <;> omega

set_option maxHeartbeats 8000000 in
theorem c_SolveWidth (a b c d e f g : Int) (x y z : Bool) (w : World) :
    Calls Try.prog 33 #[aggW a b c d e f g x y z] w fun en w' => en = .returned (refW a b c d e f g x y z) ∧ Below w.heap.size w w' := by
  have h1 := hld_bd a; have h2 := hld_bd b; have h3 := hld_bd c; have h4 := hld_bd d; have h5 := hld_bd e; have h6 := hld_bd f; have h7 := hld_bd g
  obtain ⟨h1, h1'⟩ := h1; obtain ⟨h2, h2'⟩ := h2; obtain ⟨h3, h3'⟩ := h3; obtain ⟨h4, h4'⟩ := h4; obtain ⟨h5, h5'⟩ := h5; obtain ⟨h6, h6'⟩ := h6; obtain ⟨h7, h7'⟩ := h7
  cases x <;> cases y <;> cases z
  all_goals
    go_enter Try.func33, Try.ntmps33
    go_wp2_with (first | (go_at_call 17; refine (c_Held4 _ _).mono ?_; rintro e w' ⟨rfl, rfl⟩) | (go_at_call 71; refine (c_most4 _ _ _).mono ?_; rintro e w' ⟨rfl, rfl⟩) | (go_at_call 57; refine (c_Down _ _ _ (by omega) (by omega) (by omega)).mono ?_; rintro e w' ⟨rfl, rfl⟩))
  all_goals
    (try (go_quiet ((go_at_call 57; first | exact q_left (c_Down _ _ _ (by omega) (by omega) (by omega)) | exact q_add (c_Down _ _ _ (by omega) (by omega) (by omega))))))
  all_goals
    (try go_wp2_with fail)
    go_ret3
    refine ⟨ret_v (tup3 ?_ ?_ ?_), ?_⟩
    · simp only [refL, refR, rI1, rI2, rI3, rL, rR, rAuto, rRest, Bool.false_eq_true, Bool.true_eq_false, if_true, if_false, true_and, false_and, and_false, and_true] <;> omega
    · simp only [refL, refR, rI1, rI2, rI3, rL, rR, rAuto, rRest, Bool.false_eq_true, Bool.true_eq_false, if_true, if_false, true_and, false_and, and_false, and_true] <;> omega
    · simp only [refL, refR, rI1, rI2, rI3, rL, rR, rAuto, rRest, Bool.false_eq_true, Bool.true_eq_false, if_true, if_false, true_and, false_and, and_false, and_true] <;> omega
    · repeat (first | with_reducible refine bl_drewN ?_ _ | with_reducible refine bl_alloc ?_ _)
      exact Below.refl _ _
end Go.Proofs.Ytnjckpgacbibhaa
