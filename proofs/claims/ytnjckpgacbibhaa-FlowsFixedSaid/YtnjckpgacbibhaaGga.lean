/- a box at a place: the reference's SolveFixed (A0) -/
import Derived.Test.YtnjckpgacbibhaaGe
namespace Go.Proofs.Ytnjckpgacbibhaa
set_option linter.unusedVariables false
set_option linter.unusedSimpArgs false
open Go.RowKit Go.Cas
set_option maxRecDepth 100000 in
set_option maxHeartbeats 20000000 in
theorem c_SolveFixedA0 (a b c d e f g h m n q : Int) (y z : Bool) (w : World) :
    Calls Try.prog 40 #[aggF a b c d e f g h m n q false false false y z] w fun en w' => en = .returned (solF a b c d e f g h m n q false false false y z) ∧ Below w.heap.size w w' := by
  obtain ⟨a1, a2⟩ := hld_bd a
  obtain ⟨b1, b2⟩ := hld_bd b
  obtain ⟨c1, c2⟩ := hld_bd c
  obtain ⟨d1, d2⟩ := hld_bd d
  obtain ⟨e1, e2⟩ := hld_bd e
  obtain ⟨f1, f2⟩ := hld_bd f
  obtain ⟨g1, g2⟩ := hld_bd g
  obtain ⟨h1, h2⟩ := hld_bd h
  obtain ⟨m1, m2⟩ := hld_bd m
  obtain ⟨n1, n2⟩ := hld_bd n
  obtain ⟨q1, q2⟩ := hld_bd q
  cases y <;> cases z
  all_goals
    go_enter Try.func40, Try.ntmps40
    go_wp2_with (first | (go_at_call 17; refine (c_Held4 _ _).mono ?_; rintro e w' ⟨rfl, rfl⟩) | (go_at_call 71; refine (c_most4 _ _ _).mono ?_; rintro e w' ⟨rfl, rfl⟩) | (go_at_call 57; refine (c_Down _ _ _ (by omega) (by omega) (by omega)).mono ?_; rintro e w' ⟨rfl, rfl⟩))
  all_goals
    (try (go_quiet ((go_at_call 57; first | exact q_left (c_Down _ _ _ (by omega) (by omega) (by omega)) | exact q_add (c_Down _ _ _ (by omega) (by omega) (by omega))))))
  all_goals
    (try go_wp2_with fail)
    refine bodyPost_ret (results_four rfl _ _ _) rfl ?_
    refine ⟨tup4 ?_ ?_ ?_ ?_, ?_⟩
    · simp only [gI3, gB, gI2, gA, oF, fRs, fI, fL0, or_true, or_false, Bool.false_eq_true, Bool.true_eq_false, if_true, if_false, true_and, false_and, and_false, and_true, reduceIte] <;> omega
    · simp only [refF, gY3_iff, gI3, gB, gI2, gA, oL, fRs, fI, fL0, or_true, or_false, Bool.false_eq_true, Bool.true_eq_false, if_true, if_false, true_and, false_and, and_false, and_true, reduceIte] <;> omega
    · simp only [gI3, gB, gI2, gA, fI, fL0, or_true, or_false, Bool.false_eq_true, Bool.true_eq_false, if_true, if_false, true_and, false_and, and_false, and_true, reduceIte] <;> omega
    · simp only [refF, gY3_iff, gI3, gB, gI2, gA, oR, fRs, fI, fL0, or_true, or_false, Bool.false_eq_true, Bool.true_eq_false, if_true, if_false, true_and, false_and, and_false, and_true, reduceIte] <;> omega
    · repeat (first | with_reducible refine bl_drewN ?_ _ | with_reducible refine bl_alloc ?_ _)
      exact Below.refl _ _
end Go.Proofs.Ytnjckpgacbibhaa
