/- plain: where lines may end -/
import Derived.Test.YtnjckpgacbibhaaIb
namespace Go.Proofs.Ytnjckpgacbibhaa
set_option linter.unusedVariables false
set_option linter.unusedSimpArgs false
def digB (r : Int) : Bool := decide (48 ≤ r ∧ r ≤ 57)
/-- may a line end between a and b (c ahead of a, if two is so)? -/
def mayB (a b c : Int) (two : Bool) : Bool :=
  if glueB a = true ∨ glueB b = true then false
  else if (a = 32 ∧ b ≠ 32) ∨ a = 0x200B ∨ a = 0xAD then true
  else if hypB a = true then two && ((letB c || digB c) && letB b)
  else (wide a && wide b) && (!opensB a && !closesB b)
theorem hyp_wide (a : Int) : hypB a = true → wide a = false := by
  intro h; simp [hypB] at h; simp [wide]; omega
def brks (n : Nat) (a c : Int) : List (Int × Nat) → List Int
  | [] => []
  | (b, p) :: l => (if decide (0 < n) && mayB a b c (decide (1 < n)) then [(p : Int)] else []) ++ brks (n + 1) b a l
theorem brks_len (n : Nat) (a c : Int) (l : List (Int × Nat)) : (brks n a c l).length ≤ l.length := by
  induction l generalizing n a c with
  | nil => simp [brks]
  | cons x l ih =>
    obtain ⟨b, p⟩ := x
    have := ih (n + 1) b a
    simp only [brks, List.length_append, List.length_cons]
    split <;> simp <;> omega
end Go.Proofs.Ytnjckpgacbibhaa
