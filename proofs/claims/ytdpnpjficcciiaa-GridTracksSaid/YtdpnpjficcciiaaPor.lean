/- plain (no program): a times b over c, bit by bit of a -/
import Derived.Test.Ytdpnpjficcciiaamem
namespace Go.Cas
set_option linter.unusedVariables false
set_option linter.unusedSimpArgs false

theorem por_1 {A b c q r : Int} (h : q * c + r = A * b) (hr : 0 ≤ r) (hc : r < c) : (c ≤ 2 * r → (2 * q + 1) * c + (2 * r - c) = (2 * A) * b) ∧ (¬ c ≤ 2 * r → (2 * q) * c + 2 * r = (2 * A) * b) := by
  have e : 2 * A * b = 2 * (A * b) := by rw [Int.mul_assoc]
  have e2 : 2 * q * c = 2 * (q * c) := by rw [Int.mul_assoc]
  have e3 : (2 * q + 1) * c = 2 * (q * c) + c := by rw [Int.add_mul, Int.mul_assoc, Int.one_mul]
  rw [e, e2, e3]
  omega
theorem por_2 {A b c q r : Int} (h : q * c + r = A * b) : (c ≤ r + b → (q + 1) * c + (r + b - c) = (A + 1) * b) ∧ (¬ c ≤ r + b → q * c + (r + b) = (A + 1) * b) := by
  have e : (A + 1) * b = A * b + b := by rw [Int.add_mul, Int.one_mul]
  have e3 : (q + 1) * c = q * c + c := by rw [Int.add_mul, Int.one_mul]
  rw [e, e3]
  omega
theorem por_q {A b c q r : Int} (h : q * c + r = A * b) (hr : 0 ≤ r) (hc : r < c) (hA : 0 ≤ A) (hb : 0 ≤ b ∧ b ≤ c) : q ≤ A := by
  have h1 : A * b ≤ A * c := Int.mul_le_mul_of_nonneg_left hb.2 hA
  have h2 : q * c ≤ A * c := by omega
  exact Int.le_of_mul_le_mul_right h2 (by omega)
theorem por_end {a b c q r : Int} (h : q * c + r = a * b) (hr : 0 ≤ r) (hc : r < c) : a * b / c = q ∧ (-a) * b / c = if 0 < r then -q - 1 else -q := by
  constructor
  · rw [← h]
    rw [Int.add_comm, Int.add_mul_ediv_right _ _ (by omega), Int.ediv_eq_zero_of_lt hr hc]; omega
  · rw [Int.neg_mul, ← h]
    split
    · rename_i h0
      have e : -(q * c + r) = (c - r) + (-q - 1) * c := by rw [Int.sub_mul, Int.neg_mul, Int.one_mul]; omega
      rw [e, Int.add_mul_ediv_right _ _ (by omega), Int.ediv_eq_zero_of_lt (by omega) (by omega)]; omega
    · have e : -(q * c + r) = 0 + (-q) * c := by rw [Int.neg_mul]; omega
      rw [e, Int.add_mul_ediv_right _ _ (by omega), Int.zero_ediv]; omega
/-- the next bit -/
theorem por_half {a : Int} {j : Nat} (ha : 0 ≤ a) : a / (2 : Int) ^ j = 2 * (a / (2 * (2 : Int) ^ j)) + (a / (2 : Int) ^ j) % 2 := by
  have e : a / (2 * (2 : Int) ^ j) = a / (2 : Int) ^ j / 2 := by
    rw [Int.mul_comm, Int.ediv_ediv_of_nonneg (by exact Int.le_of_lt (Int.pow_pos (by omega)))]
  rw [e]
  have := Int.mul_ediv_add_emod (a / (2 : Int) ^ j) 2
  omega
end Go.Cas
