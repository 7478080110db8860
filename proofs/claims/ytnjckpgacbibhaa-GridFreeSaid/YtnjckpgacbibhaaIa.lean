/- contracts of the little functions on integers (flows, casementref4, ink, casementref1) -/
import Derived.Test.YtnjckpgacbibhaaProg
import Derived.WalkKit
import Derived.WalkLawsBesides
import Derived.Lib.Hide
namespace Go.Proofs.Ytnjckpgacbibhaa
set_option linter.unusedVariables false
set_option linter.unusedSimpArgs false
open Go.RowKit

theorem ret_int {k : IntKind} {a b : Int} (h : a = b) : Ending.returned (.int k a) = .returned (.int k b) := by rw [h]
theorem ret_bool {a b : Bool} (h : a = b) : Ending.returned (.bool a) = .returned (.bool b) := by rw [h]

/-- a length within bounds -/
def hld (n : Int) : Int := max (-16777216) (min n 16777216)
def zOf (n : Int) : Int := max 0 (min n 16777216)
theorem zOf_bd (n : Int) : 0 ≤ zOf n ∧ zOf n ≤ 16777216 := by unfold zOf; omega
theorem hld_bd (n : Int) : -16777216 ≤ hld n ∧ hld n ≤ 16777216 := by unfold hld; omega

theorem c_held (n : Int) (w : World) : Calls Try.prog 54 #[.int .i64 n] w fun e w' => e = .returned (.int .i64 (hld n)) ∧ w = w' := by
  unfold hld
  go_enter Try.func54, Try.ntmps54
  go_wp2
  all_goals (go_ret; exact ⟨ret_int (by omega), rfl⟩)
theorem c_Held4 (n : Int) (w : World) : Calls Try.prog 17 #[.int .i64 n] w fun e w' => e = .returned (.int .i64 (hld n)) ∧ w = w' := by
  unfold hld
  go_enter Try.func17, Try.ntmps17
  go_wp2
  all_goals (go_ret; exact ⟨ret_int (by omega), rfl⟩)
theorem c_most4 (a b : Int) (w : World) : Calls Try.prog 71 #[.int .i64 a, .int .i64 b] w fun e w' => e = .returned (.int .i64 (max a b)) ∧ w = w' := by
  go_enter Try.func71, Try.ntmps71
  go_wp2
  all_goals (go_ret; exact ⟨ret_int (by omega), rfl⟩)
theorem c_least4 (a b : Int) (w : World) : Calls Try.prog 79 #[.int .i64 a, .int .i64 b] w fun e w' => e = .returned (.int .i64 (min a b)) ∧ w = w' := by
  go_enter Try.func79, Try.ntmps79
  go_wp2
  all_goals (go_ret; exact ⟨ret_int (by omega), rfl⟩)
theorem c_bounded (n : Int) (w : World) : Calls Try.prog 59 #[.int .i64 n] w fun e w' => e = .returned (.int .i64 (zOf n)) ∧ w = w' := by
  unfold zOf
  go_enter Try.func59, Try.ntmps59
  go_wp2
  all_goals (go_ret; exact ⟨ret_int (by omega), rfl⟩)
theorem c_Held1 (n : Int) (w : World) : Calls Try.prog 62 #[.int .i64 n] w fun e w' => e = .returned (.int .i64 (zOf n)) ∧ w = w' := by
  unfold zOf
  go_enter Try.func62, Try.ntmps62
  go_wp2
  all_goals (go_ret; exact ⟨ret_int (by omega), rfl⟩)
theorem c_half (n : Int) (w : World) : Calls Try.prog 91 #[.int .i64 n] w fun e w' => e = .returned (.int .i64 (n / 2)) ∧ w = w' := by
  go_enter Try.func91, Try.ntmps91
  go_wp2
  all_goals (go_ret; exact ⟨ret_int (by omega), rfl⟩)
theorem down_q (a b : Int) (h1 : -9223372036854775808 < a) (h2 : a ≤ 9223372036854775807) (hb : 1 ≤ b) :
    (a < wrap64 (a.tdiv b * b) → wrap64 (a.tdiv b - 1) = a / b) ∧ (wrap64 (a.tdiv b * b) ≤ a → a.tdiv b = a / b) := by
  have e := Int.mul_ediv_add_emod a b
  have m1 := Int.emod_nonneg a (show b ≠ 0 by omega)
  have m2 := Int.emod_lt_of_pos a (show 0 < b by omega)
  have q1 : a / b ≤ 9223372036854775807 ∧ -9223372036854775808 < a / b := by
    constructor
    · by_cases h : 0 ≤ a
      · have := Int.ediv_le_self b h; omega
      · have : a / b < 0 := Int.ediv_neg_of_neg_of_pos (by omega) (by omega); omega
    · by_cases h : 0 ≤ a
      · have := Int.ediv_nonneg h (show 0 ≤ b by omega); omega
      · have : a ≤ a / b := by
          apply Int.le_ediv_of_mul_le (by omega)
          have := Int.mul_le_mul_of_nonpos_left (a := a) (show a ≤ 0 by omega) hb
          omega
        omega
  rw [Int.tdiv_eq_ediv, Int.sign_eq_one_of_pos (show 0 < b by omega)]
  by_cases h : 0 ≤ a ∨ b ∣ a
  · simp only [if_pos h, Int.add_zero]
    have hm : a / b * b ≤ a := by rw [Int.mul_comm]; omega
    have hm2 : -9223372036854775808 ≤ a / b * b := by
      rcases h with h | h
      · have := Int.mul_nonneg (Int.ediv_nonneg h (show 0 ≤ b by omega)) (show 0 ≤ b by omega); omega
      · rw [Int.ediv_mul_cancel h]; omega
    rw [IntWalk.wrap64_in _ ⟨by omega, by omega⟩]
    exact ⟨fun hh => absurd hh (by omega), fun _ => trivial⟩
  · simp only [if_neg h]
    have hd : a % b ≠ 0 := fun hh => h (.inr (Int.dvd_of_emod_eq_zero hh))
    have hm : (a / b + 1) * b = b * (a / b) + b := by rw [Int.add_mul, Int.mul_comm]; omega
    have ha : a < 0 := by omega
    have hb0 : a / b < 0 := Int.ediv_neg_of_neg_of_pos ha (by omega)
    have hle : (a / b + 1) * b ≤ 0 := by
      have : 0 ≤ (-(a / b + 1)) * b := Int.mul_nonneg (by omega) (by omega)
      rw [Int.neg_mul] at this; omega
    rw [IntWalk.wrap64_in ((a / b + 1) * b) ⟨by omega, by omega⟩, IntWalk.wrap64_in _ ⟨by omega, by omega⟩]
    exact ⟨fun _ => by omega, fun h => by omega⟩

theorem c_Down (a b : Int) (w : World) (ha1 : -9223372036854775808 < a) (ha2 : a ≤ 9223372036854775807) (hb : 1 ≤ b) : Calls Try.prog 57 #[.int .i64 a, .int .i64 b] w fun e w' => e = .returned (.int .i64 (a / b)) ∧ w = w' := by
  have hq := down_q a b ha1 ha2 hb
  have H := Lib.hid hq
  clear hq
  go_enter Try.func57, Try.ntmps57
  go_wp2
  · go_ret; exact ⟨ret_int (H.out.1 (by assumption)), rfl⟩
  · go_ret; exact ⟨ret_int (H.out.2 (by assumption)), rfl⟩

theorem fold_max : ∀ a b : Int, (if a < b then b else a) = max a b := fun a b => by omega
theorem fold_min : ∀ a b : Int, (if b < a then b else a) = min a b := fun a b => by omega

theorem c_Of (n : Int) (w : World) : Calls Try.prog 15 #[.int .i64 n] w fun e w' => e = .returned (.agg #[.int .i64 (max (hld n) 0), .int .i64 (min (hld n) 0)]) ∧ w.alloc (.cells #[.int .i64 (max (hld n) 0), .int .i64 (min (hld n) 0)] 23) = w' := by
  have f1 := fold_max
  have f2 := fold_min
  go_enter Try.func15, Try.ntmps15
  go_wp2_with (go_at_call 54; refine (c_held _ _).mono ?_; rintro e w' ⟨rfl, rfl⟩)
  exact bodyPost_ret (v := .agg #[.int .i64 (max (hld n) 0), .int .i64 (min (hld n) 0)]) (by simp [results, Try.results15, go_sem]) rfl ⟨rfl, rfl⟩
theorem c_Size (a b : Int) (w : World) : Calls Try.prog 16 #[.agg #[.int .i64 a, .int .i64 b]] w fun e w' => e = .returned (.int .i64 (wrap64 (a + b))) ∧ w.alloc (.cells #[.int .i64 a, .int .i64 b] 23) = w' := by
  go_enter Try.func16, Try.ntmps16
  go_wp2
  go_ret
  exact ⟨rfl, rfl⟩
theorem c_Join (a b c d : Int) (w : World) : Calls Try.prog 18 #[.agg #[.int .i64 a, .int .i64 b], .agg #[.int .i64 c, .int .i64 d]] w fun e w' => e = .returned (.agg #[.int .i64 (max a c), .int .i64 (min b d)]) ∧ ((w.alloc (.cells #[.int .i64 a, .int .i64 b] 23)).alloc (.cells #[.int .i64 c, .int .i64 d] 23)).alloc (.cells #[.int .i64 (max a c), .int .i64 (min b d)] 23) = w' := by
  have f1 := fold_max
  have f2 := fold_min
  go_enter Try.func18, Try.ntmps18
  go_wp2
  exact bodyPost_ret (v := .agg #[.int .i64 (max a c), .int .i64 (min b d)]) (by simp [results, Try.results18, go_sem]) rfl ⟨rfl, rfl⟩
end Go.Proofs.Ytnjckpgacbibhaa
