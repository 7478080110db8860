/- seat C: the reference's little functions -/
import Derived.Test.YtdpnpjficcciiaaCb
namespace Go.Proofs.Ytdpnpjficcciiaa
set_option linter.unusedVariables false
set_option linter.unusedSimpArgs false
open Go.RowKit Go.Cas

theorem r_Held (n : Int) (w : World) : Calls Try.prog 22 #[.int .i64 n] w fun e w' => e = .returned (.int .i64 (hld n)) ∧ w = w' := by
  have R := Lib.hid (show hld n = if 16777216 < n then 16777216 else if n < -16777216 then -16777216 else n by unfold hld; omega)
  go_enter Try.func22, Try.ntmps22
  go_wp2_with fail
  all_goals
    go_ret
    exact ⟨ret_int (by rw [R.out]; omega), rfl⟩
theorem r_most (a b : Int) (w : World) : Calls Try.prog 34 #[.int .i64 a, .int .i64 b] w fun e w' => e = .returned (.int .i64 (max a b)) ∧ w = w' := by
  go_enter Try.func34, Try.ntmps34
  go_wp2_with fail
  all_goals
    go_ret
    exact ⟨ret_int (by omega), rfl⟩
theorem r_least (a b : Int) (w : World) : Calls Try.prog 44 #[.int .i64 a, .int .i64 b] w fun e w' => e = .returned (.int .i64 (min a b)) ∧ w = w' := by
  go_enter Try.func44, Try.ntmps44
  go_wp2_with fail
  all_goals
    go_ret
    exact ⟨ret_int (by omega), rfl⟩
theorem r_factor (n : Int) (w : World) : Calls Try.prog 36 #[.int .i64 n] w fun e w' => e = .returned (.int .i64 (fac n)) ∧ w = w' := by
  have R := Lib.hid (show fac n = if n < 0 then 0 else min n 1000000000 by unfold fac; omega)
  have HL := Lib.hid (r_least n 1000000000)
  go_enter Try.func36, Try.ntmps36
  go_wp2_with (first | fail | (go_at_call 44; refine (HL.out _).mono ?_; rintro e w' ⟨rfl, rfl⟩))
  all_goals
    go_ret
    exact ⟨ret_int (by rw [R.out]; omega), rfl⟩
theorem r_size (n : Int) (hn : -4611686018427387904 ≤ n ∧ n ≤ 4611686018427387904) (w : World) : Calls Try.prog 26 #[.int .i64 n] w fun e w' => e = .returned (.int .i64 (max n (-n))) ∧ w = w' := by
  have v1 : IntKind.i64.wrap (-n) = -n := IntWalk.i64_in _ (by omega)
  have v2 : IntKind.i64.wrap (0 - n) = -n := by rw [IntWalk.i64_in _ (by omega)]; omega
  go_enter Try.func26, Try.ntmps26
  go_wp2_with fail
  all_goals
    go_ret
    exact ⟨ret_int (by omega), rfl⟩
theorem r_hold (x : FI) (n : Int) (w : World) : Calls Try.prog 23 #[agF x, .int .i64 n] w fun e w' => e = .returned (.int .i64 (bnd x n)) ∧ Below w.heap.size w w' := by
  obtain ⟨b, mn, mx, ar, g, s⟩ := x
  have R := Lib.hid (show bnd ⟨b, mn, mx, ar, g, s⟩ n = max (if 0 ≤ mx then min n mx else n) mn by rfl)
  have HM := Lib.hid (fun x y => r_most x y)
  have HB := Lib.hid (bl_alloc (Below.refl _ w) (.cells #[.int .i64 b, .int .i64 mn, .int .i64 mx, .int .i64 ar, .int .i64 g, .int .i64 s] 25))
  go_enter Try.func23, Try.ntmps23
  go_wp2_with (first | fail | (go_at_call 34; refine (HM.out _ _ _).mono ?_; rintro e w' ⟨rfl, rfl⟩))
  all_goals
    go_ret
    exact ⟨ret_int (by rw [R.out]; omega), HB.out⟩
theorem r_weight (x : FI) (f : Int) (gr : Bool) (w : World) (hx : FB x) (hf : 0 ≤ f ∧ f ≤ 1000000000) : Calls Try.prog 25 #[agF x, .int .i64 f, .bool gr] w fun e w' => e = .returned (.int .i64 (if gr = true then f else f * x.b)) ∧ Below w.heap.size w w' := by
  have hb := hx.b
  have hm : 0 ≤ f * x.b ∧ f * x.b ≤ 16777216000000000 := by
    have a := Int.mul_nonneg hf.1 hb.1
    have b := Int.mul_le_mul hf.2 hb.2 hb.1 (by omega : (0 : Int) ≤ 1000000000)
    omega
  clear hx
  obtain ⟨b, mn, mx, ar, g, s⟩ := x
  simp only at hm hb ⊢
  have v1 : IntKind.i64.wrap (f * b) = f * b := IntWalk.i64_in _ (by omega)
  have HB := Lib.hid (bl_alloc (Below.refl _ w) (.cells #[.int .i64 b, .int .i64 mn, .int .i64 mx, .int .i64 ar, .int .i64 g, .int .i64 s] 25))
  clear hm
  cases gr
  · go_enter Try.func25, Try.ntmps25
    go_wp2_with fail
    go_ret
    exact ⟨rfl, HB.out⟩
  · go_enter Try.func25, Try.ntmps25
    go_wp2_with fail
    go_ret
    exact ⟨rfl, HB.out⟩
end Go.Proofs.Ytdpnpjficcciiaa
