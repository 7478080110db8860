/- InkWidths: the walk: how wide any text is; how high letters stand -/
import Derived.Test.YtnjckpgacbibhaaIf
namespace Go.Proofs.Ytnjckpgacbibhaa
open Go.RowKit Go.Cas

theorem wid_one : wid (zOf 1000) { data := #[109, 105, 32, 97] } = 1850 := by decide +kernel
theorem c_Ascent (n : Int) (w : World) : Calls Try.prog 25 #[.int .i64 n] w fun e w' => e = .returned (.int .i64 (zOf n * 4 / 5)) ∧ w = w' := by
  have hz := zOf_bd n
  go_enter Try.func25, Try.ntmps25
  go_wp2_with (go_at_call 59; refine (c_bounded _ _).mono ?_; rintro e w' ⟨rfl, rfl⟩)
  go_ret
  exact ⟨rfl, rfl⟩
theorem c_Descent (n : Int) (w : World) : Calls Try.prog 27 #[.int .i64 n] w fun e w' => e = .returned (.int .i64 (zOf n - zOf n * 4 / 5)) ∧ w = w' := by
  have hz := zOf_bd n
  go_enter Try.func27, Try.ntmps27
  go_wp2_with (first | (go_at_call 59; refine (c_bounded _ _).mono ?_; rintro e w' ⟨rfl, rfl⟩) | (go_at_call 25; refine (c_Ascent _ _).mono ?_; rintro e w' ⟨rfl, rfl⟩))
  go_ret
  exact ⟨rfl, rfl⟩
theorem c_rAscent (n : Int) (w : World) : Calls Try.prog 26 #[.int .i64 n] w fun e w' => e = .returned (.int .i64 (zOf n * 4 / 5)) ∧ w = w' := by
  have hz := zOf_bd n
  go_enter Try.func26, Try.ntmps26
  go_wp2_with (go_at_call 62; refine (c_Held1 _ _).mono ?_; rintro e w' ⟨rfl, rfl⟩)
  go_ret
  exact ⟨ret_int (by omega), rfl⟩
theorem c_rDescent (n : Int) (w : World) : Calls Try.prog 28 #[.int .i64 n] w fun e w' => e = .returned (.int .i64 (zOf n - zOf n * 4 / 5)) ∧ w = w' := by
  have hz := zOf_bd n
  go_enter Try.func28, Try.ntmps28
  go_wp2_with (first | (go_at_call 62; refine (c_Held1 _ _).mono ?_; rintro e w' ⟨rfl, rfl⟩) | (go_at_call 26; refine (c_rAscent _ _).mono ?_; rintro e w' ⟨rfl, rfl⟩))
  go_ret
  exact ⟨rfl, rfl⟩
theorem W_inkWidths (n : Int) (s : ByteArray) (w : World) (_ : (Lit.int .i64 n).wf = true) (hs : s.size ≤ maxLen) : Calls Try.prog 6 #[.int .i64 n, .string s] w fun e w' => e = .returned (.bool true) ∧ Below w.heap.size w w' := by
  unfold maxLen at hs
  by_cases hlt : s.size ≤ 3000
  · go_enter Try.func6, Try.ntmps6
    go_wp2_with fail
    refine (c_Width _ _ _ (by decide)).mono ?_; rintro e w1 ⟨rfl, hb1⟩
    rw [wid_one]
    go_wp2_with fail
    refine (c_Width _ _ _ (by omega)).mono ?_; rintro e w2 ⟨rfl, hb2⟩
    go_wp2_with fail
    refine (c_rWidth _ _ _ (by omega)).mono ?_; rintro e w3 ⟨rfl, hb3⟩
    go_wp2_with (first | (go_at_call 25; refine (c_Ascent _ _).mono ?_; rintro e w' ⟨rfl, rfl⟩) | (go_at_call 26; refine (c_rAscent _ _).mono ?_; rintro e w' ⟨rfl, rfl⟩) | (go_at_call 27; refine (c_Descent _ _).mono ?_; rintro e w' ⟨rfl, rfl⟩) | (go_at_call 28; refine (c_rDescent _ _).mono ?_; rintro e w' ⟨rfl, rfl⟩))
    go_ret
    exact ⟨rfl, (hb1.trans (hb2.mono hb1.size)).trans (hb3.mono (Nat.le_trans hb1.size hb2.size))⟩
  · go_enter Try.func6, Try.ntmps6
    go_wp2_with fail
    refine (c_Width _ _ _ (by decide)).mono ?_; rintro e w1 ⟨rfl, hb1⟩
    rw [wid_one]
    go_wp2_with fail
    go_ret
    exact ⟨rfl, hb1⟩
end Go.Proofs.Ytnjckpgacbibhaa
