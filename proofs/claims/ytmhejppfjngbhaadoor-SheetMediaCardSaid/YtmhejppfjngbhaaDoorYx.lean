/- sheets: a number rounded down, both sides; plain: the program's conditions -/
import Derived.Test.YtmhejppfjngbhaaDoorYw
namespace Go.Proofs.YtmhejppfjngbhaaDoor
set_option linter.unusedVariables false
set_option linter.unusedSimpArgs false
open Go.RowKit Go.Cas

theorem td_pos {a : Int} (h : 0 ≤ a) : a.tdiv 1000 = a / 1000 ∧ a.tmod 1000 = a % 1000 := ⟨Int.tdiv_eq_ediv_of_nonneg h, Int.tmod_eq_emod_of_nonneg h⟩
theorem td_neg {a : Int} (h : ¬ 0 ≤ a) : a.tdiv 1000 = -((-a) / 1000) ∧ a.tmod 1000 = -((-a) % 1000) := by
  have h1 := td_pos (a := -a) (by omega)
  rw [Int.neg_tdiv, Int.neg_tmod] at h1
  omega
set_option maxHeartbeats 4000000 in
theorem c_Floor (a : Int) (w : World) (h1 : -1000000000000 ≤ a) (h2 : a ≤ 1000000000000) : Calls Tryd.prog 37 #[.int .i64 a, .int .i64 1000] w fun e w' => e = .returned (.int .i64 (a / 1000)) ∧ w = w' := by
  by_cases h0 : 0 ≤ a
  · obtain ⟨d1, d2⟩ := td_pos h0
    obtain ⟨q, hq⟩ : ∃ q, q = a / 1000 := ⟨_, rfl⟩
    obtain ⟨m, hm⟩ : ∃ m, m = a % 1000 := ⟨_, rfl⟩
    have hm0 : ¬ m < 0 := by omega
    have hqb : -1000000000000 ≤ q ∧ q ≤ 1000000000000 := by omega
    obtain ⟨hq1, hq2⟩ := hqb
    rw [← hq] at d1 ⊢
    rw [← hm] at d2
    clear hq hm
    go_enter Tryd.func37, Tryd.ntmps37
    go_wp2_with fail
    all_goals
      go_ret
      exact ⟨ret_int (by omega), rfl⟩
  · obtain ⟨d1, d2⟩ := td_neg h0
    have hqb : -1000000000000 ≤ a.tdiv 1000 ∧ a.tdiv 1000 ≤ 1000000000000 := by omega
    obtain ⟨hq1, hq2⟩ := hqb
    by_cases hm : a.tmod 1000 < 0
    · have HR : Hid (a.tdiv 1000 - 1 = a / 1000) := by unfold Hid; omega
      obtain ⟨q, hq⟩ : ∃ q, a.tdiv 1000 = q := ⟨_, rfl⟩
      obtain ⟨m, hmm⟩ : ∃ m, a.tmod 1000 = m := ⟨_, rfl⟩
      clear d1 d2
      rw [hq] at hq1 hq2 HR
      rw [hmm] at hm
      go_enter Tryd.func37, Tryd.ntmps37
      go_wp2_with fail
      go_ret
      exact ⟨ret_int HR.out, rfl⟩
    · have HR : Hid (a.tdiv 1000 = a / 1000) := by unfold Hid; omega
      obtain ⟨q, hq⟩ : ∃ q, a.tdiv 1000 = q := ⟨_, rfl⟩
      obtain ⟨m, hmm⟩ : ∃ m, a.tmod 1000 = m := ⟨_, rfl⟩
      clear d1 d2
      rw [hq] at hq1 hq2 HR
      rw [hmm] at hm
      go_enter Tryd.func37, Tryd.ntmps37
      go_wp2_with fail
      go_ret
      exact ⟨ret_int HR.out, rfl⟩
set_option maxHeartbeats 4000000 in
theorem c_rDown (a : Int) (w : World) (h1 : -1000000000000 ≤ a) (h2 : a ≤ 1000000000000) : Calls Tryd.prog 45 #[.int .i64 a, .int .i64 1000] w fun e w' => e = .returned (.int .i64 (a / 1000)) ∧ w = w' := by
  have hdd : (0 ≤ a → a.tdiv 1000 = a / 1000) ∧ (¬ 0 ≤ a → a.tdiv 1000 = -((-a) / 1000)) := ⟨fun h => (td_pos h).1, fun h => (td_neg h).1⟩
  have hqb : -1000000000000 ≤ a.tdiv 1000 ∧ a.tdiv 1000 ≤ 1000000000000 := by
    by_cases h0 : 0 ≤ a
    · have := hdd.1 h0; omega
    · have := hdd.2 h0; omega
  obtain ⟨hq1, hq2⟩ := hqb
  by_cases hm : a < a.tdiv 1000 * 1000
  · have HR : Hid (a.tdiv 1000 - 1 = a / 1000) := by
      unfold Hid
      by_cases h0 : 0 ≤ a
      · have := hdd.1 h0; omega
      · have := hdd.2 h0; omega
    obtain ⟨q, hq⟩ : ∃ q, a.tdiv 1000 = q := ⟨_, rfl⟩
    clear hdd
    rw [hq] at hq1 hq2 HR hm
    go_enter Tryd.func45, Tryd.ntmps45
    go_wp2_with fail
    go_ret
    exact ⟨ret_int HR.out, rfl⟩
  · have HR : Hid (a.tdiv 1000 = a / 1000) := by
      unfold Hid
      by_cases h0 : 0 ≤ a
      · have := hdd.1 h0; omega
      · have := hdd.2 h0; omega
    obtain ⟨q, hq⟩ : ∃ q, a.tdiv 1000 = q := ⟨_, rfl⟩
    clear hdd
    rw [hq] at hq1 hq2 HR hm
    go_enter Tryd.func45, Tryd.ntmps45
    go_wp2_with fail
    go_ret
    exact ⟨ret_int HR.out, rfl⟩
end Go.Proofs.YtmhejppfjngbhaaDoor
