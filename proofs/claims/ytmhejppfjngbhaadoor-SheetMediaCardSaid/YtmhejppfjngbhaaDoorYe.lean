/- sheets: the tests of bytes, where names and numbers end -/
import Derived.Test.YtmhejppfjngbhaaDoorProg
import Derived.WalkKit
import Derived.WalkLawsBesides
import Derived.Lib.Hide
import Derived.StillTailTactics
import Derived.Deep.LoopGhost
import Derived.Deep.DeepCutAuto
import Derived.Deep.CutBlock
import Derived.Outline
import Derived.Test.YtmhejppfjngbhaaDoorbase
import Derived.Test.YtmhejppfjngbhaaDoorYb
namespace Go.Proofs.YtmhejppfjngbhaaDoor
set_option linter.unusedVariables false
set_option linter.unusedSimpArgs false
open Go.RowKit Go.Cas

theorem ret_int {k : IntKind} {a b : Int} (h : a = b) : Ending.returned (.int k a) = .returned (.int k b) := by rw [h]
theorem ret_bool {a b : Bool} (h : a = b) : Ending.returned (.bool a) = .returned (.bool b) := by rw [h]
theorem blC_iff (c : UInt8) : blC c = true ↔ (c.toNat = 9 ∨ c.toNat = 10 ∨ c.toNat = 12 ∨ c.toNat = 13 ∨ c.toNat = 32) := by
  unfold blC
  simp only [Bool.or_eq_true, beq_iff_eq, ← UInt8.toNat_inj]
  simp [or_assoc]
theorem dgC_iff (c : UInt8) : dgC c = true ↔ (48 ≤ c.toNat ∧ c.toNat ≤ 57) := by unfold dgC; simp
theorem fsC_iff (c : UInt8) : fsC c = true ↔ ((97 ≤ c.toNat ∧ c.toNat ≤ 122) ∨ (65 ≤ c.toNat ∧ c.toNat ≤ 90) ∨ c.toNat = 95 ∨ 128 ≤ c.toNat) := by unfold fsC; simp [or_assoc]
theorem mrC_iff (c : UInt8) : mrC c = true ↔ (fsC c = true ∨ dgC c = true ∨ c.toNat = 45) := by unfold mrC; simp [or_assoc]
theorem c_isBlank (c : UInt8) (w : World) : Calls Tryd.prog 29 #[.int .u8 (c.toNat : Int)] w fun e w' => e = .returned (.bool (blC c)) ∧ w = w' := by
  have hc := blC_iff c
  go_enter Tryd.func29, Tryd.ntmps29
  go_wp2_with fail
  all_goals
    go_ret
    cases hb : blC c
    all_goals
      rw [hb] at hc
      simp at hc
      first | exact ⟨rfl, rfl⟩ | (exfalso; omega) | exact ⟨ret_bool (by simp; omega), rfl⟩
theorem c_digit (c : UInt8) (w : World) : Calls Tryd.prog 51 #[.int .u8 (c.toNat : Int)] w fun e w' => e = .returned (.bool (dgC c)) ∧ w = w' := by
  have hc := dgC_iff c
  go_enter Tryd.func51, Tryd.ntmps51
  go_wp2_with fail
  all_goals
    go_ret
    cases hb : dgC c
    all_goals
      rw [hb] at hc
      simp at hc
      first | exact ⟨rfl, rfl⟩ | (exfalso; omega) | exact ⟨ret_bool (by simp; omega), rfl⟩
theorem c_first (c : UInt8) (w : World) : Calls Tryd.prog 52 #[.int .u8 (c.toNat : Int)] w fun e w' => e = .returned (.bool (fsC c)) ∧ w = w' := by
  have hc := fsC_iff c
  go_enter Tryd.func52, Tryd.ntmps52
  go_wp2_with fail
  all_goals
    go_ret
    cases hb : fsC c
    all_goals
      rw [hb] at hc
      simp at hc
      first | exact ⟨rfl, rfl⟩ | (exfalso; omega) | exact ⟨ret_bool (by simp; omega), rfl⟩
theorem c_rBlank (c : UInt8) (w : World) : Calls Tryd.prog 39 #[.int .u8 (c.toNat : Int)] w fun e w' => e = .returned (.bool (blC c)) ∧ w = w' := by
  have hc := blC_iff c
  go_enter Tryd.func39, Tryd.ntmps39
  go_wp2_with fail
  all_goals
    go_ret
    cases hb : blC c
    all_goals
      rw [hb] at hc
      simp at hc
      first | exact ⟨rfl, rfl⟩ | (exfalso; omega) | exact ⟨ret_bool (by simp; omega), rfl⟩
theorem c_rDigit (c : UInt8) (w : World) : Calls Tryd.prog 59 #[.int .u8 (c.toNat : Int)] w fun e w' => e = .returned (.bool (dgC c)) ∧ w = w' := by
  have hc := dgC_iff c
  go_enter Tryd.func59, Tryd.ntmps59
  go_wp2_with fail
  all_goals
    go_ret
    cases hb : dgC c
    all_goals
      rw [hb] at hc
      simp at hc
      first | exact ⟨rfl, rfl⟩ | (exfalso; omega) | exact ⟨ret_bool (by simp; omega), rfl⟩
theorem c_rOpens (c : UInt8) (w : World) : Calls Tryd.prog 58 #[.int .u8 (c.toNat : Int)] w fun e w' => e = .returned (.bool (fsC c)) ∧ w = w' := by
  have hc := fsC_iff c
  go_enter Tryd.func58, Tryd.ntmps58
  go_wp2_with fail
  all_goals
    go_ret
    cases hb : fsC c
    all_goals
      rw [hb] at hc
      simp at hc
      first | exact ⟨rfl, rfl⟩ | (exfalso; omega) | exact ⟨ret_bool (by simp; omega), rfl⟩
theorem c_more (c : UInt8) (w : World) : Calls Tryd.prog 33 #[.int .u8 (c.toNat : Int)] w fun e w' => e = .returned (.bool (mrC c)) ∧ w = w' := by
  have hc := mrC_iff c
  go_enter Tryd.func33, Tryd.ntmps33
  go_wp2_with (first
    | (go_at_call 52; refine (c_first c _).mono ?_; rintro e w' ⟨rfl, rfl⟩)
    | (go_at_call 51; refine (c_digit c _).mono ?_; rintro e w' ⟨rfl, rfl⟩))
  all_goals
    go_ret
    cases hb : mrC c
    all_goals
      rw [hb] at hc
      first
        | (simp_all; done)
        | (simp_all; omega)
        | (simp_all; grind)
theorem c_rIn (c : UInt8) (w : World) : Calls Tryd.prog 42 #[.int .u8 (c.toNat : Int)] w fun e w' => e = .returned (.bool (mrC c)) ∧ w = w' := by
  have hc := mrC_iff c
  go_enter Tryd.func42, Tryd.ntmps42
  go_wp2_with (first
    | (go_at_call 58; refine (c_rOpens c _).mono ?_; rintro e w' ⟨rfl, rfl⟩)
    | (go_at_call 59; refine (c_rDigit c _).mono ?_; rintro e w' ⟨rfl, rfl⟩))
  all_goals
    go_ret
    cases hb : mrC c
    all_goals
      rw [hb] at hc
      first
        | (simp_all; done)
        | (simp_all; omega)
        | (simp_all; grind)
theorem c_digits (s : ByteArray) (i : Nat) (w : World) (hi : i ≤ s.size) (hs : s.size ≤ maxLen) : Calls Tryd.prog 50 #[.string s, .int .i64 (i : Int)] w fun e w' => e = .returned (.int .i64 (runE dgC s i : Int)) ∧ w = w' := by
  unfold maxLen at hs
  go_enter Tryd.func50, Tryd.ntmps50
  go_wp2_with fail
  go_loop [1] (fun v => ∃ (k : Nat), i ≤ k ∧ k ≤ s.size ∧ v = .int .i64 (k : Int) ∧ Hid (∀ j, i ≤ j → j < k → dgC (bt s j) = true)) (fun v => s.size - (intOf v).toNat)
  case atStart => exact ⟨i, Nat.le_refl _, hi, rfl, fun j h1 h2 => by omega⟩
  case round =>
    obtain ⟨k, hik, hk, rfl, HA⟩ := hrel
    by_cases hlt : k < s.size
    · have hki : (k : Int) < (s.size : Int) := by omega
      have HD := Lib.hid (c_digit s[k] w)
      by_cases hd : dgC s[k] = true
      · have HDD := Lib.hid hd
        rw [hd] at HD
        go_wp2_with (go_at_call 51; refine (HD.out).mono ?_; rintro e w' ⟨rfl, rfl⟩)
        go_round
        case rel => exact ⟨k + 1, by omega, by omega, by go_num, fun j h1 h2 => by
          by_cases e : j = k
          · subst e; rw [bt_eq hlt]; exact HDD.out
          · exact HA.out j h1 (by omega)⟩
        case measure => simp [intOf]; omega
      · have hd2 : dgC s[k] = false := by simpa using hd
        have HDD := Lib.hid hd2
        rw [hd2] at HD
        clear hd hd2
        go_wp2_with (go_at_call 51; refine (HD.out).mono ?_; rintro e w' ⟨rfl, rfl⟩)
        go_ret
        exact ⟨ret_int (by rw [runE_eq hik hk HA.out (fun _ => by rw [bt_eq hlt]; exact HDD.out)]), rfl⟩
    · obtain rfl : k = s.size := by omega
      go_wp2_with fail
      go_ret
      exact ⟨ret_int (by rw [runE_eq hik hk HA.out (fun h => by omega)]), rfl⟩
end Go.Proofs.YtmhejppfjngbhaaDoor
