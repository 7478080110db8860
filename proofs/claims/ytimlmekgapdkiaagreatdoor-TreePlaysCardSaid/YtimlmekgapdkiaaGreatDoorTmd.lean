/- the tree: names -/
import Derived.Test.YtimlmekgapdkiaaGreatDoorTma
namespace Go.Proofs.YtimlmekgapdkiaaGreatDoor
set_option linter.unusedVariables false
set_option linter.unusedSimpArgs false
open Go.RowKit Go.Cas

def lowC (c : UInt8) : Bool := decide (97 ≤ c.toNat) && decide (c.toNat ≤ 122)
def nmC (c : UInt8) : Bool := lowC c || (decide (48 ≤ c.toNat) && decide (c.toNat ≤ 57)) || decide (c.toNat = 45) || decide (c.toNat = 95) || decide (c.toNat = 58)
def isNm (s : ByteArray) : Bool := decide (0 < s.size) && decide (s.size ≤ 40) && lowC (s.data.toList.getD 0 0) && s.data.toList.all nmC
theorem c_Name0 (s : ByteArray) (w : World) (hs : s.size = 0) : Calls Tryz.prog 48 #[.string s] w fun e w' => e = .returned (.bool false) ∧ w = w' := by
  obtain rfl : s = ByteArray.empty := ByteArray.size_eq_zero_iff.1 hs
  go_enter Tryz.func48, Tryz.ntmps48
  go_wp2_with fail
  go_ret
  exact ⟨rfl, rfl⟩
theorem c_Name (s : ByteArray) (w : World) (hs : s.size ≤ maxLen) : Calls Tryz.prog 48 #[.string s] w fun e w' => e = .returned (.bool (isNm s)) ∧ w = w' := by
  by_cases h0 : s.size = 0
  · refine (c_Name0 s w h0).mono fun e w' h => ⟨?_, h.2⟩
    rw [h.1]
    exact ret_bool (by unfold isNm; rw [decide_eq_false (by omega)]; rfl)
  unfold maxLen at hs
  have hp : 0 < s.size := by omega
  have e0 : s.data.toList.getD 0 0 = s[0] := by rw [List.getD_eq_getElem?_getD, List.getElem?_eq_getElem (by simpa using hp)]; rfl
  have t1 : ¬ s.toList = [] := fun e => h0 (by rw [ByteArray.toList_eq] at e; have := congrArg List.length e; simpa using this)
  have t2 : s.toList.isEmpty = false := by simpa using t1
  have HN : Hid (isNm s = (decide (s.size ≤ 40) && lowC s[0] && s.data.toList.all nmC)) := by
    unfold Hid isNm
    rw [e0, decide_eq_true hp]; simp
  by_cases h40 : s.size ≤ 40
  case neg =>
    have q1 : ¬ (s.size : Int) ≤ 40 := by omega
    have HN2 : Hid (isNm s = false) := by unfold Hid; rw [HN.out, decide_eq_false h40]; rfl
    clear h40 e0
    go_enter Tryz.func48, Tryz.ntmps48
    go_wp2_with fail
    go_ret
    exact ⟨ret_bool HN2.out.symm, rfl⟩
  by_cases hl : lowC s[0] = true
  case neg =>
    have q1 : (s.size : Int) ≤ 40 := by omega
    have HN2 : Hid (isNm s = false) := by unfold Hid; rw [HN.out, Bool.not_eq_true _ |>.mp hl]; simp
    have hl2 : s[0].toNat < 97 ∨ 122 < s[0].toNat := by
      unfold lowC at hl
      simp at hl
      omega
    have HL := Lib.hid hl2
    clear hl e0 hl2 h40
    rcases HL.out with hl2 | hl2
    · have q2 : ¬ (97 : Int) ≤ (s[0].toNat : Int) := by omega
      clear hl2
      go_enter Tryz.func48, Tryz.ntmps48
      go_wp2_with fail
      go_ret
      exact ⟨ret_bool HN2.out.symm, rfl⟩
    · have q2 : (97 : Int) ≤ (s[0].toNat : Int) := by omega
      have q3 : ¬ (s[0].toNat : Int) ≤ 122 := by omega
      clear hl2
      go_enter Tryz.func48, Tryz.ntmps48
      go_wp2_with fail
      go_ret
      exact ⟨ret_bool HN2.out.symm, rfl⟩
  have hl2 : 97 ≤ s[0].toNat ∧ s[0].toNat ≤ 122 := by
    unfold lowC at hl
    simp at hl
    omega
  have q1 : (s.size : Int) ≤ 40 := by omega
  have q2 : (97 : Int) ≤ (s[0].toNat : Int) := by omega
  have q3 : (s[0].toNat : Int) ≤ 122 := by omega
  have HN2 : Hid (isNm s = s.data.toList.all nmC) := by unfold Hid; rw [HN.out, hl, decide_eq_true h40]; rfl
  clear hl hl2 h40 e0 HN
  go_enter Tryz.func48, Tryz.ntmps48
  go_wp2_with fail
  clear q1 q2 q3 t1 t2
  go_loop [24] (fun i => ∃ (k : Nat), k ≤ s.size ∧ i = .int .i64 k ∧ Hid ((s.data.toList.take k).all nmC = true)) (fun i => s.size - (intOf i).toNat)
  case atStart => exact ⟨0, by omega, rfl, rfl⟩
  case round =>
    obtain ⟨k, hk, rfl, HA⟩ := hrel
    by_cases hlt : k < s.size
    · have hts : Hid (s.data.toList.take (k + 1) = s.data.toList.take k ++ [s[k]]) := by
        unfold Hid
        rw [List.take_succ_eq_append_getElem (by simpa using hlt)]; rfl
      have hall : Hid (nmC s[k] = false → isNm s = false) := by
        intro h
        rw [HN2.out]
        rw [← Bool.not_eq_true, List.all_eq_true]
        intro h2
        have := h2 s[k] (by rw [show s[k] = s.data.toList[k]'(by simpa using hlt) from rfl]; exact List.getElem_mem _)
        rw [h] at this; cases this
      have hik : (k : Int) < (s.size : Int) := by omega
      go_wp2_with fail
      all_goals
        (try simp only [bne_iff_ne, ne_eq, bne_eq_false_iff_eq] at *)
        first
          | (have hn : nmC s[k] = true := by (unfold nmC lowC; simp only [Bool.or_eq_true, Bool.and_eq_true, decide_eq_true_eq]; omega)
             go_round
             case rel => exact ⟨k + 1, by omega, by go_num, by unfold Hid; rw [hts.out, List.all_append, HA.out]; simp [hn]⟩
             case measure => simp [intOf]; omega)
          | (have hn : nmC s[k] = false := by (unfold nmC lowC; simp only [Bool.or_eq_false_iff, Bool.and_eq_false_iff, decide_eq_false_iff_not]; omega)
             go_ret
             exact ⟨ret_bool (hall.out hn).symm, rfl⟩)
    · obtain rfl : k = s.size := by omega
      have HR : Hid (isNm s = true) := by
        unfold Hid
        rw [HN2.out]
        have := HA.out
        rwa [List.take_of_length_le (by simp)] at this
      go_wp2_with fail
      go_ret
      exact ⟨ret_bool HR.out.symm, rfl⟩
end Go.Proofs.YtimlmekgapdkiaaGreatDoor
