/- the reference: names -/
import Derived.Test.YtimlmekgapdkiaaGreatDoorTmd
namespace Go.Proofs.YtimlmekgapdkiaaGreatDoor
set_option linter.unusedVariables false
set_option linter.unusedSimpArgs false
open Go.RowKit Go.Cas

theorem isNm_iff (s : ByteArray) (h0 : 0 < s.size) (h40 : s.size ≤ 40) : isNm s = (lowC (s.data.toList.getD 0 0) && s.data.toList.all nmC) := by
  unfold isNm
  rw [decide_eq_true h0, decide_eq_true h40]; simp
set_option maxRecDepth 100000 in
set_option maxHeartbeats 4000000 in
theorem c_IsName (s : ByteArray) (w : World) (hs : s.size ≤ maxLen) : Calls Tryz.prog 50 #[.string s] w fun e w' => e = .returned (.bool (isNm s)) ∧ w = w' := by
  unfold maxLen at hs
  by_cases h0 : s.size = 0
  case pos =>
    have HN : Hid (isNm s = false) := by unfold Hid isNm; rw [decide_eq_false (by omega)]; rfl
    have q0 : (s.size : Int) = 0 := by omega
    clear h0 hs
    go_enter Tryz.func50, Tryz.ntmps50
    go_wp2_with fail
    go_ret
    exact ⟨ret_bool HN.out.symm, rfl⟩
  by_cases h40 : s.size ≤ 40
  case neg =>
    have q1 : (40 : Int) < (s.size : Int) := by omega
    have q0 : ¬ (s.size : Int) = 0 := by omega
    have q5 : ¬ s = ByteArray.empty := fun e => h0 (by rw [e]; rfl)
    have HN : Hid (isNm s = false) := by unfold Hid isNm; rw [decide_eq_false h40]; simp
    clear h40 h0
    go_enter Tryz.func50, Tryz.ntmps50
    go_wp2_with fail
    go_ret
    exact ⟨ret_bool HN.out.symm, rfl⟩
  have hp : 0 < s.size := by omega
  have q1 : ¬ (40 : Int) < (s.size : Int) := by omega
  have q0 : ¬ (s.size : Int) = 0 := by omega
  have q5 : ¬ s = ByteArray.empty := fun e => h0 (by rw [e]; rfl)
  have HN := Lib.hid (isNm_iff s hp h40)
  have HE : Hid (s.data.toList.getD 0 0 = s[0]) := by unfold Hid; rw [List.getD_eq_getElem?_getD, List.getElem?_eq_getElem (by simpa using hp)]; rfl
  have h40i : (s.size : Int) ≤ 40 := by omega
  clear h40 h0
  go_enter Tryz.func50, Tryz.ntmps50
  go_wp2_with fail
  clear q0 q1 q5
  go_loop [3] (fun i => ∃ (k : Nat), k ≤ s.size ∧ i = .int .i64 k ∧ Hid ((s.data.toList.take k).all nmC = true) ∧ Hid (0 < k → lowC s[0] = true)) (fun i => s.size - (intOf i).toNat)
  case atStart => exact ⟨0, by omega, rfl, rfl, fun h => by omega⟩
  case round =>
    obtain ⟨k, hk, rfl, HA, HL⟩ := hrel
    by_cases hlt : k < s.size
    · have hts : Hid (s.data.toList.take (k + 1) = s.data.toList.take k ++ [s[k]]) := by
        unfold Hid
        rw [List.take_succ_eq_append_getElem (by simpa using hlt)]; rfl
      have hall : Hid (nmC s[k] = false → isNm s = false) := by
        intro h
        rw [HN.out]
        have h3 : s.data.toList.all nmC = false := by
          rw [← Bool.not_eq_true, List.all_eq_true]
          intro h2
          have := h2 s[k] (by rw [show s[k] = s.data.toList[k]'(by simpa using hlt) from rfl]; exact List.getElem_mem _)
          rw [h] at this; cases this
        rw [h3]; simp
      have hik : (k : Int) < (s.size : Int) := by omega
      by_cases hk0 : k = 0
      · subst hk0
        have hlo : Hid (lowC s[0] = false → isNm s = false) := by
          intro h
          rw [HN.out, HE.out, h]; rfl
        by_cases hlw : 97 ≤ (s[0].toNat : Int) ∧ (s[0].toNat : Int) ≤ 122
        · have hl1 : lowC s[0] = true := by unfold lowC; simp only [Bool.and_eq_true, decide_eq_true_eq]; omega
          have hl2 : nmC s[0] = true := by unfold nmC; rw [hl1]; simp
          have HL1 := Lib.hid hl1
          have HL2 := Lib.hid hl2
          obtain ⟨b1, b2⟩ := hlw
          clear hl1 hl2
          go_wp2_with fail
          all_goals
            go_round
            case rel => exact ⟨0 + 1, by omega, by go_num, by unfold Hid; rw [hts.out, List.all_append, HA.out]; simp [HL2.out], fun _ => HL1.out⟩
            case measure => simp [intOf]; omega
        · have hl1 : lowC s[0] = false := by unfold lowC; simp only [Bool.and_eq_false_iff, decide_eq_false_iff_not]; omega
          have HI := Lib.hid (hlo.out hl1)
          clear hl1
          by_cases q6 : 97 ≤ (s[0].toNat : Int)
          · have q7 : ¬ (s[0].toNat : Int) ≤ 122 := fun e => hlw ⟨q6, e⟩
            clear hlw
            go_wp2_with fail
            all_goals
              go_ret
              exact ⟨ret_bool HI.out.symm, rfl⟩
          · clear hlw
            go_wp2_with fail
            all_goals
              go_ret
              exact ⟨ret_bool HI.out.symm, rfl⟩
      · have hki : ¬ (k : Int) = 0 := by omega
        have HLL := Lib.hid (HL.out (by omega))
        go_wp2_with fail
        all_goals
          (try simp only [bne_iff_ne, ne_eq, bne_eq_false_iff_eq, Bool.not_eq_true', Bool.not_eq_false', decide_eq_true_eq, decide_eq_false_iff_not, beq_iff_eq, beq_eq_false_iff_ne] at *)
          first
            | (have hn : nmC s[k] = true := by (unfold nmC lowC; simp only [Bool.or_eq_true, Bool.and_eq_true, decide_eq_true_eq]; omega)
               go_round
               case rel => exact ⟨k + 1, by omega, by go_num, by unfold Hid; rw [hts.out, List.all_append, HA.out]; simp [hn], fun _ => HLL.out⟩
               case measure => simp [intOf]; omega)
            | (have hn : nmC s[k] = false := by (unfold nmC lowC; simp only [Bool.or_eq_false_iff, Bool.and_eq_false_iff, decide_eq_false_iff_not]; omega)
               go_ret
               exact ⟨ret_bool (hall.out hn).symm, rfl⟩)
    · obtain rfl : k = s.size := by omega
      have HR : Hid (isNm s = true) := by
        unfold Hid
        rw [HN.out, HE.out, HL.out hp]
        have := HA.out
        rwa [List.take_of_length_le (by simp)] at this
      go_wp2_with fail
      go_ret
      exact ⟨ret_bool HR.out.symm, rfl⟩
end Go.Proofs.YtimlmekgapdkiaaGreatDoor
