/- sheets: where names and numbers end: both sides -/
import Derived.Test.YtmhejppfjngbhaaDoorYe
import Derived.Test.YtmhejppfjngbhaaDoorYsh
namespace Go.Proofs.YtmhejppfjngbhaaDoor
set_option linter.unusedVariables false
set_option linter.unusedSimpArgs false
open Go.RowKit Go.Cas

theorem ext_list (s : ByteArray) (i : Nat) : (s.extract i s.size).data.toList = s.data.toList.drop i := by
  rw [ByteArray.data_extract, Array.toList_extract]
  simp [List.extract]
  rw [List.take_of_length_le (by simp)]
theorem hp2 {s : ByteArray} {i : Nat} {a b : UInt8} (ha : a ≠ 0) (hb : b ≠ 0) : Lib.hasPrefix (s.extract i s.size).data.toList [a, b] = decide (bt s i = a ∧ bt s (i + 1) = b) := by
  rw [ext_list, Bool.eq_iff_iff]
  unfold Lib.hasPrefix bt
  simp only [decide_eq_true_eq]
  rw [List.getD_eq_getElem?_getD, List.getD_eq_getElem?_getD, show s.data.toList[i]? = (s.data.toList.drop i)[0]? by rw [List.getElem?_drop]; rfl, show s.data.toList[i + 1]? = (s.data.toList.drop i)[1]? by rw [List.getElem?_drop]]
  cases s.data.toList.drop i with
  | nil => simp [ha.symm]
  | cons x l =>
    cases l with
    | nil => simp [hb.symm]
    | cons y l =>
      simp [List.isPrefixOf]
      constructor <;> (rintro ⟨rfl, rfl⟩; exact ⟨rfl, rfl⟩)
theorem c_at (s : ByteArray) (i : Nat) (w : World) (hi : i < 4611686018427387904) : Calls Tryd.prog 21 #[.string s, .int .i64 (i : Int)] w fun e w' => e = .returned (.int .u8 ((bt s i).toNat : Int)) ∧ w = w' := by
  by_cases h : i < s.size
  · have HB := Lib.hid (bt_eq h)
    have h1 : ¬ (i : Int) < 0 := by omega
    have h2 : (i : Int) < (s.size : Int) := by omega
    go_enter Tryd.func21, Tryd.ntmps21
    go_wp2_with fail
    go_ret
    exact ⟨ret_int (by rw [HB.out]), rfl⟩
  · have HB := Lib.hid (bt_out (s := s) (i := i) (by omega))
    have h1 : ¬ (i : Int) < 0 := by omega
    have h2 : ¬ (i : Int) < (s.size : Int) := by omega
    go_enter Tryd.func21, Tryd.ntmps21
    go_wp2_with fail
    all_goals
      go_ret
      exact ⟨ret_int (by rw [HB.out]; rfl), rfl⟩

set_option maxHeartbeats 4000000 in
theorem c_rDigits (s : ByteArray) (i : Nat) (w : World) (hi : i ≤ s.size) (hs : s.size ≤ 4611686018427387904) : Calls Tryd.prog 57 #[.string s, .int .i64 (i : Int)] w fun e w' => e = .returned (.int .i64 ((runE dgC s i - i : Nat) : Int)) ∧ w = w' := by
  go_enter Tryd.func57, Tryd.ntmps57
  go_wp2_with fail
  go_loopw [5] (fun v wr => ∃ (n : Nat), i ≤ i + n ∧ i + n ≤ s.size ∧ v = .int .i64 (n : Int) ∧ Hid (∀ q, i ≤ q → q < i + n → dgC (bt s q) = true) ∧ w = wr) (fun v _ => s.size - (intOf v).toNat)
  case atStart => exact ⟨0, by omega, by omega, rfl, fun q h1 h2 => by omega, rfl⟩
  case round =>
    obtain ⟨n, hik, hk, rfl, HA, rfl⟩ := hrel
    by_cases hlt : i + n < s.size
    · obtain ⟨k, hkd⟩ : ∃ k, k = i + n := ⟨_, rfl⟩
      have hkn : (i : Int) + (n : Int) = (k : Int) := by omega
      rw [← hkd] at hlt
      have hki : (k : Int) < (s.size : Int) := by omega
      have HKD := Lib.hid hkd
      have HD := Lib.hid (c_rDigit s[k] w)
      by_cases hd : dgC s[k] = true
      · have HDD := Lib.hid hd
        rw [hd] at HD
        clear hkd
        go_wp2_with (go_at_call 59; refine (HD.out).mono ?_; rintro e w' ⟨rfl, rfl⟩)
        go_roundw
        case rel => exact ⟨n + 1, by omega, by have := HKD.out; omega, by go_num, fun q h1 h2 => by
          by_cases e : q = k
          · subst e; rw [bt_eq hlt]; exact HDD.out
          · exact HA.out q h1 (by have := HKD.out; omega), by first | rfl | trivial⟩
        case measure => have := HKD.out; simp [intOf]; omega
      · have hd2 : dgC s[k] = false := by simpa using hd
        have HDD := Lib.hid hd2
        rw [hd2] at HD
        clear hd hd2 hkd
        go_wp2_with (go_at_call 59; refine (HD.out).mono ?_; rintro e w' ⟨rfl, rfl⟩)
        go_ret
        exact ⟨ret_int (by have h9 := runE_eq hik hk HA.out (fun _ => by rw [← HKD.out, bt_eq hlt]; exact HDD.out); rw [h9]; omega), rfl⟩
    · have hkz : i + n = s.size := by omega
      have hkn : (i : Int) + (n : Int) = (s.size : Int) := by omega
      go_wp2_with fail
      go_ret
      exact ⟨ret_int (by have h9 := runE_eq hik hk HA.out (fun h => by omega); rw [h9]; omega), rfl⟩

theorem fs0 : fsC 0 = false := by decide
set_option maxRecDepth 100000 in
set_option maxHeartbeats 4000000 in
theorem c_nameEnd (s : ByteArray) (i : Nat) (w : World) (hi : i ≤ s.size) (hs : s.size ≤ 4611686018427387904) : Calls Tryd.prog 32 #[.string s, .int .i64 (i : Int)] w fun e w' => e = .returned (.int .i64 (nmE s i : Int)) ∧ w = w' := by
  have z0 : ∀ j, bt s j ≠ 0 → j < s.size := fun j hj => Decidable.byContradiction fun e => hj (bt_out (by omega))
  have HP : Hid (Calls Tryd.prog 15 #[.string (s.extract i s.size), .string (ByteArray.mk #[45, 45])] w fun e w' => e = .returned (.bool (decide (bt s i = 45 ∧ bt s (i + 1) = 45))) ∧ w = w') := by
    have := Tryd.strings_HasPrefix (s.extract i s.size) (ByteArray.mk #[45, 45]) w
    rw [show (ByteArray.mk #[45, 45]).data.toList = [45, 45] from rfl, hp2 (by decide) (by decide)] at this
    exact this.mono fun _ _ h => ⟨h.1, h.2.symm⟩
  by_cases hA : bt s i = 45 ∧ bt s (i + 1) = 45
  · have HE : Hid (nmE s i = runE mrC s (i + 2)) := by unfold Hid nmE; rw [if_pos hA]
    have h2 := z0 (i + 1) (by rw [hA.2]; decide)
    rw [decide_eq_true hA] at HP
    have hiS : (i : Int) ≤ (s.size : Int) := by omega
    clear hA z0
    go_enter Tryd.func32, Tryd.ntmps32
    go_wp2_with (go_at_call 15; refine (HP.out).mono ?_; rintro e w' ⟨rfl, rfl⟩)
    go_loopw [5] (fun v wr => ∃ (k : Nat), (i + 2) ≤ k ∧ k ≤ s.size ∧ v = .int .i64 (k : Int) ∧ Hid (∀ q, (i + 2) ≤ q → q < k → mrC (bt s q) = true) ∧ w = wr) (fun v _ => s.size - (intOf v).toNat)
    case atStart => exact ⟨(i + 2), Nat.le_refl _, by omega, by go_num, fun q h1 h2 => by omega, rfl⟩
    case round =>
      obtain ⟨k, hik, hk, rfl, HA, rfl⟩ := hrel
      by_cases hlt : k < s.size
      · have hki : (k : Int) < (s.size : Int) := by omega
        have HD := Lib.hid (c_more s[k] w)
        by_cases hd : mrC s[k] = true
        · have HDD := Lib.hid hd
          rw [hd] at HD
          go_wp2_with (go_at_call 33; refine (HD.out).mono ?_; rintro e w' ⟨rfl, rfl⟩)
          go_roundw
          case rel => exact ⟨k + 1, by omega, by omega, by go_num, fun q h1 h2 => by
            by_cases e : q = k
            · subst e; rw [bt_eq hlt]; exact HDD.out
            · exact HA.out q h1 (by omega), by first | rfl | trivial⟩
          case measure => simp [intOf]; omega
        · have hd2 : mrC s[k] = false := by simpa using hd
          have HDD := Lib.hid hd2
          rw [hd2] at HD
          clear hd hd2
          go_wp2_with (go_at_call 33; refine (HD.out).mono ?_; rintro e w' ⟨rfl, rfl⟩)
          go_ret
          exact ⟨ret_int (by rw [HE.out, runE_eq hik hk HA.out (fun _ => by rw [bt_eq hlt]; exact HDD.out)]), rfl⟩
      · obtain rfl : k = s.size := by omega
        go_wp2_with fail
        go_ret
        exact ⟨ret_int (by rw [HE.out, runE_eq hik hk HA.out (fun h => by omega)]), rfl⟩

  rw [decide_eq_false hA] at HP
  have hiS : (i : Int) ≤ (s.size : Int) := by omega
  by_cases hB : bt s i = 45
  · have h2 := z0 i (by rw [hB]; decide)
    have hlt : (i : Int) < (s.size : Int) := by omega
    have hbi : (s[i].toNat : Int) = 45 := by rw [← bt_eq h2, hB]; rfl
    by_cases hC : i + 1 = s.size
    · have HE : Hid (nmE s i = i) := by
        unfold Hid nmE
        rw [if_neg hA, if_pos hB, bt_out (by omega), if_neg (by rw [fs0]; decide)]
      have hCi : (i : Int) + 1 = (s.size : Int) := by omega
      clear hA hB hC z0
      go_enter Tryd.func32, Tryd.ntmps32
      go_wp2_with (go_at_call 15; refine (HP.out).mono ?_; rintro e w' ⟨rfl, rfl⟩)
      go_ret
      exact ⟨ret_int (by rw [HE.out]), rfl⟩
    · have h3 : i + 1 < s.size := by omega
      have hCi : ¬ (i : Int) + 1 = (s.size : Int) := by omega
      have hCl : (i : Int) + 1 < (s.size : Int) := by omega
      have HF := Lib.hid (c_first (s[i + 1]) w)
      by_cases hD : fsC (s[i + 1]) = true
      · have HE : Hid (nmE s i = runE mrC s (i + 1)) := by
          unfold Hid nmE
          rw [if_neg hA, if_pos hB, bt_eq h3, if_pos hD]
        rw [hD] at HF
        clear hA hB hC z0 hD
        go_enter Tryd.func32, Tryd.ntmps32
        go_wp2_with (first | (go_at_call 15; refine (HP.out).mono ?_; rintro e w' ⟨rfl, rfl⟩) | (go_at_call 52; refine (HF.out).mono ?_; rintro e w' ⟨rfl, rfl⟩))
        have nb : ((i : Int) + 1 == (s.size : Int)) = false := beq_eq_false_iff_ne.2 hCi
        try rw [nb]
        go_loopw [5] (fun v wr => ∃ (k : Nat), (i + 1) ≤ k ∧ k ≤ s.size ∧ v = .int .i64 (k : Int) ∧ Hid (∀ q, (i + 1) ≤ q → q < k → mrC (bt s q) = true) ∧ w = wr) (fun v _ => s.size - (intOf v).toNat)
        case atStart => exact ⟨(i + 1), Nat.le_refl _, by omega, by go_num, fun q h1 h2 => by omega, rfl⟩
        case round =>
          obtain ⟨k, hik, hk, rfl, HA, rfl⟩ := hrel
          by_cases hlt : k < s.size
          · have hki : (k : Int) < (s.size : Int) := by omega
            have HD := Lib.hid (c_more s[k] w)
            by_cases hd : mrC s[k] = true
            · have HDD := Lib.hid hd
              rw [hd] at HD
              go_wp2_with (go_at_call 33; refine (HD.out).mono ?_; rintro e w' ⟨rfl, rfl⟩)
              go_roundw
              case rel => exact ⟨k + 1, by omega, by omega, by go_num, fun q h1 h2 => by
                by_cases e : q = k
                · subst e; rw [bt_eq hlt]; exact HDD.out
                · exact HA.out q h1 (by omega), by first | rfl | trivial⟩
              case measure => simp [intOf]; omega
            · have hd2 : mrC s[k] = false := by simpa using hd
              have HDD := Lib.hid hd2
              rw [hd2] at HD
              clear hd hd2
              go_wp2_with (go_at_call 33; refine (HD.out).mono ?_; rintro e w' ⟨rfl, rfl⟩)
              go_ret
              exact ⟨ret_int (by rw [HE.out, runE_eq hik hk HA.out (fun _ => by rw [bt_eq hlt]; exact HDD.out)]), rfl⟩
          · obtain rfl : k = s.size := by omega
            go_wp2_with fail
            go_ret
            exact ⟨ret_int (by rw [HE.out, runE_eq hik hk HA.out (fun h => by omega)]), rfl⟩

      · have hD2 : fsC (s[i + 1]) = false := by simpa using hD
        have HE : Hid (nmE s i = i) := by
          unfold Hid nmE
          rw [if_neg hA, if_pos hB, bt_eq h3, if_neg hD]
        rw [hD2] at HF
        clear hA hB hC z0 hD hD2
        go_enter Tryd.func32, Tryd.ntmps32
        go_wp2_with (first | (go_at_call 15; refine (HP.out).mono ?_; rintro e w' ⟨rfl, rfl⟩) | (go_at_call 52; refine (HF.out).mono ?_; rintro e w' ⟨rfl, rfl⟩))
        go_ret
        exact ⟨ret_int (by rw [HE.out]), rfl⟩
  · by_cases hC : i = s.size
    · have HE : Hid (nmE s i = i) := by
        unfold Hid nmE
        rw [if_neg hA, if_neg hB, bt_out (by omega), if_neg (by rw [fs0]; decide)]
      have hCi : (i : Int) = (s.size : Int) := by omega
      have HP2 := HP
      rw [show s.extract i s.size = ByteArray.empty by rw [hC]; simp] at HP2
      clear hA hB hC z0
      go_enter Tryd.func32, Tryd.ntmps32
      go_wp2_with (go_at_call 15; first | (refine (HP.out).mono ?_; rintro e w' ⟨rfl, rfl⟩) | (refine (HP2.out).mono ?_; rintro e w' ⟨rfl, rfl⟩))
      go_ret
      exact ⟨ret_int (by rw [HE.out]; omega), rfl⟩
    · have h3 : i < s.size := by omega
      have hCi : ¬ (i : Int) = (s.size : Int) := by omega
      have hCl : (i : Int) < (s.size : Int) := by omega
      have hbi : ¬ (s[i].toNat : Int) = 45 := fun e => hB (by rw [bt_eq h3]; exact UInt8.toNat_inj.1 (by have : s[i].toNat = 45 := (by omega); rw [this]; rfl))
      have HF := Lib.hid (c_first (s[i]) w)
      by_cases hD : fsC (s[i]) = true
      · have HE : Hid (nmE s i = runE mrC s i) := by
          unfold Hid nmE
          rw [if_neg hA, if_neg hB, bt_eq h3, if_pos hD]
        rw [hD] at HF
        clear hA hB hC z0 hD
        go_enter Tryd.func32, Tryd.ntmps32
        go_wp2_with (first | (go_at_call 15; refine (HP.out).mono ?_; rintro e w' ⟨rfl, rfl⟩) | (go_at_call 52; refine (HF.out).mono ?_; rintro e w' ⟨rfl, rfl⟩))
        have nb : ((i : Int) == (s.size : Int)) = false := beq_eq_false_iff_ne.2 hCi
        try rw [nb]
        go_loopw [5] (fun v wr => ∃ (k : Nat), i ≤ k ∧ k ≤ s.size ∧ v = .int .i64 (k : Int) ∧ Hid (∀ q, i ≤ q → q < k → mrC (bt s q) = true) ∧ w = wr) (fun v _ => s.size - (intOf v).toNat)
        case atStart => exact ⟨i, Nat.le_refl _, by omega, rfl, fun q h1 h2 => by omega, rfl⟩
        case round =>
          obtain ⟨k, hik, hk, rfl, HA, rfl⟩ := hrel
          by_cases hlt : k < s.size
          · have hki : (k : Int) < (s.size : Int) := by omega
            have HD := Lib.hid (c_more s[k] w)
            by_cases hd : mrC s[k] = true
            · have HDD := Lib.hid hd
              rw [hd] at HD
              go_wp2_with (go_at_call 33; refine (HD.out).mono ?_; rintro e w' ⟨rfl, rfl⟩)
              go_roundw
              case rel => exact ⟨k + 1, by omega, by omega, by go_num, fun q h1 h2 => by
                by_cases e : q = k
                · subst e; rw [bt_eq hlt]; exact HDD.out
                · exact HA.out q h1 (by omega), by first | rfl | trivial⟩
              case measure => simp [intOf]; omega
            · have hd2 : mrC s[k] = false := by simpa using hd
              have HDD := Lib.hid hd2
              rw [hd2] at HD
              clear hd hd2
              go_wp2_with (go_at_call 33; refine (HD.out).mono ?_; rintro e w' ⟨rfl, rfl⟩)
              go_ret
              exact ⟨ret_int (by rw [HE.out, runE_eq hik hk HA.out (fun _ => by rw [bt_eq hlt]; exact HDD.out)]), rfl⟩
          · obtain rfl : k = s.size := by omega
            go_wp2_with fail
            go_ret
            exact ⟨ret_int (by rw [HE.out, runE_eq hik hk HA.out (fun h => by omega)]), rfl⟩

      · have hD2 : fsC (s[i]) = false := by simpa using hD
        have HE : Hid (nmE s i = i) := by
          unfold Hid nmE
          rw [if_neg hA, if_neg hB, bt_eq h3, if_neg hD]
        rw [hD2] at HF
        clear hA hB hC z0 hD hD2
        go_enter Tryd.func32, Tryd.ntmps32
        go_wp2_with (first | (go_at_call 15; refine (HP.out).mono ?_; rintro e w' ⟨rfl, rfl⟩) | (go_at_call 52; refine (HF.out).mono ?_; rintro e w' ⟨rfl, rfl⟩))
        go_ret
        exact ⟨ret_int (by rw [HE.out]), rfl⟩

theorem sg_iff (c : UInt8) : sgC c = true ↔ (c.toNat = 43 ∨ c.toNat = 45) := by
  unfold sgC
  simp only [Bool.or_eq_true, beq_iff_eq, ← UInt8.toNat_inj]
  simp
/-- where a number's digits begin -/
def nuJ (s : ByteArray) (i : Nat) : Nat := if sgC (bt s i) = true then i + 1 else i
theorem nuE_eq (s : ByteArray) (i : Nat) : nuE s i = if bt s (runE dgC s (nuJ s i)) = 46 ∧ dgC (bt s (runE dgC s (nuJ s i) + 1)) = true then runE dgC s (runE dgC s (nuJ s i) + 1) else if nuJ s i < runE dgC s (nuJ s i) then runE dgC s (nuJ s i) else i := rfl
theorem nuJ_le (s : ByteArray) (i : Nat) (h : i ≤ s.size) : i ≤ nuJ s i ∧ nuJ s i ≤ s.size := by
  unfold nuJ
  split
  · rename_i hs
    have : i < s.size := Decidable.byContradiction fun e => by rw [bt_out (by omega)] at hs; revert hs; decide
    omega
  · omega
theorem bt_nat {s : ByteArray} {k : Nat} (h : k < s.size) (c : UInt8) : ((s[k].toNat : Int) = (c.toNat : Int)) ↔ bt s k = c := by
  rw [bt_eq h, ← UInt8.toNat_inj]; omega
set_option maxRecDepth 100000 in
set_option maxHeartbeats 4000000 in
theorem c_numberEnd (s : ByteArray) (i : Nat) (w : World) (hi : i ≤ s.size) (hs : s.size ≤ 4611686018427387904) : Calls Tryd.prog 31 #[.string s, .int .i64 (i : Int)] w fun e w' => e = .returned (.int .i64 (nuE s i : Int)) ∧ w = w' := by
  obtain ⟨j, hj⟩ : ∃ j, j = nuJ s i := ⟨_, rfl⟩
  obtain ⟨k, hk⟩ : ∃ k, k = runE dgC s j := ⟨_, rfl⟩
  have hE := nuE_eq s i
  rw [← hj, ← hk] at hE
  have hj2 := nuJ_le s i hi
  rw [← hj] at hj2
  have hk2 := runE_le dgC s j hj2.2
  rw [← hk] at hk2
  have hsz : s.size ≤ maxLen := by unfold maxLen; omega
  have HD := Lib.hid (c_digits s j w hj2.2 hsz)
  rw [← hk] at HD
  have HE := Lib.hid hE
  have HJ := Lib.hid hj
  have finish : Hid (∀ (d : Bool), (d = decide (bt s k = 46 ∧ dgC (bt s (k + 1)) = true)) → True) := fun _ _ => trivial
  have hkS : (k : Int) ≤ (s.size : Int) := by omega
  have HRD : Hid (k + 1 ≤ s.size → Calls Tryd.prog 50 #[.string s, .int .i64 ((k : Int) + 1)] w fun e w' => e = .returned (.int .i64 (runE dgC s (k + 1) : Int)) ∧ w = w') := fun h => by
    have := c_digits s (k + 1) w h hsz
    simpa using this
  have HG : Hid (∀ q : Nat, (h : q < s.size) → Calls Tryd.prog 51 #[.int .u8 (s[q].toNat : Int)] w fun e w' => e = .returned (.bool (dgC s[q])) ∧ w = w') := fun q h => c_digit s[q] w
  clear hE hk hj
  have z0 : ∀ j, bt s j ≠ 0 → j < s.size := fun j hj => Decidable.byContradiction fun e => hj (bt_out (by omega))
  -- behind the sign
  by_cases hsg : sgC (bt s i) = true
  · have hlt := z0 i (fun e => by rw [e] at hsg; exact absurd hsg (by decide))
    have hji : j = i + 1 := by rw [HJ.out]; unfold nuJ; rw [if_pos hsg]
    have hlI : (i : Int) < (s.size : Int) := by omega
    have HD2 : Hid (Calls Tryd.prog 50 #[.string s, .int .i64 ((i : Int) + 1)] w fun e w' => e = .returned (.int .i64 (k : Int)) ∧ w = w') := by
      have := HD.out
      rw [show (j : Int) = (i : Int) + 1 by omega] at this
      exact this
    clear HD hj2
    obtain ⟨vb, hvb, hbI⟩ : ∃ vb : Int, (vb = 43 ∨ vb = 45) ∧ (s[i].toNat : Int) = vb := by
      have := (sg_iff _).1 hsg
      rw [bt_eq hlt] at this
      exact ⟨_, by omega, rfl⟩
    clear hsg
    rcases hvb with rfl | rfl
    all_goals
      skip
      by_cases hd : bt s k = 46 ∧ dgC (bt s (k + 1)) = true
      · have h1 := z0 (k + 1) (fun e => by rw [e] at hd; exact absurd hd.2 (by decide))
        have q1 : (k : Int) + 1 < (s.size : Int) := by omega
        have q2 : (k : Int) < (s.size : Int) := by omega
        have q3 : (s[k].toNat : Int) = 46 := (bt_nat (by omega) 46).2 hd.1
        have HGK := HG.out (k + 1) h1
        rw [← bt_eq h1, hd.2, bt_eq h1] at HGK
        have HGK := Lib.hid HGK
        have HR := Lib.hid (HRD.out (by omega))
        have HE2 : Hid (nuE s i = runE dgC s (k + 1)) := by rw [HE.out, if_pos hd]; rfl
        clear hd z0
        go_enter Tryd.func31, Tryd.ntmps31
        go_wp2_with (first
          | (go_at_call 50; first | ((with_reducible refine (HD2.out).mono ?_); rintro e w' ⟨rfl, rfl⟩) | ((with_reducible refine (HR.out).mono ?_); rintro e w' ⟨rfl, rfl⟩))
          | (go_at_call 51; refine (HGK.out).mono ?_; rintro e w' ⟨rfl, rfl⟩))
        all_goals
          go_ret
          exact ⟨ret_int (by rw [HE2.out]), rfl⟩
      · have HE2 : Hid (nuE s i = if j < k then k else i) := by rw [HE.out, if_neg hd]; rfl
        by_cases q0 : (k : Int) + 1 < (s.size : Int)
        · by_cases q3 : (s[k].toNat : Int) = 46
          · have h1 : dgC (s[k + 1]) = false := by
              cases h : dgC s[k + 1] with
              | false => rfl
              | true => exact absurd ⟨(bt_nat (by omega) 46).1 q3, by rw [bt_eq (by omega)]; exact h⟩ hd
            have HGK := HG.out (k + 1) (by omega)
            rw [h1] at HGK
            have HGK := Lib.hid HGK
            clear hd z0 h1
            by_cases q4 : (i : Int) + 1 < (k : Int)
            · have HE3 : Hid (nuE s i = k) := by rw [HE2.out, if_pos (by omega)]; rfl
              go_enter Tryd.func31, Tryd.ntmps31
              go_wp2_with (first
                | (go_at_call 50; (with_reducible refine (HD2.out).mono ?_); rintro e w' ⟨rfl, rfl⟩)
                | (go_at_call 51; refine (HGK.out).mono ?_; rintro e w' ⟨rfl, rfl⟩))
              all_goals
                go_ret
                exact ⟨ret_int (by rw [HE3.out]), rfl⟩
            · have HE3 : Hid (nuE s i = i) := by rw [HE2.out, if_neg (by omega)]; rfl
              go_enter Tryd.func31, Tryd.ntmps31
              go_wp2_with (first
                | (go_at_call 50; (with_reducible refine (HD2.out).mono ?_); rintro e w' ⟨rfl, rfl⟩)
                | (go_at_call 51; refine (HGK.out).mono ?_; rintro e w' ⟨rfl, rfl⟩))
              all_goals
                go_ret
                exact ⟨ret_int (by rw [HE3.out]), rfl⟩
          · clear hd z0
            by_cases q4 : (i : Int) + 1 < (k : Int)
            · have HE3 : Hid (nuE s i = k) := by rw [HE2.out, if_pos (by omega)]; rfl
              go_enter Tryd.func31, Tryd.ntmps31
              go_wp2_with (go_at_call 50; (with_reducible refine (HD2.out).mono ?_); rintro e w' ⟨rfl, rfl⟩)
              all_goals
                go_ret
                exact ⟨ret_int (by rw [HE3.out]), rfl⟩
            · have HE3 : Hid (nuE s i = i) := by rw [HE2.out, if_neg (by omega)]; rfl
              go_enter Tryd.func31, Tryd.ntmps31
              go_wp2_with (go_at_call 50; (with_reducible refine (HD2.out).mono ?_); rintro e w' ⟨rfl, rfl⟩)
              all_goals
                go_ret
                exact ⟨ret_int (by rw [HE3.out]), rfl⟩
        · clear hd z0
          by_cases q4 : (i : Int) + 1 < (k : Int)
          · have HE3 : Hid (nuE s i = k) := by rw [HE2.out, if_pos (by omega)]; rfl
            go_enter Tryd.func31, Tryd.ntmps31
            go_wp2_with (go_at_call 50; (with_reducible refine (HD2.out).mono ?_); rintro e w' ⟨rfl, rfl⟩)
            all_goals
              go_ret
              exact ⟨ret_int (by rw [HE3.out]), rfl⟩
          · have HE3 : Hid (nuE s i = i) := by rw [HE2.out, if_neg (by omega)]; rfl
            go_enter Tryd.func31, Tryd.ntmps31
            go_wp2_with (go_at_call 50; (with_reducible refine (HD2.out).mono ?_); rintro e w' ⟨rfl, rfl⟩)
            all_goals
              go_ret
              exact ⟨ret_int (by rw [HE3.out]), rfl⟩

  · have hji : j = i := by rw [HJ.out]; unfold nuJ; rw [if_neg hsg]
    by_cases hlt : i < s.size
    · have hlI : (i : Int) < (s.size : Int) := by omega
      have HD2 : Hid (Calls Tryd.prog 50 #[.string s, .int .i64 (i : Int)] w fun e w' => e = .returned (.int .i64 (k : Int)) ∧ w = w') := by
        have := HD.out
        rw [show (j : Int) = (i : Int) by omega] at this
        exact this
      clear HD hj2
      have hn := fun e => hsg ((sg_iff _).2 e)
      rw [bt_eq hlt] at hn
      have hb1 : ¬ (s[i].toNat : Int) = 43 := fun e => hn (.inl (by omega))
      have hb2 : ¬ (s[i].toNat : Int) = 45 := fun e => hn (.inr (by omega))
      have nb1 : ((s[i].toNat : Int) == 43) = false := beq_eq_false_iff_ne.2 hb1
      have nb2 : ((s[i].toNat : Int) == 45) = false := beq_eq_false_iff_ne.2 hb2
      clear hsg hn
      by_cases hd : bt s k = 46 ∧ dgC (bt s (k + 1)) = true
      · have h1 := z0 (k + 1) (fun e => by rw [e] at hd; exact absurd hd.2 (by decide))
        have q1 : (k : Int) + 1 < (s.size : Int) := by omega
        have q2 : (k : Int) < (s.size : Int) := by omega
        have q3 : (s[k].toNat : Int) = 46 := (bt_nat (by omega) 46).2 hd.1
        have HGK := HG.out (k + 1) h1
        rw [← bt_eq h1, hd.2, bt_eq h1] at HGK
        have HGK := Lib.hid HGK
        have HR := Lib.hid (HRD.out (by omega))
        have HE2 : Hid (nuE s i = runE dgC s (k + 1)) := by rw [HE.out, if_pos hd]; rfl
        clear hd z0
        go_enter Tryd.func31, Tryd.ntmps31
        go_wp2_with (first
          | (go_at_call 50; first | ((with_reducible refine (HD2.out).mono ?_); rintro e w' ⟨rfl, rfl⟩) | ((with_reducible refine (HR.out).mono ?_); rintro e w' ⟨rfl, rfl⟩))
          | (go_at_call 51; refine (HGK.out).mono ?_; rintro e w' ⟨rfl, rfl⟩))
        all_goals
          go_ret
          exact ⟨ret_int (by rw [HE2.out]), rfl⟩
      · have HE2 : Hid (nuE s i = if j < k then k else i) := by rw [HE.out, if_neg hd]; rfl
        by_cases q0 : (k : Int) + 1 < (s.size : Int)
        · by_cases q3 : (s[k].toNat : Int) = 46
          · have h1 : dgC (s[k + 1]) = false := by
              cases h : dgC s[k + 1] with
              | false => rfl
              | true => exact absurd ⟨(bt_nat (by omega) 46).1 q3, by rw [bt_eq (by omega)]; exact h⟩ hd
            have HGK := HG.out (k + 1) (by omega)
            rw [h1] at HGK
            have HGK := Lib.hid HGK
            clear hd z0 h1
            by_cases q4 : (i : Int) < (k : Int)
            · have HE3 : Hid (nuE s i = k) := by rw [HE2.out, if_pos (by omega)]; rfl
              go_enter Tryd.func31, Tryd.ntmps31
              go_wp2_with (first
                | (go_at_call 50; (with_reducible refine (HD2.out).mono ?_); rintro e w' ⟨rfl, rfl⟩)
                | (go_at_call 51; refine (HGK.out).mono ?_; rintro e w' ⟨rfl, rfl⟩))
              all_goals
                go_ret
                exact ⟨ret_int (by rw [HE3.out]), rfl⟩
            · have HE3 : Hid (nuE s i = i) := by rw [HE2.out, if_neg (by omega)]; rfl
              go_enter Tryd.func31, Tryd.ntmps31
              go_wp2_with (first
                | (go_at_call 50; (with_reducible refine (HD2.out).mono ?_); rintro e w' ⟨rfl, rfl⟩)
                | (go_at_call 51; refine (HGK.out).mono ?_; rintro e w' ⟨rfl, rfl⟩))
              all_goals
                go_ret
                exact ⟨ret_int (by rw [HE3.out]), rfl⟩
          · clear hd z0
            by_cases q4 : (i : Int) < (k : Int)
            · have HE3 : Hid (nuE s i = k) := by rw [HE2.out, if_pos (by omega)]; rfl
              go_enter Tryd.func31, Tryd.ntmps31
              go_wp2_with (go_at_call 50; (with_reducible refine (HD2.out).mono ?_); rintro e w' ⟨rfl, rfl⟩)
              all_goals
                go_ret
                exact ⟨ret_int (by rw [HE3.out]), rfl⟩
            · have HE3 : Hid (nuE s i = i) := by rw [HE2.out, if_neg (by omega)]; rfl
              go_enter Tryd.func31, Tryd.ntmps31
              go_wp2_with (go_at_call 50; (with_reducible refine (HD2.out).mono ?_); rintro e w' ⟨rfl, rfl⟩)
              all_goals
                go_ret
                exact ⟨ret_int (by rw [HE3.out]), rfl⟩
        · clear hd z0
          by_cases q4 : (i : Int) < (k : Int)
          · have HE3 : Hid (nuE s i = k) := by rw [HE2.out, if_pos (by omega)]; rfl
            go_enter Tryd.func31, Tryd.ntmps31
            go_wp2_with (go_at_call 50; (with_reducible refine (HD2.out).mono ?_); rintro e w' ⟨rfl, rfl⟩)
            all_goals
              go_ret
              exact ⟨ret_int (by rw [HE3.out]), rfl⟩
          · have HE3 : Hid (nuE s i = i) := by rw [HE2.out, if_neg (by omega)]; rfl
            go_enter Tryd.func31, Tryd.ntmps31
            go_wp2_with (go_at_call 50; (with_reducible refine (HD2.out).mono ?_); rintro e w' ⟨rfl, rfl⟩)
            all_goals
              go_ret
              exact ⟨ret_int (by rw [HE3.out]), rfl⟩

    · have hlI : ¬ (i : Int) < (s.size : Int) := by omega
      have HD2 : Hid (Calls Tryd.prog 50 #[.string s, .int .i64 (i : Int)] w fun e w' => e = .returned (.int .i64 (k : Int)) ∧ w = w') := by
        have := HD.out
        rw [show (j : Int) = (i : Int) by omega] at this
        exact this
      clear HD hj2
      clear hsg
      by_cases hd : bt s k = 46 ∧ dgC (bt s (k + 1)) = true
      · have h1 := z0 (k + 1) (fun e => by rw [e] at hd; exact absurd hd.2 (by decide))
        have q1 : (k : Int) + 1 < (s.size : Int) := by omega
        have q2 : (k : Int) < (s.size : Int) := by omega
        have q3 : (s[k].toNat : Int) = 46 := (bt_nat (by omega) 46).2 hd.1
        have HGK := HG.out (k + 1) h1
        rw [← bt_eq h1, hd.2, bt_eq h1] at HGK
        have HGK := Lib.hid HGK
        have HR := Lib.hid (HRD.out (by omega))
        have HE2 : Hid (nuE s i = runE dgC s (k + 1)) := by rw [HE.out, if_pos hd]; rfl
        clear hd z0
        go_enter Tryd.func31, Tryd.ntmps31
        go_wp2_with (first
          | (go_at_call 50; first | ((with_reducible refine (HD2.out).mono ?_); rintro e w' ⟨rfl, rfl⟩) | ((with_reducible refine (HR.out).mono ?_); rintro e w' ⟨rfl, rfl⟩))
          | (go_at_call 51; refine (HGK.out).mono ?_; rintro e w' ⟨rfl, rfl⟩))
        all_goals
          go_ret
          exact ⟨ret_int (by rw [HE2.out]), rfl⟩
      · have HE2 : Hid (nuE s i = if j < k then k else i) := by rw [HE.out, if_neg hd]; rfl
        by_cases q0 : (k : Int) + 1 < (s.size : Int)
        · by_cases q3 : (s[k].toNat : Int) = 46
          · have h1 : dgC (s[k + 1]) = false := by
              cases h : dgC s[k + 1] with
              | false => rfl
              | true => exact absurd ⟨(bt_nat (by omega) 46).1 q3, by rw [bt_eq (by omega)]; exact h⟩ hd
            have HGK := HG.out (k + 1) (by omega)
            rw [h1] at HGK
            have HGK := Lib.hid HGK
            clear hd z0 h1
            by_cases q4 : (i : Int) < (k : Int)
            · have HE3 : Hid (nuE s i = k) := by rw [HE2.out, if_pos (by omega)]; rfl
              go_enter Tryd.func31, Tryd.ntmps31
              go_wp2_with (first
                | (go_at_call 50; (with_reducible refine (HD2.out).mono ?_); rintro e w' ⟨rfl, rfl⟩)
                | (go_at_call 51; refine (HGK.out).mono ?_; rintro e w' ⟨rfl, rfl⟩))
              all_goals
                go_ret
                exact ⟨ret_int (by rw [HE3.out]), rfl⟩
            · have HE3 : Hid (nuE s i = i) := by rw [HE2.out, if_neg (by omega)]; rfl
              go_enter Tryd.func31, Tryd.ntmps31
              go_wp2_with (first
                | (go_at_call 50; (with_reducible refine (HD2.out).mono ?_); rintro e w' ⟨rfl, rfl⟩)
                | (go_at_call 51; refine (HGK.out).mono ?_; rintro e w' ⟨rfl, rfl⟩))
              all_goals
                go_ret
                exact ⟨ret_int (by rw [HE3.out]), rfl⟩
          · clear hd z0
            by_cases q4 : (i : Int) < (k : Int)
            · have HE3 : Hid (nuE s i = k) := by rw [HE2.out, if_pos (by omega)]; rfl
              go_enter Tryd.func31, Tryd.ntmps31
              go_wp2_with (go_at_call 50; (with_reducible refine (HD2.out).mono ?_); rintro e w' ⟨rfl, rfl⟩)
              all_goals
                go_ret
                exact ⟨ret_int (by rw [HE3.out]), rfl⟩
            · have HE3 : Hid (nuE s i = i) := by rw [HE2.out, if_neg (by omega)]; rfl
              go_enter Tryd.func31, Tryd.ntmps31
              go_wp2_with (go_at_call 50; (with_reducible refine (HD2.out).mono ?_); rintro e w' ⟨rfl, rfl⟩)
              all_goals
                go_ret
                exact ⟨ret_int (by rw [HE3.out]), rfl⟩
        · clear hd z0
          by_cases q4 : (i : Int) < (k : Int)
          · have HE3 : Hid (nuE s i = k) := by rw [HE2.out, if_pos (by omega)]; rfl
            go_enter Tryd.func31, Tryd.ntmps31
            go_wp2_with (go_at_call 50; (with_reducible refine (HD2.out).mono ?_); rintro e w' ⟨rfl, rfl⟩)
            all_goals
              go_ret
              exact ⟨ret_int (by rw [HE3.out]), rfl⟩
          · have HE3 : Hid (nuE s i = i) := by rw [HE2.out, if_neg (by omega)]; rfl
            go_enter Tryd.func31, Tryd.ntmps31
            go_wp2_with (go_at_call 50; (with_reducible refine (HD2.out).mono ?_); rintro e w' ⟨rfl, rfl⟩)
            all_goals
              go_ret
              exact ⟨ret_int (by rw [HE3.out]), rfl⟩

end Go.Proofs.YtmhejppfjngbhaaDoor
