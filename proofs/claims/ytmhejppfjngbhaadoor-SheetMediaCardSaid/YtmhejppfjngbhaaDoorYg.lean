/- sheets: names and numbers: the document's -/
import Derived.Test.YtmhejppfjngbhaaDoorYf
namespace Go.Proofs.YtmhejppfjngbhaaDoor
set_option linter.unusedVariables false
set_option linter.unusedSimpArgs false
open Go.RowKit Go.Cas

theorem btI {s : ByteArray} {i : Nat} (c : UInt8) : (((bt s i).toNat : Int) == (c.toNat : Int)) = decide (bt s i = c) := by
  rw [Bool.eq_iff_iff, beq_iff_eq, decide_eq_true_eq, ← UInt8.toNat_inj]; omega
set_option maxRecDepth 100000 in
set_option maxHeartbeats 4000000 in
theorem c_rName (s : ByteArray) (i : Nat) (w : World) (hi : i ≤ s.size) (hs : s.size ≤ 4611686018427387900) : Calls Tryd.prog 41 #[.string s, .int .i64 (i : Int)] w fun e w' => e = .returned (.int .i64 ((nmE s i - i : Nat) : Int)) ∧ w = w' := by
  have z0 : ∀ j, bt s j ≠ 0 → j < s.size := fun j hj => Decidable.byContradiction fun e => hj (bt_out (by omega))
  have HA0 := Lib.hid (c_at s i w (by omega))
  have HA1 : Hid (Calls Tryd.prog 21 #[.string s, .int .i64 ((i : Int) + 1)] w fun e w' => e = .returned (.int .u8 ((bt s (i + 1)).toNat : Int)) ∧ w = w') := by
    have := c_at s (i + 1) w (by omega)
    rw [show ((i + 1 : Nat) : Int) = (i : Int) + 1 by omega] at this
    exact this
  have HO0 := Lib.hid (c_rOpens (bt s i) w)
  have HO1 := Lib.hid (c_rOpens (bt s (i + 1)) w)
  have hiS : (i : Int) ≤ (s.size : Int) := by omega
  obtain ⟨b0, hb0⟩ : ∃ b0, b0 = bt s i := ⟨_, rfl⟩
  obtain ⟨b1, hb1⟩ : ∃ b1, b1 = bt s (i + 1) := ⟨_, rfl⟩
  have hI0 := btI (s := s) (i := i) 45
  have hI1 := btI (s := s) (i := i + 1) 45
  have hE : nmE s i = if bt s i = 45 ∧ bt s (i + 1) = 45 then runE mrC s (i + 2) else if bt s i = 45 then (if fsC (bt s (i + 1)) = true then runE mrC s (i + 1) else i) else if fsC (bt s i) = true then runE mrC s i else i := rfl
  have z1 := z0 (i + 1)
  have z00 := z0 i
  rw [← hb0] at HA0 HO0 hI0 hE z00
  rw [← hb1] at HA1 HO1 hI1 hE z1
  clear hb0 hb1
  have HE := Lib.hid hE
  have i0 : ((b0.toNat : Int) == 45) = decide (b0 = 45) := hI0
  have i1 : ((b1.toNat : Int) == 45) = decide (b1 = 45) := hI1
  have i1n : ((b1.toNat : Int) != 45) = !decide (b1 = 45) := by rw [bne, i1]
  clear hE z0 hI0 hI1
  by_cases hA : b0 = 45
  · have h1 := z00 (by rw [hA]; decide)
    rw [decide_eq_true hA] at i0
    have n0 : (b0.toNat : Int) = 45 := by rw [hA]; rfl
    by_cases hO : fsC b1 = true
    · have h2 := z1 (fun e => by rw [e] at hO; exact absurd hO (by decide))
      have hne : b1 ≠ 45 := fun e => by rw [e] at hO; exact absurd hO (by decide)
      have HE2 : Hid (nmE s i = runE mrC s (i + 1)) := by rw [HE.out, if_neg (fun e => hne e.2), if_pos hA, if_pos hO]; rfl
      rw [hO] at HO1
      clear HE HO0 hA z00 z1 hne hO i1 i1n
      go_enter Tryd.func41, Tryd.ntmps41
      go_wp2_with (first
        | (go_at_call 21; first | ((with_reducible refine (HA0.out).mono ?_); rintro e w' ⟨rfl, rfl⟩) | ((with_reducible refine (HA1.out).mono ?_); rintro e w' ⟨rfl, rfl⟩))
        | (go_at_call 58; first | ((with_reducible refine (HO1.out).mono ?_); rintro e w' ⟨rfl, rfl⟩)))
      go_loopw [5] (fun v wr => ∃ (n : Nat), (i + 1) ≤ i + n ∧ i + n ≤ s.size ∧ v = .int .i64 (n : Int) ∧ Hid (∀ q, (i + 1) ≤ q → q < i + n → mrC (bt s q) = true) ∧ w = wr) (fun v _ => s.size - (intOf v).toNat)
      case atStart => exact ⟨1, by omega, by omega, rfl, fun q h1 h2 => by omega, rfl⟩
      case round =>
        obtain ⟨n, hik, hk, rfl, HA, rfl⟩ := hrel
        by_cases hlt : i + n < s.size
        · obtain ⟨k, hkd⟩ : ∃ k, k = i + n := ⟨_, rfl⟩
          have hkn : (i : Int) + (n : Int) = (k : Int) := by omega
          rw [← hkd] at hlt
          have hki : (k : Int) < (s.size : Int) := by omega
          have HKD := Lib.hid hkd
          have HD := Lib.hid (c_rIn s[k] w)
          by_cases hd : mrC s[k] = true
          · have HDD := Lib.hid hd
            rw [hd] at HD
            clear hkd
            go_wp2_with (go_at_call 42; refine (HD.out).mono ?_; rintro e w' ⟨rfl, rfl⟩)
            go_roundw
            case rel => exact ⟨n + 1, by omega, by have := HKD.out; omega, by go_num, fun q h1 h2 => by
              by_cases e : q = k
              · subst e; rw [bt_eq hlt]; exact HDD.out
              · exact HA.out q h1 (by have := HKD.out; omega), by first | rfl | trivial⟩
            case measure => have := HKD.out; simp [intOf]; omega
          · have hd2 : mrC s[k] = false := by simpa using hd
            have HDD := Lib.hid hd2
            rw [hd2] at HD
            clear hd hd2 hkd
            go_wp2_with (go_at_call 42; refine (HD.out).mono ?_; rintro e w' ⟨rfl, rfl⟩)
            go_ret
            exact ⟨ret_int (by have h9 := runE_eq hik hk HA.out (fun _ => by rw [← HKD.out, bt_eq hlt]; exact HDD.out); rw [HE2.out, h9]; omega), rfl⟩
        · have hkz : i + n = s.size := by omega
          have hkn : (i : Int) + (n : Int) = (s.size : Int) := by omega
          go_wp2_with fail
          go_ret
          exact ⟨ret_int (by have h9 := runE_eq hik hk HA.out (fun h => by omega); rw [HE2.out, h9]; omega), rfl⟩

    · have hO2 : fsC b1 = false := by simpa using hO
      rw [hO2] at HO1
      by_cases hB : b1 = 45
      · have h2 := z1 (by rw [hB]; decide)
        have HE2 : Hid (nmE s i = runE mrC s (i + 2)) := by rw [HE.out, if_pos ⟨hA, hB⟩]; rfl
        rw [decide_eq_true hB] at i1 i1n
        have n1 : (b1.toNat : Int) = 45 := by rw [hB]; rfl
        have HO2 := HO1
        rw [n1] at HO2
        clear HE HO0 hA z00 z1 hO hO2 hB
        go_enter Tryd.func41, Tryd.ntmps41
        go_wp2_with (first
          | (go_at_call 21; first | ((with_reducible refine (HA0.out).mono ?_); rintro e w' ⟨rfl, rfl⟩) | ((with_reducible refine (HA1.out).mono ?_); rintro e w' ⟨rfl, rfl⟩))
          | (go_at_call 58; first | ((with_reducible refine (HO1.out).mono ?_); rintro e w' ⟨rfl, rfl⟩) | ((with_reducible refine (HO2.out).mono ?_); rintro e w' ⟨rfl, rfl⟩)))
        go_loopw [5] (fun v wr => ∃ (n : Nat), (i + 2) ≤ i + n ∧ i + n ≤ s.size ∧ v = .int .i64 (n : Int) ∧ Hid (∀ q, (i + 2) ≤ q → q < i + n → mrC (bt s q) = true) ∧ w = wr) (fun v _ => s.size - (intOf v).toNat)
        case atStart => exact ⟨2, by omega, by omega, rfl, fun q h1 h2 => by omega, rfl⟩
        case round =>
          obtain ⟨n, hik, hk, rfl, HA, rfl⟩ := hrel
          by_cases hlt : i + n < s.size
          · obtain ⟨k, hkd⟩ : ∃ k, k = i + n := ⟨_, rfl⟩
            have hkn : (i : Int) + (n : Int) = (k : Int) := by omega
            rw [← hkd] at hlt
            have hki : (k : Int) < (s.size : Int) := by omega
            have HKD := Lib.hid hkd
            have HD := Lib.hid (c_rIn s[k] w)
            by_cases hd : mrC s[k] = true
            · have HDD := Lib.hid hd
              rw [hd] at HD
              clear hkd
              go_wp2_with (go_at_call 42; refine (HD.out).mono ?_; rintro e w' ⟨rfl, rfl⟩)
              go_roundw
              case rel => exact ⟨n + 1, by omega, by have := HKD.out; omega, by go_num, fun q h1 h2 => by
                by_cases e : q = k
                · subst e; rw [bt_eq hlt]; exact HDD.out
                · exact HA.out q h1 (by have := HKD.out; omega), by first | rfl | trivial⟩
              case measure => have := HKD.out; simp [intOf]; omega
            · have hd2 : mrC s[k] = false := by simpa using hd
              have HDD := Lib.hid hd2
              rw [hd2] at HD
              clear hd hd2 hkd
              go_wp2_with (go_at_call 42; refine (HD.out).mono ?_; rintro e w' ⟨rfl, rfl⟩)
              go_ret
              exact ⟨ret_int (by have h9 := runE_eq hik hk HA.out (fun _ => by rw [← HKD.out, bt_eq hlt]; exact HDD.out); rw [HE2.out, h9]; omega), rfl⟩
          · have hkz : i + n = s.size := by omega
            have hkn : (i : Int) + (n : Int) = (s.size : Int) := by omega
            go_wp2_with fail
            go_ret
            exact ⟨ret_int (by have h9 := runE_eq hik hk HA.out (fun h => by omega); rw [HE2.out, h9]; omega), rfl⟩

      · have HE2 : Hid (nmE s i = i) := by rw [HE.out, if_neg (fun e => hB e.2), if_pos hA, if_neg hO]; rfl
        rw [decide_eq_false hB] at i1 i1n
        have n1 : ¬ (b1.toNat : Int) = 45 := beq_eq_false_iff_ne.1 i1
        clear HE HO0 hA z00 z1 hO hO2 hB
        go_enter Tryd.func41, Tryd.ntmps41
        go_wp2_with (first
          | (go_at_call 21; first | ((with_reducible refine (HA0.out).mono ?_); rintro e w' ⟨rfl, rfl⟩) | ((with_reducible refine (HA1.out).mono ?_); rintro e w' ⟨rfl, rfl⟩))
          | (go_at_call 58; first | ((with_reducible refine (HO1.out).mono ?_); rintro e w' ⟨rfl, rfl⟩)))
        go_ret
        exact ⟨ret_int (by rw [HE2.out]; omega), rfl⟩
  · rw [decide_eq_false hA] at i0
    have n0 : ¬ (b0.toNat : Int) = 45 := beq_eq_false_iff_ne.1 i0
    by_cases hO : fsC b0 = true
    · have h2 := z00 (fun e => by rw [e] at hO; exact absurd hO (by decide))
      have HE2 : Hid (nmE s i = runE mrC s i) := by rw [HE.out, if_neg (fun e => hA e.1), if_neg hA, if_pos hO]; rfl
      rw [hO] at HO0
      clear HE HO1 HA1 hA z00 z1 hO i1 i1n
      go_enter Tryd.func41, Tryd.ntmps41
      go_wp2_with (first
        | (go_at_call 21; ((with_reducible refine (HA0.out).mono ?_); rintro e w' ⟨rfl, rfl⟩))
        | (go_at_call 58; ((with_reducible refine (HO0.out).mono ?_); rintro e w' ⟨rfl, rfl⟩)))
      go_loopw [5] (fun v wr => ∃ (n : Nat), i ≤ i + n ∧ i + n ≤ s.size ∧ v = .int .i64 (n : Int) ∧ Hid (∀ q, i ≤ q → q < i + n → mrC (bt s q) = true) ∧ w = wr) (fun v _ => s.size - (intOf v).toNat)
      case atStart => exact ⟨0, by omega, by omega, rfl, fun q h1 h2 => by omega, rfl⟩
      case round =>
        obtain ⟨n, hik, hk, rfl, HA, rfl⟩ := hrel
        by_cases hlt : i + n < s.size
        · obtain ⟨k, hkd⟩ : ∃ k, k = i + n := ⟨_, rfl⟩
          have hkn : (i : Int) + (n : Int) = (k : Int) := by omega
          rw [← hkd] at hlt
          have hki : (k : Int) < (s.size : Int) := by omega
          have HKD := Lib.hid hkd
          have HD := Lib.hid (c_rIn s[k] w)
          by_cases hd : mrC s[k] = true
          · have HDD := Lib.hid hd
            rw [hd] at HD
            clear hkd
            go_wp2_with (go_at_call 42; refine (HD.out).mono ?_; rintro e w' ⟨rfl, rfl⟩)
            go_roundw
            case rel => exact ⟨n + 1, by omega, by have := HKD.out; omega, by go_num, fun q h1 h2 => by
              by_cases e : q = k
              · subst e; rw [bt_eq hlt]; exact HDD.out
              · exact HA.out q h1 (by have := HKD.out; omega), by first | rfl | trivial⟩
            case measure => have := HKD.out; simp [intOf]; omega
          · have hd2 : mrC s[k] = false := by simpa using hd
            have HDD := Lib.hid hd2
            rw [hd2] at HD
            clear hd hd2 hkd
            go_wp2_with (go_at_call 42; refine (HD.out).mono ?_; rintro e w' ⟨rfl, rfl⟩)
            go_ret
            exact ⟨ret_int (by have h9 := runE_eq hik hk HA.out (fun _ => by rw [← HKD.out, bt_eq hlt]; exact HDD.out); rw [HE2.out, h9]; omega), rfl⟩
        · have hkz : i + n = s.size := by omega
          have hkn : (i : Int) + (n : Int) = (s.size : Int) := by omega
          go_wp2_with fail
          go_ret
          exact ⟨ret_int (by have h9 := runE_eq hik hk HA.out (fun h => by omega); rw [HE2.out, h9]; omega), rfl⟩

    · have hO2 : fsC b0 = false := by simpa using hO
      have HE2 : Hid (nmE s i = i) := by rw [HE.out, if_neg (fun e => hA e.1), if_neg hA, if_neg hO]; rfl
      rw [hO2] at HO0
      clear HE HO1 HA1 hA z00 z1 hO hO2 i1 i1n
      go_enter Tryd.func41, Tryd.ntmps41
      go_wp2_with (first
        | (go_at_call 21; ((with_reducible refine (HA0.out).mono ?_); rintro e w' ⟨rfl, rfl⟩))
        | (go_at_call 58; ((with_reducible refine (HO0.out).mono ?_); rintro e w' ⟨rfl, rfl⟩)))
      go_ret
      exact ⟨ret_int (by rw [HE2.out]; omega), rfl⟩

theorem run_pos {s : ByteArray} {k : Nat} (hk : k ≤ s.size) : k < runE dgC s k ↔ dgC (bt s k) = true := by
  by_cases h : k < s.size
  · rw [runE_step h]
    split
    · rename_i hd
      have := (runE_le dgC s (k + 1) (by omega)).1
      constructor
      · intro _; exact hd
      · intro _; omega
    · rename_i hd
      constructor
      · intro h2; omega
      · intro h2; exact absurd h2 hd
  · rw [runE_out dgC (by omega), bt_out (by omega)]
    constructor
    · intro h2; omega
    · intro h2; exact absurd h2 (by decide)
set_option maxRecDepth 100000 in
set_option maxHeartbeats 4000000 in
theorem c_rNumber (s : ByteArray) (i : Nat) (w : World) (hi : i ≤ s.size) (hs : s.size ≤ 4611686018427387900) : Calls Tryd.prog 40 #[.string s, .int .i64 (i : Int)] w fun e w' => e = .returned (.int .i64 ((nuE s i - i : Nat) : Int)) ∧ w = w' := by
  obtain ⟨j, hj⟩ : ∃ j, j = nuJ s i := ⟨_, rfl⟩
  obtain ⟨k, hk⟩ : ∃ k, k = runE dgC s j := ⟨_, rfl⟩
  have hE := nuE_eq s i
  rw [← hj, ← hk] at hE
  have hj2 := nuJ_le s i hi
  rw [← hj] at hj2
  have hk2 := runE_le dgC s j hj2.2
  rw [← hk] at hk2
  obtain ⟨wh, hwh⟩ : ∃ wh, wh = k - j := ⟨_, rfl⟩
  have hd := c_rDigits s j w hj2.2 (by omega)
  rw [← hk, ← hwh] at hd
  have hkw : k = j + wh := by omega
  have z0 : ∀ j, bt s j ≠ 0 → j < s.size := fun j hj => Decidable.byContradiction fun e => hj (bt_out (by omega))
  have HA0 := Lib.hid (c_at s i w (by omega))
  have hak := c_at s k w (by omega)
  obtain ⟨b0, hb0⟩ : ∃ b0, b0 = bt s i := ⟨_, rfl⟩
  obtain ⟨bk, hbk⟩ : ∃ bk, bk = bt s k := ⟨_, rfl⟩
  have hI0 := btI (s := s) (i := i) 43
  have hI1 := btI (s := s) (i := i) 45
  have hIk := btI (s := s) (i := k) 46
  rw [← hb0] at HA0 hI0 hI1
  rw [← hbk] at hak hIk hE
  have i0 : ((b0.toNat : Int) == 43) = decide (b0 = 43) := hI0
  have i1 : ((b0.toNat : Int) == 45) = decide (b0 = 45) := hI1
  have ik : ((bk.toNat : Int) == 46) = decide (bk = 46) := hIk
  have hsg : j = if b0 = 43 ∨ b0 = 45 then i + 1 else i := by
    rw [hj]
    unfold nuJ
    rw [← hb0]
    simp only [sg_iff]
    have e1 : b0.toNat = 43 ↔ b0 = 43 := by rw [← UInt8.toNat_inj]; rfl
    have e2 : b0.toNat = 45 ↔ b0 = 45 := by rw [← UInt8.toNat_inj]; rfl
    simp only [e1, e2]
  have hkz : bk = 46 → k + 1 ≤ s.size := fun e => z0 k (by rw [← hbk, e]; decide)
  have hpt : bk = 46 → ∃ pt : Nat, pt = runE dgC s (k + 1) - (k + 1) ∧ (Calls Tryd.prog 57 #[.string s, .int .i64 ((k + 1 : Nat) : Int)] w fun e w' => e = .returned (.int .i64 (pt : Int)) ∧ w = w') ∧ (0 < pt ↔ dgC (bt s (k + 1)) = true) ∧ runE dgC s (k + 1) = k + 1 + pt ∧ k + 1 + pt ≤ s.size := fun e => by
    have h1 := hkz e
    have h2 := run_pos h1
    have h3 := runE_le dgC s (k + 1) h1
    exact ⟨_, rfl, c_rDigits s (k + 1) w h1 (by omega), by rw [← h2]; omega, by omega, by omega⟩
  have hS : (s.size : Int) ≤ 4611686018427387900 := by omega
  have hkS : (k : Int) ≤ (s.size : Int) := by omega
  clear hj hk hb0 hbk hI0 hI1 hIk z0 hwh hkz
  by_cases h43 : b0 = 43
  · rw [if_pos (.inl h43)] at hsg
    rw [decide_eq_true h43] at i0
    have n0 : (b0.toNat : Int) = 43 := by rw [h43]; rfl
    clear i1 h43
    have HD : Hid (Calls Tryd.prog 57 #[.string s, .int .i64 ((i : Int) + 1)] w fun e w' => e = .returned (.int .i64 (wh : Int)) ∧ w = w') := by
      rw [show (j : Int) = (i : Int) + 1 by omega] at hd
      exact hd
    have HAK : Hid (Calls Tryd.prog 21 #[.string s, .int .i64 ((i : Int) + 1 + (wh : Int))] w fun e w' => e = .returned (.int .u8 (bk.toNat : Int)) ∧ w = w') := by
      rw [show (k : Int) = (i : Int) + 1 + (wh : Int) by omega] at hak
      exact hak
    have hbnd : (i : Int) + 1 + (wh : Int) ≤ (s.size : Int) := by omega
    have hw0 : 0 ≤ (wh : Int) := by omega
    clear hd hak
    by_cases hK : bk = 46
    · obtain ⟨pt, hpt0, hpd, hp0, hpe, hpz⟩ := hpt hK
      clear hpt0
      have HPD : Hid (Calls Tryd.prog 57 #[.string s, .int .i64 ((i : Int) + 1 + (wh : Int) + 1)] w fun e w' => e = .returned (.int .i64 (pt : Int)) ∧ w = w') := by
        rw [show ((k + 1 : Nat) : Int) = (i : Int) + 1 + (wh : Int) + 1 by omega] at hpd
        exact hpd
      rw [decide_eq_true hK] at ik
      have nk : (bk.toNat : Int) = 46 := by rw [hK]; rfl
      have hptS : (i : Int) + 1 + (wh : Int) + 1 + (pt : Int) ≤ (s.size : Int) := by omega
      by_cases hP : 0 < pt
      · have hPI : 0 < (pt : Int) := by omega
        have HE2 : Hid (nuE s i = k + 1 + pt) := by rw [hE, if_pos ⟨hK, hp0.1 hP⟩, hpe]; rfl
        have HKW := Lib.hid hkw
        have HSG := Lib.hid hsg
        clear hK hpt hpd hp0 hpe hE hP hsg hkw
        go_enter Tryd.func40, Tryd.ntmps40
        go_wp2_with (first
          | (go_at_call 21; first | ((with_reducible refine (HA0.out).mono ?_); rintro e w' ⟨rfl, rfl⟩) | ((with_reducible refine (HAK.out).mono ?_); rintro e w' ⟨rfl, rfl⟩))
          | (go_at_call 57; first | ((with_reducible refine (HD.out).mono ?_); rintro e w' ⟨rfl, rfl⟩) | ((with_reducible refine (HPD.out).mono ?_); rintro e w' ⟨rfl, rfl⟩)))
        all_goals
          go_ret
          exact ⟨ret_int (by have h1 := HE2.out; have h2 := HKW.out; have h3 := HSG.out; omega), rfl⟩
      · have hPI : ¬ 0 < (pt : Int) := by omega
        have hq0 : pt = 0 := by omega
        have HE2 : Hid (nuE s i = if j < k then k else i) := by rw [hE, if_neg (fun e => hP (hp0.2 e.2))]; rfl
        have HKW := Lib.hid hkw
        clear hK hpt hpd hp0 hpe hE hP hkw
        go_enter Tryd.func40, Tryd.ntmps40
        go_wp2_with (first
          | (go_at_call 21; first | ((with_reducible refine (HA0.out).mono ?_); rintro e w' ⟨rfl, rfl⟩) | ((with_reducible refine (HAK.out).mono ?_); rintro e w' ⟨rfl, rfl⟩))
          | (go_at_call 57; first | ((with_reducible refine (HD.out).mono ?_); rintro e w' ⟨rfl, rfl⟩) | ((with_reducible refine (HPD.out).mono ?_); rintro e w' ⟨rfl, rfl⟩)))
        all_goals
          go_ret
          exact ⟨ret_int (by have h1 := HE2.out; have h2 := HKW.out; split at h1 <;> omega), rfl⟩
    · rw [decide_eq_false hK] at ik
      have nk : ¬ (bk.toNat : Int) = 46 := beq_eq_false_iff_ne.1 ik
      have HE2 : Hid (nuE s i = if j < k then k else i) := by rw [hE, if_neg (fun e => hK e.1)]; rfl
      have HKW := Lib.hid hkw
      clear hK hpt hE hkw
      go_enter Tryd.func40, Tryd.ntmps40
      go_wp2_with (first
        | (go_at_call 21; first | ((with_reducible refine (HA0.out).mono ?_); rintro e w' ⟨rfl, rfl⟩) | ((with_reducible refine (HAK.out).mono ?_); rintro e w' ⟨rfl, rfl⟩))
        | (go_at_call 57; ((with_reducible refine (HD.out).mono ?_); rintro e w' ⟨rfl, rfl⟩)))
      all_goals
        go_ret
        exact ⟨ret_int (by have h1 := HE2.out; have h2 := HKW.out; split at h1 <;> omega), rfl⟩

  by_cases h45 : b0 = 45
  · rw [if_pos (.inr h45)] at hsg
    rw [decide_eq_false h43] at i0
    rw [decide_eq_true h45] at i1
    have n0 : (b0.toNat : Int) = 45 := by rw [h45]; rfl
    clear h43 h45
    have HD : Hid (Calls Tryd.prog 57 #[.string s, .int .i64 ((i : Int) + 1)] w fun e w' => e = .returned (.int .i64 (wh : Int)) ∧ w = w') := by
      rw [show (j : Int) = (i : Int) + 1 by omega] at hd
      exact hd
    have HAK : Hid (Calls Tryd.prog 21 #[.string s, .int .i64 ((i : Int) + 1 + (wh : Int))] w fun e w' => e = .returned (.int .u8 (bk.toNat : Int)) ∧ w = w') := by
      rw [show (k : Int) = (i : Int) + 1 + (wh : Int) by omega] at hak
      exact hak
    have hbnd : (i : Int) + 1 + (wh : Int) ≤ (s.size : Int) := by omega
    have hw0 : 0 ≤ (wh : Int) := by omega
    clear hd hak
    by_cases hK : bk = 46
    · obtain ⟨pt, hpt0, hpd, hp0, hpe, hpz⟩ := hpt hK
      clear hpt0
      have HPD : Hid (Calls Tryd.prog 57 #[.string s, .int .i64 ((i : Int) + 1 + (wh : Int) + 1)] w fun e w' => e = .returned (.int .i64 (pt : Int)) ∧ w = w') := by
        rw [show ((k + 1 : Nat) : Int) = (i : Int) + 1 + (wh : Int) + 1 by omega] at hpd
        exact hpd
      rw [decide_eq_true hK] at ik
      have nk : (bk.toNat : Int) = 46 := by rw [hK]; rfl
      have hptS : (i : Int) + 1 + (wh : Int) + 1 + (pt : Int) ≤ (s.size : Int) := by omega
      by_cases hP : 0 < pt
      · have hPI : 0 < (pt : Int) := by omega
        have HE2 : Hid (nuE s i = k + 1 + pt) := by rw [hE, if_pos ⟨hK, hp0.1 hP⟩, hpe]; rfl
        have HKW := Lib.hid hkw
        have HSG := Lib.hid hsg
        clear hK hpt hpd hp0 hpe hE hP hsg hkw
        go_enter Tryd.func40, Tryd.ntmps40
        go_wp2_with (first
          | (go_at_call 21; first | ((with_reducible refine (HA0.out).mono ?_); rintro e w' ⟨rfl, rfl⟩) | ((with_reducible refine (HAK.out).mono ?_); rintro e w' ⟨rfl, rfl⟩))
          | (go_at_call 57; first | ((with_reducible refine (HD.out).mono ?_); rintro e w' ⟨rfl, rfl⟩) | ((with_reducible refine (HPD.out).mono ?_); rintro e w' ⟨rfl, rfl⟩)))
        all_goals
          go_ret
          exact ⟨ret_int (by have h1 := HE2.out; have h2 := HKW.out; have h3 := HSG.out; omega), rfl⟩
      · have hPI : ¬ 0 < (pt : Int) := by omega
        have hq0 : pt = 0 := by omega
        have HE2 : Hid (nuE s i = if j < k then k else i) := by rw [hE, if_neg (fun e => hP (hp0.2 e.2))]; rfl
        have HKW := Lib.hid hkw
        clear hK hpt hpd hp0 hpe hE hP hkw
        go_enter Tryd.func40, Tryd.ntmps40
        go_wp2_with (first
          | (go_at_call 21; first | ((with_reducible refine (HA0.out).mono ?_); rintro e w' ⟨rfl, rfl⟩) | ((with_reducible refine (HAK.out).mono ?_); rintro e w' ⟨rfl, rfl⟩))
          | (go_at_call 57; first | ((with_reducible refine (HD.out).mono ?_); rintro e w' ⟨rfl, rfl⟩) | ((with_reducible refine (HPD.out).mono ?_); rintro e w' ⟨rfl, rfl⟩)))
        all_goals
          go_ret
          exact ⟨ret_int (by have h1 := HE2.out; have h2 := HKW.out; split at h1 <;> omega), rfl⟩
    · rw [decide_eq_false hK] at ik
      have nk : ¬ (bk.toNat : Int) = 46 := beq_eq_false_iff_ne.1 ik
      have HE2 : Hid (nuE s i = if j < k then k else i) := by rw [hE, if_neg (fun e => hK e.1)]; rfl
      have HKW := Lib.hid hkw
      clear hK hpt hE hkw
      go_enter Tryd.func40, Tryd.ntmps40
      go_wp2_with (first
        | (go_at_call 21; first | ((with_reducible refine (HA0.out).mono ?_); rintro e w' ⟨rfl, rfl⟩) | ((with_reducible refine (HAK.out).mono ?_); rintro e w' ⟨rfl, rfl⟩))
        | (go_at_call 57; ((with_reducible refine (HD.out).mono ?_); rintro e w' ⟨rfl, rfl⟩)))
      all_goals
        go_ret
        exact ⟨ret_int (by have h1 := HE2.out; have h2 := HKW.out; split at h1 <;> omega), rfl⟩

  · rw [if_neg (fun e => e.elim h43 h45)] at hsg
    rw [decide_eq_false h43] at i0
    rw [decide_eq_false h45] at i1
    have n0 : ¬ (b0.toNat : Int) = 43 := beq_eq_false_iff_ne.1 i0
    have n1 : ¬ (b0.toNat : Int) = 45 := beq_eq_false_iff_ne.1 i1
    clear h43 h45
    have HD : Hid (Calls Tryd.prog 57 #[.string s, .int .i64 ((i : Int))] w fun e w' => e = .returned (.int .i64 (wh : Int)) ∧ w = w') := by
      rw [show (j : Int) = (i : Int) by omega] at hd
      exact hd
    have HAK : Hid (Calls Tryd.prog 21 #[.string s, .int .i64 ((i : Int) + (wh : Int))] w fun e w' => e = .returned (.int .u8 (bk.toNat : Int)) ∧ w = w') := by
      rw [show (k : Int) = (i : Int) + (wh : Int) by omega] at hak
      exact hak
    have hbnd : (i : Int) + (wh : Int) ≤ (s.size : Int) := by omega
    have hw0 : 0 ≤ (wh : Int) := by omega
    clear hd hak
    by_cases hK : bk = 46
    · obtain ⟨pt, hpt0, hpd, hp0, hpe, hpz⟩ := hpt hK
      clear hpt0
      have HPD : Hid (Calls Tryd.prog 57 #[.string s, .int .i64 ((i : Int) + (wh : Int) + 1)] w fun e w' => e = .returned (.int .i64 (pt : Int)) ∧ w = w') := by
        rw [show ((k + 1 : Nat) : Int) = (i : Int) + (wh : Int) + 1 by omega] at hpd
        exact hpd
      rw [decide_eq_true hK] at ik
      have nk : (bk.toNat : Int) = 46 := by rw [hK]; rfl
      have hptS : (i : Int) + (wh : Int) + 1 + (pt : Int) ≤ (s.size : Int) := by omega
      by_cases hP : 0 < pt
      · have hPI : 0 < (pt : Int) := by omega
        have HE2 : Hid (nuE s i = k + 1 + pt) := by rw [hE, if_pos ⟨hK, hp0.1 hP⟩, hpe]; rfl
        have HKW := Lib.hid hkw
        have HSG := Lib.hid hsg
        clear hK hpt hpd hp0 hpe hE hP hsg hkw
        go_enter Tryd.func40, Tryd.ntmps40
        go_wp2_with (first
          | (go_at_call 21; first | ((with_reducible refine (HA0.out).mono ?_); rintro e w' ⟨rfl, rfl⟩) | ((with_reducible refine (HAK.out).mono ?_); rintro e w' ⟨rfl, rfl⟩))
          | (go_at_call 57; first | ((with_reducible refine (HD.out).mono ?_); rintro e w' ⟨rfl, rfl⟩) | ((with_reducible refine (HPD.out).mono ?_); rintro e w' ⟨rfl, rfl⟩)))
        all_goals
          go_ret
          exact ⟨ret_int (by have h1 := HE2.out; have h2 := HKW.out; have h3 := HSG.out; omega), rfl⟩
      · have hPI : ¬ 0 < (pt : Int) := by omega
        have hq0 : pt = 0 := by omega
        have HE2 : Hid (nuE s i = if j < k then k else i) := by rw [hE, if_neg (fun e => hP (hp0.2 e.2))]; rfl
        have HKW := Lib.hid hkw
        clear hK hpt hpd hp0 hpe hE hP hkw
        go_enter Tryd.func40, Tryd.ntmps40
        go_wp2_with (first
          | (go_at_call 21; first | ((with_reducible refine (HA0.out).mono ?_); rintro e w' ⟨rfl, rfl⟩) | ((with_reducible refine (HAK.out).mono ?_); rintro e w' ⟨rfl, rfl⟩))
          | (go_at_call 57; first | ((with_reducible refine (HD.out).mono ?_); rintro e w' ⟨rfl, rfl⟩) | ((with_reducible refine (HPD.out).mono ?_); rintro e w' ⟨rfl, rfl⟩)))
        all_goals
          go_ret
          exact ⟨ret_int (by have h1 := HE2.out; have h2 := HKW.out; split at h1 <;> omega), rfl⟩
    · rw [decide_eq_false hK] at ik
      have nk : ¬ (bk.toNat : Int) = 46 := beq_eq_false_iff_ne.1 ik
      have HE2 : Hid (nuE s i = if j < k then k else i) := by rw [hE, if_neg (fun e => hK e.1)]; rfl
      have HKW := Lib.hid hkw
      clear hK hpt hE hkw
      go_enter Tryd.func40, Tryd.ntmps40
      go_wp2_with (first
        | (go_at_call 21; first | ((with_reducible refine (HA0.out).mono ?_); rintro e w' ⟨rfl, rfl⟩) | ((with_reducible refine (HAK.out).mono ?_); rintro e w' ⟨rfl, rfl⟩))
        | (go_at_call 57; ((with_reducible refine (HD.out).mono ?_); rintro e w' ⟨rfl, rfl⟩)))
      all_goals
        go_ret
        exact ⟨ret_int (by have h1 := HE2.out; have h2 := HKW.out; split at h1 <;> omega), rfl⟩

end Go.Proofs.YtmhejppfjngbhaaDoor
