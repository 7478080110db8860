/- the reference's reading of a rune at a place -/
import Derived.Test.YtnjckpgacbibhaaIb
namespace Go.Proofs.Ytnjckpgacbibhaa
set_option linter.unusedVariables false
set_option linter.unusedSimpArgs false
open Go.RowKit

theorem btw_iff (n a b : Int) : btw n a b = true ↔ a ≤ n ∧ n ≤ b := by simp [btw]
theorem btw_not (n a b : Int) : btw n a b = false ↔ ¬ (a ≤ n ∧ n ≤ b) := by rw [← btw_iff, Bool.not_eq_true]
def runeA (a b c d : Int) : Int :=
  if a < 0x80 then a
  else if ¬ (rlow a ≤ b ∧ b ≤ rhigh a) then 0xFFFD
  else if 0xC2 ≤ a ∧ a ≤ 0xDF then (a - 0xC0) * 64 + b - 0x80
  else if (0xE0 ≤ a ∧ a ≤ 0xEF) ∧ (0x80 ≤ c ∧ c ≤ 0xBF) then (a - 0xE0) * 4096 + (b - 0x80) * 64 + c - 0x80
  else if (0xF0 ≤ a ∧ a ≤ 0xF4) ∧ (0x80 ≤ c ∧ c ≤ 0xBF) ∧ (0x80 ≤ d ∧ d ≤ 0xBF) then (a - 0xF0) * 262144 + (b - 0x80) * 4096 + (c - 0x80) * 64 + d - 0x80
  else 0xFFFD
def runeN (a b c d : Int) : Int :=
  if a < 0x80 then 1
  else if ¬ (rlow a ≤ b ∧ b ≤ rhigh a) then 1
  else if 0xC2 ≤ a ∧ a ≤ 0xDF then 2
  else if (0xE0 ≤ a ∧ a ≤ 0xEF) ∧ (0x80 ≤ c ∧ c ≤ 0xBF) then 3
  else if (0xF0 ≤ a ∧ a ≤ 0xF4) ∧ (0x80 ≤ c ∧ c ≤ 0xBF) ∧ (0x80 ≤ d ∧ d ≤ 0xBF) then 4
  else 1
theorem runeOf_AN (a b c d : Int) : runeOf a b c d = (runeA a b c d, runeN a b c d) := by
  unfold runeOf runeA runeN
  simp only [btw_iff, btw_not]
  repeat' split
  all_goals first | rfl | omega
theorem rune_dec (s : ByteArray) (i : Nat) (h : i < s.size) : runeA (byteAt s i) (byteAt s (i+1)) (byteAt s (i+2)) (byteAt s (i+3)) = dR s i ∧ runeN (byteAt s i) (byteAt s (i+1)) (byteAt s (i+2)) (byteAt s (i+3)) = dN s i := by
  have h := decode_eq s i h
  rw [runeOf_AN] at h
  exact ⟨congrArg Prod.fst h, congrArg Prod.snd h⟩
theorem byteAt_bd (s : ByteArray) (i : Nat) : -1 ≤ byteAt s i ∧ byteAt s i ≤ 255 := by
  unfold byteAt; have := (s.get! i).toNat_lt; split <;> omega
theorem ret_two {a b c d : Int} (h : a = c) (k : b = d) : Ending.returned (.tuple #[.int .i64 a, .int .i64 b]) = .returned (.tuple #[.int .i64 c, .int .i64 d]) := by rw [h, k]

set_option maxHeartbeats 1000000 in
theorem c_runeAt (s : ByteArray) (i : Nat) (w : World) (hs : s.size ≤ 9223372036854775000) (hi : i < s.size) : Calls Try.prog 61 #[.string s, .int .i64 i] w fun e w' => e = .returned (.tuple #[.int .i64 (dR s i), .int .i64 (dN s i)]) ∧ w = w' := by
  have hs' : s.size ≤ 9223372036854775807 := by omega
  have hr := rune_dec s i hi
  have b0 := byteAt_bd s i
  have b1 := byteAt_bd s (i+1)
  have b2 := byteAt_bd s (i+2)
  have b3 := byteAt_bd s (i+3)
  have e1 : ((i : Int) + 1).toNat = i + 1 := by omega
  have e2 : ((i : Int) + 2).toNat = i + 2 := by omega
  have e3 : ((i : Int) + 3).toNat = i + 3 := by omega
  have E1 := Lib.hid e1; have E2 := Lib.hid e2; have E3 := Lib.hid e3; have HR := Lib.hid hr
  clear e1 e2 e3 hr
  go_enter Try.func61, Try.ntmps61
  go_wp2_with fail
  refine (c_byteAt _ _ _ hs' (by omega)).mono ?_; rintro e w' ⟨rfl, rfl⟩
  rw [Int.toNat_natCast]
  go_wp2_with fail
  refine (c_byteAt _ _ _ hs' (by omega)).mono ?_; rintro e w' ⟨rfl, rfl⟩
  rw [E1.out]
  go_wp2_with fail
  refine (c_byteAt _ _ _ hs' (by omega)).mono ?_; rintro e w' ⟨rfl, rfl⟩
  rw [E2.out]
  go_wp2_with fail
  refine (c_byteAt _ _ _ hs' (by omega)).mono ?_; rintro e w' ⟨rfl, rfl⟩
  rw [E3.out]
  generalize byteAt s i = A at *
  generalize byteAt s (i+1) = B at *
  generalize byteAt s (i+2) = C at *
  generalize byteAt s (i+3) = D at *
  go_wp2_with (go_at_call 88; refine (c_between1 _ _ _ _).mono ?_; rintro e w' ⟨rfl, rfl⟩)
  all_goals
    go_ret2
    obtain ⟨h1, h2⟩ := HR.out
    refine ⟨ret_two (Eq.trans ?_ h1) (Eq.trans ?_ h2), rfl⟩
    all_goals
      clear h1 h2 HR E1 E2 E3
      (try simp only [beq_iff_eq, beq_eq_false_iff_ne, ne_eq, Bool.not_eq_true', Bool.not_eq_false', btw_iff, btw_not] at *)
      first | unfold runeA rlow rhigh | unfold runeN rlow rhigh
      omega
end Go.Proofs.Ytnjckpgacbibhaa
