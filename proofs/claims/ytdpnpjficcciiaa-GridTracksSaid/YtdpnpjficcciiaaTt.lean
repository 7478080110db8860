/- Times: a times b over c, rounded down -/
import Derived.Test.YtdpnpjficcciiaaTn
namespace Go.Proofs.Ytdpnpjficcciiaa
set_option linter.unusedVariables false
set_option linter.unusedSimpArgs false
open Go.RowKit Go.Cas Go.Shelf
theorem c_LZ (y : Nat) (w : World) (h0 : 0 < y) (hy : y < 18446744073709551616) : ∃ s : Nat, s ≤ 63 ∧ y * 2 ^ s < 18446744073709551616 ∧ 9223372036854775808 ≤ y * 2 ^ s ∧ ∀ w, Calls Try.prog 48 #[.int .u64 (y : Int)] w fun e w' => e = .returned (.int .i64 (s : Int)) ∧ w' = w := by
  obtain ⟨h1, h2, h3⟩ := Lib.bitLenAux_bounds 64 y (by simpa using hy) (by omega)
  have hb : Lib.bitLen y ≤ 64 := Lib.bitLen_le y 64 (Nat.le_refl _) (by simpa using hy)
  have hbe : Lib.bitLenAux 64 y = Lib.bitLen y := rfl
  rw [hbe] at h1 h2 h3
  generalize hB : Lib.bitLen y = b at h1 h2 h3 hb
  refine ⟨64 - b, by omega, ?_, ?_, fun w => ?_⟩
  · have h4 : y * 2 ^ (64 - b) < 2 ^ b * 2 ^ (64 - b) := Nat.mul_lt_mul_of_pos_right h3 (Nat.pow_pos (by omega))
    rw [← Nat.pow_add, Nat.add_sub_cancel' hb] at h4
    simpa using h4
  · have h4 : 2 ^ (b - 1) * 2 ^ (64 - b) ≤ y * 2 ^ (64 - b) := Nat.mul_le_mul_right _ h2
    rw [← Nat.pow_add, show b - 1 + (64 - b) = 63 by omega] at h4
    simpa using h4
  · refine (Any.bits_LeadingZeros64 layLZ (y : Int) w (by omega) (by omega)).mono ?_
    rintro e w' ⟨rfl, hw⟩
    refine ⟨?_, hw⟩
    rw [Int.toNat_natCast, hB]
    congr 2
    omega
theorem c_Div64 (hi lo y : Nat) (w : World) (hh : hi < y) (hl : lo < 18446744073709551616) (hy : y < 18446744073709551616) :
    Calls Try.prog 43 #[.int .u64 (hi : Int), .int .u64 (lo : Int), .int .u64 (y : Int)] w fun e w' => e = .returned (.tuple #[.int .u64 (((hi * 18446744073709551616 + lo) / y : Nat) : Int), .int .u64 (((hi * 18446744073709551616 + lo) % y : Nat) : Int)]) ∧ ∃ n, w' = w.drewN n := by
  by_cases h0 : hi = 0
  · subst h0
    have := c_Div0 lo y w (by omega) hl hy
    simpa using this
  · obtain ⟨s, h1, h2, h3, h4⟩ := c_LZ y w (by omega) hy
    exact (c_Div1 hi lo y s w (by omega) hh hl hy h1 h2 h3 (h4 w)).mono fun e w' h => ⟨h.1, 0, by rw [← h.2]; rfl⟩
theorem c_Mul64 (x y : Nat) (w : World) (hx : x < 18446744073709551616) (hy : y < 18446744073709551616) :
    Calls Try.prog 42 #[.int .u64 (x : Int), .int .u64 (y : Int)] w fun e w' => e = .returned (.tuple #[.int .u64 ((x * y / 18446744073709551616 : Nat) : Int), .int .u64 ((x * y % 18446744073709551616 : Nat) : Int)]) ∧ w' = w :=
  Any.bits_Mul64 layMul x y hx hy w
theorem hi_lt {A b c : Nat} (hA : A < 18446744073709551616) (hb : b ≤ c) (hc : 0 < c) : A * b / 18446744073709551616 < c := by
  have h1 : A * b ≤ A * c := Nat.mul_le_mul_left A hb
  have h2 : A * c < 18446744073709551616 * c := Nat.mul_lt_mul_of_pos_right hA hc
  exact Nat.div_lt_of_lt_mul (by omega)
theorem q_le {A b c : Nat} (hb : b ≤ c) (hc : 0 < c) : A * b / c ≤ A := by
  have h1 : A * b ≤ A * c := Nat.mul_le_mul_left A hb
  exact Nat.div_le_of_le_mul (by rw [Nat.mul_comm c]; exact h1)
theorem c_DivM (A B C : Nat) (w : World) (hA : A < 18446744073709551616) (hb : B ≤ C) (hc : 0 < C) (hC : C < 18446744073709551616) :
    Calls Try.prog 43 #[.int .u64 ((A * B / 18446744073709551616 : Nat) : Int), .int .u64 ((A * B % 18446744073709551616 : Nat) : Int), .int .u64 (C : Int)] w fun e w' => e = .returned (.tuple #[.int .u64 ((A * B / C : Nat) : Int), .int .u64 ((A * B % C : Nat) : Int)]) ∧ ∃ n, w' = w.drewN n := by
  have h := c_Div64 (A * B / 18446744073709551616) (A * B % 18446744073709551616) C w (hi_lt hA hb hc) (Nat.mod_lt _ (by omega)) hC
  rw [show A * B / 18446744073709551616 * 18446744073709551616 + A * B % 18446744073709551616 = A * B by rw [Nat.mul_comm (A * B / 18446744073709551616)]; exact Nat.div_add_mod _ _] at h
  exact h
theorem neg_floor (A B C : Nat) (hC : 0 < C) : -(A : Int) * (B : Int) / (C : Int) = -((A * B / C : Nat) : Int) - (if 0 < A * B % C then 1 else 0) := by
  have e : -(A : Int) * (B : Int) = -((A * B : Nat) : Int) := by rw [Int.natCast_mul, Int.neg_mul]
  rw [e]
  generalize A * B = N
  have h := Nat.div_add_mod N C
  have hlt := Nat.mod_lt N hC
  generalize hq : N / C = q at h
  generalize hr : N % C = r at h hlt
  have hc : (0 : Int) < (C : Int) := by omega
  split
  · have e2 : -(N : Int) = ((C : Int) - (r : Int)) + (C : Int) * (-(q : Int) - 1) := by
      rw [Int.mul_sub, Int.mul_neg, ← Int.natCast_mul]; omega
    rw [e2, Int.add_mul_ediv_left _ _ (by omega), Int.ediv_eq_zero_of_lt (by omega) (by omega)]
    omega
  · have e2 : -(N : Int) = (C : Int) * (-(q : Int)) := by rw [Int.mul_neg, ← Int.natCast_mul]; omega
    rw [e2, Int.mul_ediv_cancel_left _ (by omega)]
    omega
set_option maxRecDepth 100000 in
set_option maxHeartbeats 4000000 in
theorem c_Times (a b c : Int) (w : World) (ha : -4611686018427387904 ≤ a ∧ a ≤ 4611686018427387904) (hb : 0 ≤ b) (hbc : b ≤ c) (hc : 0 < c) (hc2 : c ≤ 9223372036854775807) :
    Calls Try.prog 33 #[.int .i64 a, .int .i64 b, .int .i64 c] w fun e w' => e = .returned (.int .i64 (a * b / c)) ∧ ∃ n, w' = w.drewN n := by
  obtain ⟨ha1, ha2⟩ := ha
  obtain ⟨B, rfl⟩ := Int.eq_ofNat_of_zero_le hb
  obtain ⟨C, rfl⟩ := Int.eq_ofNat_of_zero_le (Int.le_of_lt hc)
  by_cases hneg : a < 0
  · obtain ⟨A, hA⟩ := Int.eq_ofNat_of_zero_le (show 0 ≤ -a by omega)
    obtain rfl : a = -(A : Int) := by omega
    have hM := Lib.hid (c_Mul64 A B w (by omega) (by omega))
    have hD := Lib.hid (c_DivM A B C w (by omega) (by omega) (by omega) (by omega))
    have HF := Lib.hid (neg_floor A B C (by omega))
    have hq : A * B / C ≤ A := q_le (by omega) (by omega)
    have hr : A * B % C < C := Nat.mod_lt _ (by omega)
    obtain ⟨q, hqe⟩ : ∃ q, q = A * B / C := ⟨_, rfl⟩
    obtain ⟨r, hre⟩ : ∃ r, r = A * B % C := ⟨_, rfl⟩
    rw [← hqe] at hq
    rw [← hre] at hr
    rw [← hqe, ← hre] at hD HF
    clear hqe hre hA
    have hqi : (q : Int) ≤ 4611686018427387904 := by omega
    have hAn : (A : Int) ≤ 4611686018427387904 := by omega
    by_cases hr0 : (0 : Int) < (r : Int)
    · have hr1 : 0 < r := by omega
      go_enter Try.func33, Try.ntmps33
      go_wp2_with fail
      refine hM.out.mono ?_
      rintro e w' ⟨rfl, hw⟩; rw [hw]; clear hw
      go_wp2_with fail
      refine hD.out.mono ?_
      rintro e w' ⟨rfl, n, rfl⟩
      go_wp2_with fail
      go_ret
      refine ⟨?_, n, rfl⟩
      rw [HF.out, if_pos hr1]
      rfl
    · have hr1 : ¬ 0 < r := by omega
      go_enter Try.func33, Try.ntmps33
      go_wp2_with fail
      refine hM.out.mono ?_
      rintro e w' ⟨rfl, hw⟩; rw [hw]; clear hw
      go_wp2_with fail
      refine hD.out.mono ?_
      rintro e w' ⟨rfl, n, rfl⟩
      go_wp2_with fail
      go_ret
      refine ⟨?_, n, rfl⟩
      rw [HF.out, if_neg hr1, Int.sub_zero]
      rfl
  · obtain ⟨A, rfl⟩ := Int.eq_ofNat_of_zero_le (show 0 ≤ a by omega)
    have hM := Lib.hid (c_Mul64 A B w (by omega) (by omega))
    have hD := Lib.hid (c_DivM A B C w (by omega) (by omega) (by omega) (by omega))
    have hq : A * B / C ≤ A := q_le (by omega) (by omega)
    obtain ⟨q, hqe⟩ : ∃ q, q = A * B / C := ⟨_, rfl⟩
    obtain ⟨r, hre⟩ : ∃ r, r = A * B % C := ⟨_, rfl⟩
    rw [← hqe] at hq
    rw [← hqe, ← hre] at hD
    have HF : Hid ((A : Int) * (B : Int) / (C : Int) = (q : Int)) := by rw [hqe]; rw [← Int.natCast_mul, ← Int.natCast_ediv]; exact rfl
    clear hqe hre
    have hqi : (q : Int) ≤ 4611686018427387904 := by omega
    go_enter Try.func33, Try.ntmps33
    go_wp2_with fail
    refine hM.out.mono ?_
    rintro e w' ⟨rfl, hw⟩; rw [hw]; clear hw
    go_wp2_with fail
    refine hD.out.mono ?_
    rintro e w' ⟨rfl, n, rfl⟩
    go_wp2_with fail
    go_ret
    refine ⟨?_, n, rfl⟩
    rw [HF.out]
    rfl
end Go.Proofs.Ytdpnpjficcciiaa
