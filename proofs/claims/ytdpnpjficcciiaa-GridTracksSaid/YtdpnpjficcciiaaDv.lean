/- plain (no program): two digits by one, digit by digit -/
namespace Go.Cas.Dv
set_option linter.unusedVariables false
set_option linter.unusedSimpArgs false
/-- the estimate of a digit: q too great or right -/
structure Est (un d y y1 y0 q r : Nat) : Prop where
  split : q * y1 + r = un
  top : un * 4294967296 + d < (q + 1) * y
theorem exact_ {un d y y1 y0 q r : Nat} (hy : y = y1 * 4294967296 + y0) (h : q * y1 + r = un) : q * y ≤ un * 4294967296 + d ↔ q * y0 ≤ 4294967296 * r + d := by
  have e : q * y = q * y1 * 4294967296 + q * y0 := by rw [hy, Nat.mul_add, Nat.mul_assoc]
  omega
theorem est0 {un d y y1 y0 : Nat} (hy : y = y1 * 4294967296 + y0) (h1 : 0 < y1) (hd : d < 4294967296) : Est un d y y1 y0 (un / y1) (un % y1) := by
  have hs : un / y1 * y1 + un % y1 = un := by rw [Nat.mul_comm]; exact Nat.div_add_mod un y1
  refine ⟨hs, ?_⟩
  have hlt : un % y1 < y1 := Nat.mod_lt _ h1
  have e : (un / y1 + 1) * y = un / y1 * y1 * 4294967296 + un / y1 * y0 + y := by rw [Nat.succ_mul, hy, Nat.mul_add, Nat.mul_assoc]
  omega
theorem est_q {un d y y1 y0 q r : Nat} (e : Est un d y y1 y0 q r) (hy : y = y1 * 4294967296 + y0) (h : q * y0 ≤ 4294967296 * r + d) : q = (un * 4294967296 + d) / y := by
  have h1 := (exact_ (d := d) hy e.split).2 h
  have h2 := e.top
  rw [Nat.succ_mul] at h2
  symm
  exact Nat.div_eq_of_lt_le (by rw [Nat.mul_comm]; rw [Nat.mul_comm]; exact h1) (by rw [Nat.succ_mul]; omega)
theorem est_next {un d y y1 y0 q r : Nat} (e : Est un d y y1 y0 q r) (hy : y = y1 * 4294967296 + y0) (hun : un < y) (hd : d < 4294967296) (h : 4294967296 ≤ q ∨ 4294967296 * r + d < q * y0) : 0 < q ∧ Est un d y y1 y0 (q - 1) (r + y1) := by
  have hq : 0 < q := by
    rcases h with h | h
    · omega
    · rcases Nat.eq_zero_or_pos q with e0 | e0
      · rw [e0] at h; omega
      · exact e0
  obtain ⟨k, rfl⟩ : ∃ k, q = k + 1 := ⟨q - 1, by omega⟩
  refine ⟨hq, ⟨?_, ?_⟩⟩
  · have := e.split; rw [Nat.succ_mul] at this; simp only [Nat.add_sub_cancel]; omega
  · simp only [Nat.add_sub_cancel]
    rcases h with h | h
    · have h1 : 4294967296 * y ≤ (k + 1) * y := Nat.mul_le_mul_right y h
      omega
    · have h1 := (exact_ (d := d) hy e.split)
      omega
theorem est_le {un y y1 y0 q : Nat} (hy : y = y1 * 4294967296 + y0) (hun : un < y) (hy0 : y0 < 4294967296) (h1 : 2147483648 ≤ y1) (hq : q ≤ un / y1) : q ≤ 4294967297 := by
  have : un / y1 < 4294967298 := Nat.div_lt_of_lt_mul (by omega)
  omega
/-- the remainder of a digit -/
theorem rem_eq {N y q : Nat} (hq : q = N / y) : q * y + N % y = N := by subst hq; rw [Nat.mul_comm]; exact Nat.div_add_mod N y
/-- the two digits together -/
theorem two {a u0 y : Nat} (hy : 0 < y) : (a * 4294967296 + u0) / y = a / y * 4294967296 + (a % y * 4294967296 + u0) / y ∧ (a * 4294967296 + u0) % y = (a % y * 4294967296 + u0) % y := by
  have h := Nat.div_add_mod a y
  have h2 : y * (a / y * 4294967296) = y * (a / y) * 4294967296 := (Nat.mul_assoc _ _ _).symm
  have e : a * 4294967296 + u0 = (a % y * 4294967296 + u0) + y * (a / y * 4294967296) := by
    rw [h2]
    generalize y * (a / y) = k at h
    omega
  rw [e, Nat.add_mul_div_left _ _ hy, Nat.add_mul_mod_self_left]
  exact ⟨by omega, rfl⟩
/-- both sides shifted -/
theorem shift {N y s : Nat} : N * 2 ^ s / (y * 2 ^ s) = N / y ∧ N * 2 ^ s % (y * 2 ^ s) / 2 ^ s = N % y := by
  have hp : 0 < 2 ^ s := Nat.pow_pos (by omega)
  refine ⟨Nat.mul_div_mul_right _ _ hp, ?_⟩
  rw [Nat.mul_mod_mul_right, Nat.mul_div_cancel _ hp]
end Go.Cas.Dv
namespace Go.Cas.Dv
/-- two words shifted together -/
theorem words {hi lo y s : Nat} (hs : s ≤ 64) (hh : hi < y) (hl : lo < 18446744073709551616) (_ : y * 2 ^ s < 18446744073709551616) :
    (hi * 2 ^ s ||| lo / 2 ^ (64 - s)) = hi * 2 ^ s + lo / 2 ^ (64 - s) ∧ hi * 2 ^ s + lo / 2 ^ (64 - s) < y * 2 ^ s ∧
    (hi * 2 ^ s + lo / 2 ^ (64 - s)) * 18446744073709551616 + lo * 2 ^ s % 18446744073709551616 = (hi * 18446744073709551616 + lo) * 2 ^ s := by
  have hp : 2 ^ (64 - s) * 2 ^ s = 18446744073709551616 := by rw [← Nat.pow_add, Nat.sub_add_cancel hs]
  have hps : 0 < 2 ^ s := Nat.pow_pos (by omega)
  have h1 : lo / 2 ^ (64 - s) = lo * 2 ^ s / 18446744073709551616 := by rw [← hp, Nat.mul_div_mul_right _ _ hps]
  have hlt : lo / 2 ^ (64 - s) < 2 ^ s := Nat.div_lt_of_lt_mul (by rw [hp]; exact hl)
  have hyh : (hi + 1) * 2 ^ s ≤ y * 2 ^ s := Nat.mul_le_mul_right _ hh
  rw [Nat.succ_mul] at hyh
  refine ⟨?_, by omega, ?_⟩
  · rw [Nat.mul_comm hi]; exact (Nat.two_pow_add_eq_or_of_lt hlt hi).symm
  · rw [h1, Nat.add_mul, Nat.add_mul]
    have h2 := Nat.div_add_mod (lo * 2 ^ s) 18446744073709551616
    have h3 : hi * 18446744073709551616 * 2 ^ s = hi * 2 ^ s * 18446744073709551616 := Nat.mul_right_comm _ _ _
    rw [h3, Nat.mul_comm (lo * 2 ^ s / 18446744073709551616)]
    omega
theorem halves (T : Nat) : T / 4294967296 * 4294967296 + T % 4294967296 = T := by omega
end Go.Cas.Dv
namespace Go.Cas.Dv
/-- the estimate that breaks off is right -/
theorem est_brk {un d y y1 y0 q r : Nat} (e : Est un d y y1 y0 q r) (hy : y = y1 * 4294967296 + y0) (hq : q ≤ 4294967296) (h0 : y0 < 4294967296) (hr : 4294967296 ≤ r) : q = (un * 4294967296 + d) / y :=
  est_q e hy (by
    have h1 : q * y0 ≤ 4294967296 * 4294967295 := Nat.mul_le_mul hq (by omega)
    omega)
end Go.Cas.Dv
