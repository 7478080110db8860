/- seat C: the reference's Portion -/
import Derived.Test.YtdpnpjficcciiaaQa
import Derived.Test.YtdpnpjficcciiaaPor
namespace Go.Proofs.Ytdpnpjficcciiaa
set_option linter.unusedVariables false
set_option linter.unusedSimpArgs false
open Go.RowKit Go.Cas

/-- where the second loop stands -/
structure PRel (a b c bit q r : Int) : Prop where
  q0 : 0 ≤ q
  r0 : 0 ≤ r
  rc : r < c
  at_ : (bit = 0 ∧ q * c + r = a * b) ∨ ∃ j : Nat, bit = 2 ^ j ∧ bit ≤ 4611686018427387904 ∧ q * c + r = (a / (2 * bit)) * b
theorem PRel.step {a b c bit q r : Int} (h : PRel a b c bit q r) (hbit : 0 < bit) (ha : 0 ≤ a) (hb : 0 ≤ b ∧ b ≤ c) :
    bit ≤ 4611686018427387904 ∧ 2 * q ≤ a ∧ q ≤ a ∧ ∃ d : Int, (d = 0 ∨ d = 1) ∧ (a / bit) % 2 = d ∧ ∀ q1 r1 q2 r2 : Int, (q1 = (if c ≤ 2 * r then 2 * q + 1 else 2 * q)) → (r1 = (if c ≤ 2 * r then 2 * r - c else 2 * r)) → (q2 = (if d = 1 ∧ c ≤ r1 + b then q1 + 1 else q1)) → (r2 = (if d = 1 then (if c ≤ r1 + b then r1 + b - c else r1 + b) else r1)) → 0 ≤ r1 ∧ r1 < c ∧ q1 ≤ a ∧ q2 ≤ a ∧ PRel a b c (bit / 2) q2 r2 := by
  obtain ⟨hq0, hr0, hrc, hat⟩ := h
  rcases hat with ⟨h0, _⟩ | ⟨j, hj, hbd, heq⟩
  · omega
  · have hA0 : 0 ≤ a / (2 * bit) := Int.ediv_nonneg ha (by omega)
    have hhalf := por_half (a := a) (j := j) ha
    rw [← hj] at hhalf
    have hbA : a / bit ≤ a := Int.ediv_le_self _ ha
    have hqA := por_q heq hr0 hrc hA0 hb
    have hd := Int.emod_nonneg (a / bit) (show (2 : Int) ≠ 0 by omega)
    have hd2 := Int.emod_lt_of_pos (a / bit) (show (0 : Int) < 2 by omega)
    obtain ⟨A, hA⟩ : ∃ A, A = a / (2 * bit) := ⟨_, rfl⟩
    rw [← hA] at hA0 hhalf hqA heq
    obtain ⟨D, hD⟩ : ∃ D, D = a / bit := ⟨_, rfl⟩
    rw [← hD] at hhalf hbA hd hd2 ⊢
    obtain ⟨d, hdd⟩ : ∃ d, d = D % 2 := ⟨_, rfl⟩
    rw [← hdd] at hhalf hd hd2 ⊢
    refine ⟨hbd, by omega, by omega, d, by omega, rfl, ?_⟩
    intro q1 r1 q2 r2 e1 e2 e3 e4
    have s1 : q1 * c + r1 = (2 * A) * b := by
      have := por_1 heq hr0 hrc
      rw [e1, e2]
      split
      · exact this.1 (by assumption)
      · exact this.2 (by assumption)
    have hr1 : 0 ≤ r1 ∧ r1 < c := by rw [e2]; split <;> omega
    have hq1 := por_q s1 hr1.1 hr1.2 (by omega) hb
    have hq10 : 0 ≤ q1 := by rw [e1]; split <;> omega
    have s2 : q2 * c + r2 = D * b := by
      rw [hhalf, e3, e4]
      rcases (show d = 0 ∨ d = 1 by omega) with h0 | h0
      · rw [if_neg (by omega), if_neg (by omega), h0, s1, Int.add_zero]
      · have := por_2 (c := c) s1
        rw [if_pos h0, h0]
        by_cases h1 : c ≤ r1 + b
        · rw [if_pos ⟨rfl, h1⟩, if_pos h1]; exact this.1 h1
        · rw [if_neg (fun h => h1 h.2), if_neg h1]; exact this.2 h1
    have hr2 : 0 ≤ r2 ∧ r2 < c := by
      rw [e4]
      split
      · split <;> omega
      · exact hr1
    have hq20 : 0 ≤ q2 := by rw [e3]; split <;> omega
    have hq2 := por_q s2 hr2.1 hr2.2 (by omega) hb
    refine ⟨hr1.1, hr1.2, by omega, by omega, hq20, hr2.1, hr2.2, ?_⟩
    cases j with
    | zero =>
      left
      have hb1 : bit = 1 := by rw [hj]; rfl
      refine ⟨by rw [hb1]; rfl, ?_⟩
      rw [s2, hD, hb1, Int.ediv_one]
    | succ j =>
      right
      have hb1 : bit = 2 * 2 ^ j := by rw [hj, Int.pow_succ, Int.mul_comm]
      have hb2 : bit / 2 = 2 ^ j := by omega
      refine ⟨j, hb2, by omega, ?_⟩
      rw [s2, hD, hb2, hb1]
theorem PRel.out {a b c bit q r : Int} (h : PRel a b c bit q r) (ha : 0 ≤ a) (hb : 0 ≤ b ∧ b ≤ c) (hx : bit ≤ 0 ∨ a ≤ 0) : q * c + r = a * b ∧ q ≤ a := by
  have e : q * c + r = a * b := by
    rcases h.at_ with h | ⟨j, hj, _, he⟩
    · exact h.2
    · have hp : (0 : Int) < 2 ^ j := Int.pow_pos (by omega)
      have : a = 0 := by omega
      subst this
      rw [he, Int.zero_ediv]
  exact ⟨e, por_q e h.r0 h.rc ha hb⟩
set_option maxHeartbeats 4000000 in
theorem r_Portion (a0 b c : Int) (w : World) (ha : -4611686018427387904 ≤ a0 ∧ a0 ≤ 4611686018427387904) (hb : 0 ≤ b ∧ b ≤ c) (hc : 0 < c ∧ c ≤ 4611686018427387904) : Calls Try.prog 27 #[.int .i64 a0, .int .i64 b, .int .i64 c] w fun e w' => e = .returned (.int .i64 (a0 * b / c)) ∧ w = w' := by
  obtain ⟨ng, hng⟩ : ∃ ng : Bool, ng = decide (a0 < 0) := ⟨_, rfl⟩
  obtain ⟨a, hae⟩ : ∃ a, a = if a0 < 0 then -a0 else a0 := ⟨_, rfl⟩
  have hab : 0 ≤ a ∧ a ≤ 4611686018427387904 := by omega
  have HFIN : Hid (∀ q r, q * c + r = a * b → 0 ≤ r → r < c → a0 * b / c = if ng = true then (if 0 < r then -q - 1 else -q) else q) := fun q r h h1 h2 => by
    have h3 := por_end h h1 h2
    subst hng
    by_cases h0 : a0 < 0
    · rw [if_pos h0] at hae
      have e : a0 = -a := by omega
      rw [if_pos (by simpa using h0), e]; exact h3.2
    · rw [if_neg h0] at hae
      rw [if_neg (by simpa using h0), ← hae]; exact h3.1
  have htd : a.tdiv 2 = a / 2 := Int.tdiv_eq_ediv_of_nonneg hab.1
  by_cases hn : a0 < 0
  · rw [if_pos hn] at hae
    have v0 : IntKind.i64.wrap (-a0) = a := by rw [hae]; exact IntWalk.i64_in _ (by omega)
    have hT : ng = true := by rw [hng]; exact decide_eq_true hn
    clear hng hae
    go_enter Try.func27, Try.ntmps27
    go_wp2_with fail
    go_loop [10] (fun i => ∃ j : Nat, i = .int .i64 ((2 : Int) ^ j) ∧ ((2 : Int) ^ j = 1 ∨ (2 : Int) ^ j ≤ a)) (fun i => (a - intOf i).toNat)
    case atStart => exact ⟨0, rfl, .inl rfl⟩
    case round =>
      obtain ⟨j, rfl, hj⟩ := hrel
      have hp : (0 : Int) < 2 ^ j := Int.pow_pos (by omega)
      have hps : (2 : Int) ^ (j + 1) = 2 ^ j * 2 := Int.pow_succ ..
      obtain ⟨p, hpe⟩ : ∃ p : Int, p = 2 ^ j := ⟨_, rfl⟩
      rw [← hpe] at hp hj hps ⊢
      by_cases h1 : p ≤ a / 2
      · have v1 : IntKind.i64.wrap (p * 2) = p * 2 := IntWalk.i64_in _ (by omega)
        have HPS := Lib.hid hps
        have h1' : p ≤ a.tdiv 2 := by rw [htd]; exact h1
        clear hps hpe
        go_wp2_with fail
        go_round
        case rel => exact ⟨j + 1, by rw [HPS.out], by rw [HPS.out]; omega⟩
        case measure => simp [intOf]; omega
      · have h1' : ¬ p ≤ a.tdiv 2 := by rw [htd]; exact h1
        have HP0 : Hid (PRel a b c p 0 0) := by
          refine ⟨by omega, by omega, hc.1, .inr ⟨j, hpe, by omega, ?_⟩⟩
          rw [Int.ediv_eq_zero_of_lt (by omega) (by omega), Int.zero_mul, Int.zero_mul]; rfl
        clear hps hpe hj
        go_wp2_with fail
        go_loop [8, 9, 10] (fun q r i => ∃ q' r' i' : Int, q = .int .i64 q' ∧ r = .int .i64 r' ∧ i = .int .i64 i' ∧ Hid (PRel a b c i' q' r') ∧ 0 ≤ i') (fun _ _ i => (intOf i).toNat)
        case atStart => exact ⟨0, 0, p, rfl, rfl, rfl, HP0.out, by omega⟩
        case round =>
          obtain ⟨q, r, i, rfl, rfl, rfl, HP, hi0⟩ := hrel
          clear h1 h1' HP0
          by_cases hi : 0 < i ∧ 0 < a
          · obtain ⟨hi1, ha1⟩ := hi
            obtain ⟨hib, hq2, hqa, d, hd01, hd, hst⟩ := HP.out.step hi1 hab.1 hb
            have hst2 := hst _ _ _ _ rfl rfl rfl rfl
            have hr0 := HP.out.r0; have hrc := HP.out.rc; have hq0 := HP.out.q0
            have u1 : IntKind.i64.wrap (q * 2) = 2 * q := by rw [Int.mul_comm]; exact IntWalk.i64_in _ (by omega)
            have u2 : IntKind.i64.wrap (r * 2) = 2 * r := by rw [Int.mul_comm]; exact IntWalk.i64_in _ (by omega)
            have u3 : a.tdiv i = a / i := Int.tdiv_eq_ediv_of_nonneg hab.1
            have hai := Int.ediv_nonneg hab.1 hi0
            have hai2 : a / i ≤ a := Int.ediv_le_self _ hab.1
            have u4 : (a / i).tmod 2 = d := by rw [← hd]; exact Int.tmod_eq_emod_of_nonneg hai
            have u5 : i.tdiv 2 = i / 2 := Int.tdiv_eq_ediv_of_nonneg hi0
            have u6 : IntKind.i64.wrap (a / i) = a / i := IntWalk.i64_in _ (by omega)
            have u7 : IntKind.i64.wrap d = d := IntWalk.i64_in _ (by omega)
            have u8 : IntKind.i64.wrap (i / 2) = i / 2 := IntWalk.i64_in _ (by omega)
            have hine : (i == 0) = false := by simp; omega
            clear hst hd hai hai2
            by_cases g1 : c ≤ 2 * r
            · have u9 : IntKind.i64.wrap (2 * r - c) = 2 * r - c := IntWalk.i64_in _ (by omega)
              have u10 : IntKind.i64.wrap (2 * q + 1) = 2 * q + 1 := IntWalk.i64_in _ (by omega)
              simp only [if_pos g1] at hst2
              rcases hd01 with h0 | h0
              · subst h0
                simp only [if_neg (show ¬ (0 : Int) = 1 by omega), if_neg (show ¬ ((0 : Int) = 1 ∧ c ≤ (2 * r - c) + b) by omega)] at hst2
                go_wp2_with fail
                go_round
                case rel => exact ⟨_, _, _, rfl, rfl, rfl, hst2.2.2.2.2, by omega⟩
                case measure => simp [intOf]; omega
              · subst h0
                have u11 : IntKind.i64.wrap ((2 * r - c) + b) = (2 * r - c) + b := IntWalk.i64_in _ (by omega)
                by_cases g2 : c ≤ (2 * r - c) + b
                · have u12 : IntKind.i64.wrap ((2 * r - c) + b - c) = (2 * r - c) + b - c := IntWalk.i64_in _ (by omega)
                  have u13 : IntKind.i64.wrap (2 * q + 1 + 1) = 2 * q + 1 + 1 := IntWalk.i64_in _ (by omega)
                  simp only [if_pos (show (1 : Int) = 1 from rfl), if_pos g2, if_pos (show ((1 : Int) = 1 ∧ c ≤ (2 * r - c) + b) from ⟨rfl, g2⟩)] at hst2
                  go_wp2_with fail
                  go_round
                  case rel => exact ⟨_, _, _, rfl, rfl, rfl, (by have h := hst2.2.2.2.2; simp only [true_and, if_true, if_pos g2] at h; exact h), by omega⟩
                  case measure => simp [intOf]; omega
                · simp only [if_pos (show (1 : Int) = 1 from rfl), if_neg g2, if_neg (show ¬ ((1 : Int) = 1 ∧ c ≤ (2 * r - c) + b) from fun h => g2 h.2)] at hst2
                  go_wp2_with fail
                  go_round
                  case rel => exact ⟨_, _, _, rfl, rfl, rfl, (by have h := hst2.2.2.2.2; simp only [true_and, if_true, if_neg g2] at h; exact h), by omega⟩
                  case measure => simp [intOf]; omega
            · simp only [if_neg g1] at hst2
              rcases hd01 with h0 | h0
              · subst h0
                simp only [if_neg (show ¬ (0 : Int) = 1 by omega), if_neg (show ¬ ((0 : Int) = 1 ∧ c ≤ (2 * r) + b) by omega)] at hst2
                go_wp2_with fail
                go_round
                case rel => exact ⟨_, _, _, rfl, rfl, rfl, hst2.2.2.2.2, by omega⟩
                case measure => simp [intOf]; omega
              · subst h0
                have u11 : IntKind.i64.wrap ((2 * r) + b) = (2 * r) + b := IntWalk.i64_in _ (by omega)
                by_cases g2 : c ≤ (2 * r) + b
                · have u12 : IntKind.i64.wrap ((2 * r) + b - c) = (2 * r) + b - c := IntWalk.i64_in _ (by omega)
                  have u13 : IntKind.i64.wrap (2 * q + 1) = 2 * q + 1 := IntWalk.i64_in _ (by omega)
                  simp only [if_pos (show (1 : Int) = 1 from rfl), if_pos g2, if_pos (show ((1 : Int) = 1 ∧ c ≤ (2 * r) + b) from ⟨rfl, g2⟩)] at hst2
                  go_wp2_with fail
                  go_round
                  case rel => exact ⟨_, _, _, rfl, rfl, rfl, (by have h := hst2.2.2.2.2; simp only [true_and, if_true, if_pos g2] at h; exact h), by omega⟩
                  case measure => simp [intOf]; omega
                · simp only [if_pos (show (1 : Int) = 1 from rfl), if_neg g2, if_neg (show ¬ ((1 : Int) = 1 ∧ c ≤ (2 * r) + b) from fun h => g2 h.2)] at hst2
                  go_wp2_with fail
                  go_round
                  case rel => exact ⟨_, _, _, rfl, rfl, rfl, (by have h := hst2.2.2.2.2; simp only [true_and, if_true, if_neg g2] at h; exact h), by omega⟩
                  case measure => simp [intOf]; omega
          · have hx : i ≤ 0 ∨ a ≤ 0 := by omega
            obtain ⟨he, hqa⟩ := HP.out.out hab.1 hb hx
            have hr0 := HP.out.r0; have hrc := HP.out.rc; have hq0 := HP.out.q0
            have hf := HFIN.out q r he hr0 hrc
            clear he
            rw [hT] at hf
            have u1 : IntKind.i64.wrap (-q) = -q := IntWalk.i64_in _ (by omega)
            have u2 : IntKind.i64.wrap (-q - 1) = -q - 1 := IntWalk.i64_in _ (by omega)
            by_cases g : 0 < r
            · rw [if_pos rfl, if_pos g] at hf
              rcases hx with hx | hx
              · have g0 : ¬ 0 < i := by omega
                go_wp2_with fail
                go_ret
                exact ⟨ret_int (by first | rfl | rw [hf]), rfl⟩
              · have g0 : ¬ 0 < a := by omega
                rcases (show 0 < i ∨ ¬ 0 < i by omega) with g1 | g1
                · go_wp2_with fail
                  go_ret
                  exact ⟨ret_int (by first | rfl | rw [hf]), rfl⟩
                · go_wp2_with fail
                  go_ret
                  exact ⟨ret_int (by first | rfl | rw [hf]), rfl⟩
            · rw [if_pos rfl, if_neg g] at hf
              rcases hx with hx | hx
              · have g0 : ¬ 0 < i := by omega
                go_wp2_with fail
                go_ret
                exact ⟨ret_int (by first | rfl | rw [hf]), rfl⟩
              · have g0 : ¬ 0 < a := by omega
                rcases (show 0 < i ∨ ¬ 0 < i by omega) with g1 | g1
                · go_wp2_with fail
                  go_ret
                  exact ⟨ret_int (by first | rfl | rw [hf]), rfl⟩
                · go_wp2_with fail
                  go_ret
                  exact ⟨ret_int (by first | rfl | rw [hf]), rfl⟩
  · rw [if_neg hn] at hae
    subst hae
    have hT : ng = false := by rw [hng]; exact decide_eq_false hn
    clear hng
    go_enter Try.func27, Try.ntmps27
    go_wp2_with fail
    go_loop [10] (fun i => ∃ j : Nat, i = .int .i64 ((2 : Int) ^ j) ∧ ((2 : Int) ^ j = 1 ∨ (2 : Int) ^ j ≤ a)) (fun i => (a - intOf i).toNat)
    case atStart => exact ⟨0, rfl, .inl rfl⟩
    case round =>
      obtain ⟨j, rfl, hj⟩ := hrel
      have hp : (0 : Int) < 2 ^ j := Int.pow_pos (by omega)
      have hps : (2 : Int) ^ (j + 1) = 2 ^ j * 2 := Int.pow_succ ..
      obtain ⟨p, hpe⟩ : ∃ p : Int, p = 2 ^ j := ⟨_, rfl⟩
      rw [← hpe] at hp hj hps ⊢
      by_cases h1 : p ≤ a / 2
      · have v1 : IntKind.i64.wrap (p * 2) = p * 2 := IntWalk.i64_in _ (by omega)
        have HPS := Lib.hid hps
        have h1' : p ≤ a.tdiv 2 := by rw [htd]; exact h1
        clear hps hpe
        go_wp2_with fail
        go_round
        case rel => exact ⟨j + 1, by rw [HPS.out], by rw [HPS.out]; omega⟩
        case measure => simp [intOf]; omega
      · have h1' : ¬ p ≤ a.tdiv 2 := by rw [htd]; exact h1
        have HP0 : Hid (PRel a b c p 0 0) := by
          refine ⟨by omega, by omega, hc.1, .inr ⟨j, hpe, by omega, ?_⟩⟩
          rw [Int.ediv_eq_zero_of_lt (by omega) (by omega), Int.zero_mul, Int.zero_mul]; rfl
        clear hps hpe hj
        go_wp2_with fail
        go_loop [8, 9, 10] (fun q r i => ∃ q' r' i' : Int, q = .int .i64 q' ∧ r = .int .i64 r' ∧ i = .int .i64 i' ∧ Hid (PRel a b c i' q' r') ∧ 0 ≤ i') (fun _ _ i => (intOf i).toNat)
        case atStart => exact ⟨0, 0, p, rfl, rfl, rfl, HP0.out, by omega⟩
        case round =>
          obtain ⟨q, r, i, rfl, rfl, rfl, HP, hi0⟩ := hrel
          clear h1 h1' HP0
          by_cases hi : 0 < i ∧ 0 < a
          · obtain ⟨hi1, ha1⟩ := hi
            obtain ⟨hib, hq2, hqa, d, hd01, hd, hst⟩ := HP.out.step hi1 hab.1 hb
            have hst2 := hst _ _ _ _ rfl rfl rfl rfl
            have hr0 := HP.out.r0; have hrc := HP.out.rc; have hq0 := HP.out.q0
            have u1 : IntKind.i64.wrap (q * 2) = 2 * q := by rw [Int.mul_comm]; exact IntWalk.i64_in _ (by omega)
            have u2 : IntKind.i64.wrap (r * 2) = 2 * r := by rw [Int.mul_comm]; exact IntWalk.i64_in _ (by omega)
            have u3 : a.tdiv i = a / i := Int.tdiv_eq_ediv_of_nonneg hab.1
            have hai := Int.ediv_nonneg hab.1 hi0
            have hai2 : a / i ≤ a := Int.ediv_le_self _ hab.1
            have u4 : (a / i).tmod 2 = d := by rw [← hd]; exact Int.tmod_eq_emod_of_nonneg hai
            have u5 : i.tdiv 2 = i / 2 := Int.tdiv_eq_ediv_of_nonneg hi0
            have u6 : IntKind.i64.wrap (a / i) = a / i := IntWalk.i64_in _ (by omega)
            have u7 : IntKind.i64.wrap d = d := IntWalk.i64_in _ (by omega)
            have u8 : IntKind.i64.wrap (i / 2) = i / 2 := IntWalk.i64_in _ (by omega)
            have hine : (i == 0) = false := by simp; omega
            clear hst hd hai hai2
            by_cases g1 : c ≤ 2 * r
            · have u9 : IntKind.i64.wrap (2 * r - c) = 2 * r - c := IntWalk.i64_in _ (by omega)
              have u10 : IntKind.i64.wrap (2 * q + 1) = 2 * q + 1 := IntWalk.i64_in _ (by omega)
              simp only [if_pos g1] at hst2
              rcases hd01 with h0 | h0
              · subst h0
                simp only [if_neg (show ¬ (0 : Int) = 1 by omega), if_neg (show ¬ ((0 : Int) = 1 ∧ c ≤ (2 * r - c) + b) by omega)] at hst2
                go_wp2_with fail
                go_round
                case rel => exact ⟨_, _, _, rfl, rfl, rfl, hst2.2.2.2.2, by omega⟩
                case measure => simp [intOf]; omega
              · subst h0
                have u11 : IntKind.i64.wrap ((2 * r - c) + b) = (2 * r - c) + b := IntWalk.i64_in _ (by omega)
                by_cases g2 : c ≤ (2 * r - c) + b
                · have u12 : IntKind.i64.wrap ((2 * r - c) + b - c) = (2 * r - c) + b - c := IntWalk.i64_in _ (by omega)
                  have u13 : IntKind.i64.wrap (2 * q + 1 + 1) = 2 * q + 1 + 1 := IntWalk.i64_in _ (by omega)
                  simp only [if_pos (show (1 : Int) = 1 from rfl), if_pos g2, if_pos (show ((1 : Int) = 1 ∧ c ≤ (2 * r - c) + b) from ⟨rfl, g2⟩)] at hst2
                  go_wp2_with fail
                  go_round
                  case rel => exact ⟨_, _, _, rfl, rfl, rfl, (by have h := hst2.2.2.2.2; simp only [true_and, if_true, if_pos g2] at h; exact h), by omega⟩
                  case measure => simp [intOf]; omega
                · simp only [if_pos (show (1 : Int) = 1 from rfl), if_neg g2, if_neg (show ¬ ((1 : Int) = 1 ∧ c ≤ (2 * r - c) + b) from fun h => g2 h.2)] at hst2
                  go_wp2_with fail
                  go_round
                  case rel => exact ⟨_, _, _, rfl, rfl, rfl, (by have h := hst2.2.2.2.2; simp only [true_and, if_true, if_neg g2] at h; exact h), by omega⟩
                  case measure => simp [intOf]; omega
            · simp only [if_neg g1] at hst2
              rcases hd01 with h0 | h0
              · subst h0
                simp only [if_neg (show ¬ (0 : Int) = 1 by omega), if_neg (show ¬ ((0 : Int) = 1 ∧ c ≤ (2 * r) + b) by omega)] at hst2
                go_wp2_with fail
                go_round
                case rel => exact ⟨_, _, _, rfl, rfl, rfl, hst2.2.2.2.2, by omega⟩
                case measure => simp [intOf]; omega
              · subst h0
                have u11 : IntKind.i64.wrap ((2 * r) + b) = (2 * r) + b := IntWalk.i64_in _ (by omega)
                by_cases g2 : c ≤ (2 * r) + b
                · have u12 : IntKind.i64.wrap ((2 * r) + b - c) = (2 * r) + b - c := IntWalk.i64_in _ (by omega)
                  have u13 : IntKind.i64.wrap (2 * q + 1) = 2 * q + 1 := IntWalk.i64_in _ (by omega)
                  simp only [if_pos (show (1 : Int) = 1 from rfl), if_pos g2, if_pos (show ((1 : Int) = 1 ∧ c ≤ (2 * r) + b) from ⟨rfl, g2⟩)] at hst2
                  go_wp2_with fail
                  go_round
                  case rel => exact ⟨_, _, _, rfl, rfl, rfl, (by have h := hst2.2.2.2.2; simp only [true_and, if_true, if_pos g2] at h; exact h), by omega⟩
                  case measure => simp [intOf]; omega
                · simp only [if_pos (show (1 : Int) = 1 from rfl), if_neg g2, if_neg (show ¬ ((1 : Int) = 1 ∧ c ≤ (2 * r) + b) from fun h => g2 h.2)] at hst2
                  go_wp2_with fail
                  go_round
                  case rel => exact ⟨_, _, _, rfl, rfl, rfl, (by have h := hst2.2.2.2.2; simp only [true_and, if_true, if_neg g2] at h; exact h), by omega⟩
                  case measure => simp [intOf]; omega
          · have hx : i ≤ 0 ∨ a ≤ 0 := by omega
            obtain ⟨he, hqa⟩ := HP.out.out hab.1 hb hx
            have hr0 := HP.out.r0; have hrc := HP.out.rc; have hq0 := HP.out.q0
            have hf := HFIN.out q r he hr0 hrc
            clear he
            rw [hT, if_neg (by simp)] at hf
            rcases hx with hx | hx
            · have g0 : ¬ 0 < i := by omega
              go_wp2_with fail
              go_ret
              exact ⟨ret_int (by first | rfl | rw [hf]), rfl⟩
            · have g0 : ¬ 0 < a := by omega
              rcases (show 0 < i ∨ ¬ 0 < i by omega) with g1 | g1
              · go_wp2_with fail
                go_ret
                exact ⟨ret_int (by first | rfl | rw [hf]), rfl⟩
              · go_wp2_with fail
                go_ret
                exact ⟨ret_int (by first | rfl | rw [hf]), rfl⟩
end Go.Proofs.Ytdpnpjficcciiaa
