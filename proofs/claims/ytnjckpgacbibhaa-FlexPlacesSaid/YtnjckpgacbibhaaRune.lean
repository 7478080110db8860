/- plain: the reference's decoding of a rune is the model's; the runes of a text -/
import GoSem.Core.Utf8
namespace Go.Proofs.Ytnjckpgacbibhaa
set_option linter.unusedVariables false
set_option linter.unusedSimpArgs false
/-- a byte of a text, -1 behind its end -/
def byteAt (s : ByteArray) (i : Nat) : Int := if i < s.size then ((s.get! i).toNat : Int) else -1
def btw (n lo hi : Int) : Bool := decide (lo ≤ n) && decide (n ≤ hi)
def rlow (a : Int) : Int := if a = 0xE0 then 0xA0 else if a = 0xF0 then 0x90 else 0x80
def rhigh (a : Int) : Int := if a = 0xED then 0x9F else if a = 0xF4 then 0x8F else 0xBF
def runeOf (a b c d : Int) : Int × Int :=
  if a < 0x80 then (a, 1)
  else if btw b (rlow a) (rhigh a) = false then (0xFFFD, 1)
  else if 0xC2 ≤ a ∧ a ≤ 0xDF then ((a - 0xC0) * 64 + b - 0x80, 2)
  else if (0xE0 ≤ a ∧ a ≤ 0xEF) ∧ btw c 0x80 0xBF = true then ((a - 0xE0) * 4096 + (b - 0x80) * 64 + c - 0x80, 3)
  else if (0xF0 ≤ a ∧ a ≤ 0xF4) ∧ btw c 0x80 0xBF = true ∧ btw d 0x80 0xBF = true then ((a - 0xF0) * 262144 + (b - 0x80) * 4096 + (c - 0x80) * 64 + d - 0x80, 4)
  else (0xFFFD, 1)
/-- the model's decoding, on bytes told apart -/
def dec (x0 x1 x2 x3 : Nat) (c1 c2 c3 : Bool) : Nat × Nat :=
  if x0 < 0x80 then (x0, 1)
  else if x0 / 32 == 6 && (c1 && x1 / 64 == 2) then
    if (x0 % 32) * 64 + x1 % 64 ≥ 0x80 then ((x0 % 32) * 64 + x1 % 64, 2) else (0xFFFD, 1)
  else if x0 / 16 == 14 && (c1 && x1 / 64 == 2) && (c2 && x2 / 64 == 2) then
    if (x0 % 16) * 4096 + (x1 % 64) * 64 + x2 % 64 ≥ 0x800 && Go.Utf8.valid (((x0 % 16) * 4096 + (x1 % 64) * 64 + x2 % 64 : Nat) : Int) then ((x0 % 16) * 4096 + (x1 % 64) * 64 + x2 % 64, 3) else (0xFFFD, 1)
  else if x0 / 8 == 30 && (c1 && x1 / 64 == 2) && (c2 && x2 / 64 == 2) && (c3 && x3 / 64 == 2) then
    if (x0 % 8) * 262144 + (x1 % 64) * 4096 + (x2 % 64) * 64 + x3 % 64 ≥ 0x10000 && Go.Utf8.valid (((x0 % 8) * 262144 + (x1 % 64) * 4096 + (x2 % 64) * 64 + x3 % 64 : Nat) : Int) then ((x0 % 8) * 262144 + (x1 % 64) * 4096 + (x2 % 64) * 64 + x3 % 64, 4) else (0xFFFD, 1)
  else (0xFFFD, 1)
theorem decode_dec (s : ByteArray) (i : Nat) : Go.Utf8.decode s i = dec (s.get! i).toNat (s.get! (i+1)).toNat (s.get! (i+2)).toNat (s.get! (i+3)).toNat (decide (i+1 < s.size)) (decide (i+2 < s.size)) (decide (i+3 < s.size)) := rfl
def bv (c : Bool) (x : Nat) : Int := if c then (x : Int) else -1
theorem dec_eq (x0 x1 x2 x3 i n : Nat) (B C D : Int) (b0 : x0 < 256) (_b1 : x1 < 256) (_b2 : x2 < 256) (_b3 : x3 < 256)
    (hb1 : i + 1 < n ∧ B = x1 ∨ ¬ i + 1 < n ∧ B = -1) (hb2 : i + 2 < n ∧ C = x2 ∨ ¬ i + 2 < n ∧ C = -1) (hb3 : i + 3 < n ∧ D = x3 ∨ ¬ i + 3 < n ∧ D = -1) :
    runeOf x0 B C D = (((dec x0 x1 x2 x3 (decide (i+1 < n)) (decide (i+2 < n)) (decide (i+3 < n))).1 : Int), ((dec x0 x1 x2 x3 (decide (i+1 < n)) (decide (i+2 < n)) (decide (i+3 < n))).2 : Int)) := by
  by_cases g0 : x0 < 0x80
  · simp [runeOf, dec, g0]; omega
  have g0' : ¬ (x0 : Int) < 0x80 := by omega
  rcases (show x0 < 0xE0 ∨ (0xE0 ≤ x0 ∧ x0 < 0xF0) ∨ 0xF0 ≤ x0 from by omega) with h | h | h
  · have eL : rlow x0 = 0x80 := by unfold rlow; rw [if_neg (by omega), if_neg (by omega)]
    have eH : rhigh x0 = 0xBF := by unfold rhigh; rw [if_neg (by omega), if_neg (by omega)]
    have n1 : ¬ ((0xE0 ≤ (x0 : Int) ∧ (x0 : Int) ≤ 0xEF) ∧ btw C 0x80 0xBF = true) := by omega
    have n2 : ¬ ((0xF0 ≤ (x0 : Int) ∧ (x0 : Int) ≤ 0xF4) ∧ btw C 0x80 0xBF = true ∧ btw D 0x80 0xBF = true) := by omega
    have m1 : (x0 / 16 == 14) = false := by simp; omega
    have m2 : (x0 / 8 == 30) = false := by simp; omega
    unfold runeOf dec
    rw [if_neg g0', if_neg g0, eL, eH, if_neg n1, if_neg n2, m1, m2]
    simp only [Bool.false_and, Bool.false_eq_true, if_false]
    by_cases k : btw B 0x80 0xBF = true
    · rw [if_neg (by simp [k])]
      simp only [btw, Bool.and_eq_true, decide_eq_true_eq] at k
      have kc : decide (i+1 < n) = true := by simp only [decide_eq_true_eq]; omega
      have kx : (x1 / 64 == 2) = true := by simp; omega
      rw [kc, kx]
      by_cases k2 : 0xC2 ≤ x0
      · have q : (x0 / 32 == 6) = true := by simp; omega
        rw [if_pos (by omega), q]
        simp only [Bool.and_self, if_true]
        rw [if_pos (by omega)]
        simp only [Prod.mk.injEq]; omega
      · rw [if_neg (by omega)]
        split
        · rename_i q
          have q : x0 / 32 = 6 := by simpa using q
          rw [if_neg (by omega)]; simp
        · simp
    · rw [if_pos (by simpa using k)]
      have kx : (decide (i+1 < n) && x1 / 64 == 2) = false := by
        simp only [btw, Bool.and_eq_true, decide_eq_true_eq] at k
        rw [← Bool.not_eq_true]
        simp only [Bool.and_eq_true, decide_eq_true_eq, beq_iff_eq]
        omega
      simp [kx]
  · have n1 : ¬ (0xC2 ≤ (x0 : Int) ∧ (x0 : Int) ≤ 0xDF) := by omega
    have n2 : ¬ ((0xF0 ≤ (x0 : Int) ∧ (x0 : Int) ≤ 0xF4) ∧ btw C 0x80 0xBF = true ∧ btw D 0x80 0xBF = true) := by omega
    have m1 : (x0 / 32 == 6) = false := by simp; omega
    have m2 : (x0 / 8 == 30) = false := by simp; omega
    have m3 : (x0 / 16 == 14) = true := by simp; omega
    have eL : rlow x0 = if x0 = 0xE0 then 0xA0 else 0x80 := by
      unfold rlow
      by_cases q : x0 = 0xE0
      · rw [if_pos (by omega), if_pos q]
      · rw [if_neg (by omega), if_neg (by omega), if_neg q]
    have eH : rhigh x0 = if x0 = 0xED then 0x9F else 0xBF := by
      unfold rhigh
      by_cases q : x0 = 0xED
      · rw [if_pos (by omega), if_pos q]
      · rw [if_neg (by omega), if_neg (by omega), if_neg q]
    unfold runeOf dec
    rw [if_neg g0', if_neg g0, if_neg n1, if_neg n2, m1, m2, m3]
    simp only [Bool.false_and, Bool.false_eq_true, if_false, Bool.true_and]
    by_cases k : (decide (i+1 < n) && x1 / 64 == 2) = true
    · by_cases k2 : (decide (i+2 < n) && x2 / 64 == 2) = true
      · rw [k, k2]
        simp only [Bool.and_eq_true, beq_iff_eq, decide_eq_true_eq] at k k2
        have eB : B = x1 := by omega
        have eC : C = x2 := by omega
        have hC : btw C 0x80 0xBF = true := by simp only [btw, Bool.and_eq_true, decide_eq_true_eq]; omega
        rw [hC]
        simp only [and_true, Bool.and_self, if_true]
        by_cases q : (x0 % 16) * 4096 + (x1 % 64) * 64 + x2 % 64 ≥ 0x800 ∧ ((x0 % 16) * 4096 + (x1 % 64) * 64 + x2 % 64 < 0xD800 ∨ 0xE000 ≤ (x0 % 16) * 4096 + (x1 % 64) * 64 + x2 % 64)
        · have hv : (decide ((x0 % 16) * 4096 + (x1 % 64) * 64 + x2 % 64 ≥ 0x800) && Go.Utf8.valid (((x0 % 16) * 4096 + (x1 % 64) * 64 + x2 % 64 : Nat) : Int)) = true := by
            simp only [Go.Utf8.valid, Bool.and_eq_true, Bool.or_eq_true, decide_eq_true_eq]; omega
          have hB : ¬ (btw B (rlow x0) (rhigh x0) = false) := by
            rw [eL, eH, Bool.not_eq_false]
            simp only [btw, Bool.and_eq_true, decide_eq_true_eq]
            split <;> split <;> omega
          rw [if_pos hv, if_neg hB, if_pos (by omega)]
          simp only [Prod.mk.injEq]; omega
        · have hv : ¬ (decide ((x0 % 16) * 4096 + (x1 % 64) * 64 + x2 % 64 ≥ 0x800) && Go.Utf8.valid (((x0 % 16) * 4096 + (x1 % 64) * 64 + x2 % 64 : Nat) : Int)) = true := by
            simp only [Go.Utf8.valid, Bool.and_eq_true, Bool.or_eq_true, decide_eq_true_eq]; omega
          have hB : btw B (rlow x0) (rhigh x0) = false := by
            rw [eL, eH, ← Bool.not_eq_true]
            simp only [btw, Bool.and_eq_true, decide_eq_true_eq]
            split <;> split <;> omega
          rw [if_neg hv, if_pos hB]; simp
      · have hC : btw C 0x80 0xBF = false := by
          rw [← Bool.not_eq_true]
          simp only [btw, Bool.and_eq_true, decide_eq_true_eq, beq_iff_eq] at k2 ⊢
          omega
        have k2 : (decide (i+2 < n) && x2 / 64 == 2) = false := by simpa using k2
        rw [hC, k2]
        simp
    · have hB : btw B (rlow x0) (rhigh x0) = false := by
        rw [eL, eH, ← Bool.not_eq_true]
        simp only [btw, Bool.and_eq_true, decide_eq_true_eq, beq_iff_eq] at k ⊢
        split <;> split <;> omega
      have k : (decide (i+1 < n) && x1 / 64 == 2) = false := by simpa using k
      rw [hB, k]
      simp
  · have n1 : ¬ (0xC2 ≤ (x0 : Int) ∧ (x0 : Int) ≤ 0xDF) := by omega
    have n2 : ¬ ((0xE0 ≤ (x0 : Int) ∧ (x0 : Int) ≤ 0xEF) ∧ btw C 0x80 0xBF = true) := by omega
    have m1 : (x0 / 32 == 6) = false := by simp; omega
    have m2 : (x0 / 16 == 14) = false := by simp; omega
    have eL : rlow x0 = if x0 = 0xF0 then 0x90 else 0x80 := by
      unfold rlow
      by_cases q : x0 = 0xF0
      · rw [if_neg (by omega), if_pos (by omega), if_pos q]
      · rw [if_neg (by omega), if_neg (by omega), if_neg q]
    have eH : rhigh x0 = if x0 = 0xF4 then 0x8F else 0xBF := by
      unfold rhigh
      by_cases q : x0 = 0xF4
      · rw [if_neg (by omega), if_pos (by omega), if_pos q]
      · rw [if_neg (by omega), if_neg (by omega), if_neg q]
    unfold runeOf dec
    rw [if_neg g0', if_neg g0, if_neg n1, if_neg n2, m1, m2]
    simp only [Bool.false_and, Bool.false_eq_true, if_false]
    by_cases k : (decide (i+1 < n) && x1 / 64 == 2) = true ∧ (decide (i+2 < n) && x2 / 64 == 2) = true ∧ (decide (i+3 < n) && x3 / 64 == 2) = true ∧ x0 / 8 = 30
    · obtain ⟨k, k2, k3, k4⟩ := k
      have k4' : (x0 / 8 == 30) = true := by simpa using k4
      rw [k, k2, k3, k4']
      simp only [Bool.and_eq_true, beq_iff_eq, decide_eq_true_eq] at k k2 k3
      have eB : B = x1 := by omega
      have eC : C = x2 := by omega
      have eD : D = x3 := by omega
      have hC : btw C 0x80 0xBF = true := by simp only [btw, Bool.and_eq_true, decide_eq_true_eq]; omega
      have hD : btw D 0x80 0xBF = true := by simp only [btw, Bool.and_eq_true, decide_eq_true_eq]; omega
      rw [hC, hD]
      simp only [and_true, Bool.and_self, if_true]
      by_cases q : (x0 % 8) * 262144 + (x1 % 64) * 4096 + (x2 % 64) * 64 + x3 % 64 ≥ 0x10000 ∧ (x0 % 8) * 262144 + (x1 % 64) * 4096 + (x2 % 64) * 64 + x3 % 64 ≤ 0x10FFFF
      · have hv : (decide ((x0 % 8) * 262144 + (x1 % 64) * 4096 + (x2 % 64) * 64 + x3 % 64 ≥ 0x10000) && Go.Utf8.valid (((x0 % 8) * 262144 + (x1 % 64) * 4096 + (x2 % 64) * 64 + x3 % 64 : Nat) : Int)) = true := by
          simp only [Go.Utf8.valid, Bool.and_eq_true, Bool.or_eq_true, decide_eq_true_eq]; omega
        have hB : ¬ (btw B (rlow x0) (rhigh x0) = false) := by
          rw [eL, eH, Bool.not_eq_false]
          simp only [btw, Bool.and_eq_true, decide_eq_true_eq]
          split <;> split <;> omega
        rw [if_pos hv, if_neg hB, if_pos (by omega)]
        simp only [Prod.mk.injEq]; omega
      · have hv : ¬ (decide ((x0 % 8) * 262144 + (x1 % 64) * 4096 + (x2 % 64) * 64 + x3 % 64 ≥ 0x10000) && Go.Utf8.valid (((x0 % 8) * 262144 + (x1 % 64) * 4096 + (x2 % 64) * 64 + x3 % 64 : Nat) : Int)) = true := by
          simp only [Go.Utf8.valid, Bool.and_eq_true, Bool.or_eq_true, decide_eq_true_eq]; omega
        rw [if_neg hv]
        by_cases w : x0 ≤ 0xF4
        · have hB : btw B (rlow x0) (rhigh x0) = false := by
            rw [eL, eH, ← Bool.not_eq_true]
            simp only [btw, Bool.and_eq_true, decide_eq_true_eq]
            split <;> split <;> omega
          rw [if_pos hB]; simp
        · rw [if_neg (show ¬ (0xF0 ≤ (x0 : Int) ∧ (x0 : Int) ≤ 0xF4) from by omega)]; split <;> simp
    · have hR : ¬ ((x0 / 8 == 30 && (decide (i+1 < n) && x1 / 64 == 2) && (decide (i+2 < n) && x2 / 64 == 2) && (decide (i+3 < n) && x3 / 64 == 2)) = true) := by
        intro q
        simp only [Bool.and_eq_true, beq_iff_eq] at q k
        exact k ⟨q.1.1.2, q.1.2, q.2, q.1.1.1⟩
      rw [if_neg hR]
      by_cases w : btw B (rlow x0) (rhigh x0) = false
      · rw [if_pos w]; simp
      · rw [if_neg w, if_neg]
        · simp
        · intro q
          apply k
          obtain ⟨q1, q2, q3⟩ := q
          rw [eL, eH, Bool.not_eq_false] at w
          simp only [btw, Bool.and_eq_true, decide_eq_true_eq, beq_iff_eq] at q2 q3 w ⊢
          have w' : 0x80 ≤ B ∧ B ≤ 0xBF := by
            revert w; split <;> split <;> omega
          omega
theorem decode_eq (s : ByteArray) (i : Nat) (h : i < s.size) :
    runeOf (byteAt s i) (byteAt s (i+1)) (byteAt s (i+2)) (byteAt s (i+3)) = (((Go.Utf8.decode s i).1 : Int), ((Go.Utf8.decode s i).2 : Int)) := by
  have e0 : byteAt s i = (s.get! i).toNat := by simp [byteAt, h]
  have f (k : Nat) : k < s.size ∧ byteAt s k = (s.get! k).toNat ∨ ¬ k < s.size ∧ byteAt s k = -1 := by
    unfold byteAt; split <;> simp_all
  rw [decode_dec, e0]
  exact dec_eq _ _ _ _ _ _ _ _ _ (s.get! i).toNat_lt (s.get! (i+1)).toNat_lt (s.get! (i+2)).toNat_lt (s.get! (i+3)).toNat_lt (f _) (f _) (f _)
def dR (s : ByteArray) (i : Nat) : Int := ((Go.Utf8.decode s i).1 : Int)
def dN (s : ByteArray) (i : Nat) : Nat := (Go.Utf8.decode s i).2
theorem dN_pos (s : ByteArray) (i : Nat) : 1 ≤ dN s i ∧ dN s i ≤ 4 := by
  unfold dN Go.Utf8.decode
  simp only []
  repeat' split
  all_goals simp
/-- the runes from a place on, each with where it begins -/
def rns (s : ByteArray) : Nat → Nat → List (Int × Nat)
  | 0, _ => []
  | n + 1, i => if i < s.size then (dR s i, i) :: rns s n (i + dN s i) else []
theorem rns_more (s : ByteArray) : ∀ (n m i : Nat), s.size ≤ i + n → s.size ≤ i + m → rns s n i = rns s m i := by
  intro n
  induction n with
  | zero =>
    intro m i h _
    cases m with
    | zero => rfl
    | succ m => simp only [rns]; rw [if_neg (by omega)]
  | succ n ih =>
    intro m i h h'
    cases m with
    | zero => simp only [rns]; rw [if_neg (by omega)]
    | succ m =>
      simp only [rns]
      have := dN_pos s i
      split
      · rw [ih m _ (by omega) (by omega)]
      · rfl
def runesFrom (s : ByteArray) (i : Nat) : List (Int × Nat) := rns s (s.size - i) i
def runes (s : ByteArray) : List (Int × Nat) := runesFrom s 0
theorem runesFrom_in (s : ByteArray) (i : Nat) (h : i < s.size) : runesFrom s i = (dR s i, i) :: runesFrom s (i + dN s i) := by
  have := dN_pos s i
  unfold runesFrom
  rw [show s.size - i = (s.size - i - 1) + 1 from by omega]
  simp only [rns]
  rw [if_pos h, rns_more s (s.size - i - 1) (s.size - (i + dN s i)) _ (by omega) (by omega)]
theorem runesFrom_out (s : ByteArray) (i : Nat) (h : ¬ i < s.size) : runesFrom s i = [] := by
  unfold runesFrom
  rw [show s.size - i = 0 from by omega]
  rfl
end Go.Proofs.Ytnjckpgacbibhaa
