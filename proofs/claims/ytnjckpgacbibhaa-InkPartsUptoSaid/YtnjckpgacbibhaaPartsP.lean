/- plain: a text's runes are those of its two parts, wherever it is parted between runes -/
import Derived.Test.YtnjckpgacbibhaaId
namespace Go.Proofs.Ytnjckpgacbibhaa
set_option linter.unusedVariables false
set_option linter.unusedSimpArgs false

theorem dec_cut (x0 x1 x2 x3 y1 y2 y3 : Nat) (c1 c2 c3 d1 d2 d3 : Bool) (h1 : d1 = true → c1 = true ∧ y1 = x1) (h2 : d2 = true → c2 = true ∧ y2 = x2) (h3 : d3 = true → c3 = true ∧ y3 = x3)
    (n1 : 2 ≤ (dec x0 x1 x2 x3 c1 c2 c3).2 → d1 = true) (n2 : 3 ≤ (dec x0 x1 x2 x3 c1 c2 c3).2 → d2 = true) (n3 : 4 ≤ (dec x0 x1 x2 x3 c1 c2 c3).2 → d3 = true) :
    dec x0 y1 y2 y3 d1 d2 d3 = dec x0 x1 x2 x3 c1 c2 c3 := by
  by_cases g0 : x0 < 0x80
  · simp [dec, g0]
  · cases d1
    · have e : (dec x0 x1 x2 x3 c1 c2 c3).2 < 2 := by
        rcases Nat.lt_or_ge (dec x0 x1 x2 x3 c1 c2 c3).2 2 with h | h
        · exact h
        · have := n1 h; simp at this
      have e2 : dec x0 x1 x2 x3 c1 c2 c3 = (0xFFFD, 1) := by
        clear n1 n2 n3 h1 h2 h3
        unfold dec at e ⊢
        rw [if_neg g0] at e ⊢
        repeat' split
        all_goals first | rfl | (simp_all; done)
      rw [e2]
      simp [dec, g0]
    · obtain ⟨rfl, rfl⟩ := h1 rfl
      cases d2
      · have e : (dec x0 y1 x2 x3 true c2 c3).2 < 3 := by
          rcases Nat.lt_or_ge (dec x0 y1 x2 x3 true c2 c3).2 3 with h | h
          · exact h
          · have := n2 h; simp at this
        clear n1 n2 n3 h2 h3
        unfold dec at e ⊢
        rw [if_neg g0] at e ⊢
        rw [if_neg g0]
        by_cases q : (x0 / 32 == 6 && (true && y1 / 64 == 2)) = true
        · rw [if_pos q, if_pos q]
        · rw [if_neg q] at e ⊢
          rw [if_neg q]
          have r1 : (x0 / 16 == 14 && (true && y1 / 64 == 2) && (false && y2 / 64 == 2)) = false := by simp
          have r2 : (x0 / 8 == 30 && (true && y1 / 64 == 2) && (false && y2 / 64 == 2) && (d3 && y3 / 64 == 2)) = false := by simp
          rw [r1, r2]
          simp only [Bool.false_eq_true, if_false]
          repeat' split
          all_goals first | rfl | (simp_all; done)
      · obtain ⟨rfl, rfl⟩ := h2 rfl
        cases d3
        · have e : (dec x0 y1 y2 x3 true true c3).2 < 4 := by
            rcases Nat.lt_or_ge (dec x0 y1 y2 x3 true true c3).2 4 with h | h
            · exact h
            · have := n3 h; simp at this
          clear n1 n2 n3 h3
          unfold dec at e ⊢
          rw [if_neg g0] at e ⊢
          rw [if_neg g0]
          by_cases q : (x0 / 32 == 6 && (true && y1 / 64 == 2)) = true
          · rw [if_pos q, if_pos q]
          · rw [if_neg q] at e ⊢
            rw [if_neg q]
            by_cases q2 : (x0 / 16 == 14 && (true && y1 / 64 == 2) && (true && y2 / 64 == 2)) = true
            · rw [if_pos q2, if_pos q2]
            · rw [if_neg q2] at e ⊢
              rw [if_neg q2]
              have r2 : (x0 / 8 == 30 && (true && y1 / 64 == 2) && (true && y2 / 64 == 2) && (false && y3 / 64 == 2)) = false := by simp
              rw [r2]
              simp only [Bool.false_eq_true, if_false]
              repeat' split
              all_goals first | rfl | (simp_all; done)
        · obtain ⟨rfl, rfl⟩ := h3 rfl
          rfl

theorem get_cut (s : ByteArray) (p k : Nat) (hp : p ≤ s.size) (hk : k < p) : (s.extract 0 p).get! k = s.get! k := by
  have h1 : k < (s.extract 0 p).size := by simp [ByteArray.size_extract]; omega
  have h2 : k < s.size := by omega
  show (s.extract 0 p).data[k]! = s.data[k]!
  have h1' : k < (s.extract 0 p).data.size := h1
  have h2' : k < s.data.size := h2
  rw [getElem!_pos _ k h1', getElem!_pos _ k h2']
  simp [ByteArray.data_extract]
theorem get_rest (s : ByteArray) (p k : Nat) (hk : p + k < s.size) : (s.extract p s.size).get! k = s.get! (p + k) := by
  have h1 : k < (s.extract p s.size).size := by simp [ByteArray.size_extract]; omega
  show (s.extract p s.size).data[k]! = s.data[p + k]!
  have h1' : k < (s.extract p s.size).data.size := h1
  have h2' : p + k < s.data.size := hk
  rw [getElem!_pos _ k h1', getElem!_pos _ (p + k) h2']
  simp [ByteArray.data_extract]
theorem decode_cut (s : ByteArray) (p i : Nat) (hp : p ≤ s.size) (h : i + dN s i ≤ p) : Utf8.decode (s.extract 0 p) i = Utf8.decode s i := by
  have hN := dN_pos s i
  have hs : (s.extract 0 p).size = p := by simp [ByteArray.size_extract]; omega
  rw [decode_dec, decode_dec, hs, get_cut s p i hp (by omega)]
  unfold dN at h
  rw [decode_dec] at h
  refine dec_cut _ _ _ _ _ _ _ _ _ _ _ _ _ ?_ ?_ ?_ ?_ ?_ ?_
  · intro g; simp only [decide_eq_true_eq] at g ⊢; exact ⟨by omega, by rw [get_cut s p _ hp g]⟩
  · intro g; simp only [decide_eq_true_eq] at g ⊢; exact ⟨by omega, by rw [get_cut s p _ hp g]⟩
  · intro g; simp only [decide_eq_true_eq] at g ⊢; exact ⟨by omega, by rw [get_cut s p _ hp g]⟩
  · intro g; simp only [decide_eq_true_eq]; omega
  · intro g; simp only [decide_eq_true_eq]; omega
  · intro g; simp only [decide_eq_true_eq]; omega
theorem decode_rest (s : ByteArray) (p i : Nat) (h : p + i < s.size) : Utf8.decode (s.extract p s.size) i = Utf8.decode s (p + i) := by
  have hs : (s.extract p s.size).size = s.size - p := by simp [ByteArray.size_extract]
  rw [decode_dec, decode_dec, hs, get_rest s p i h]
  have e1 : decide (i + 1 < s.size - p) = decide (p + i + 1 < s.size) := by rw [decide_eq_decide]; omega
  have e2 : decide (i + 2 < s.size - p) = decide (p + i + 2 < s.size) := by rw [decide_eq_decide]; omega
  have e3 : decide (i + 3 < s.size - p) = decide (p + i + 3 < s.size) := by rw [decide_eq_decide]; omega
  rw [e1, e2, e3]
  have f (k : Nat) : (s.extract p s.size).get! (i + k) = s.get! (p + i + k) ∨ ¬ p + i + k < s.size := by
    by_cases hk : p + i + k < s.size
    · left; rw [get_rest s p (i + k) (by omega)]; congr 1; omega
    · exact .inr hk
  rcases f 1 with f1 | f1 <;> rcases f 2 with f2 | f2 <;> rcases f 3 with f3 | f3
  all_goals (try rw [f1]); (try rw [f2]); (try rw [f3])
  all_goals (try rw [decide_eq_false f1]); (try rw [decide_eq_false f2]); (try rw [decide_eq_false f3])
  all_goals simp [dec]
end Go.Proofs.Ytnjckpgacbibhaa
