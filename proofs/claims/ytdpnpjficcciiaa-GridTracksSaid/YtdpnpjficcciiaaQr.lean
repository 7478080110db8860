/- plain: rows of items -/
import Derived.Test.YtdpnpjficcciiaaQp
import Derived.Test.Ytdpnpjficcciiaamem2
namespace Go.Cas
set_option linter.unusedVariables false
set_option linter.unusedSimpArgs false
open Go.RowKit

def rwF (W : Nat → Int) (wrp : Bool) (room gap : Int) : Nat → List Int × Int
  | 0 => ([], 0)
  | k + 1 => if k = 0 ∨ (wrp = true ∧ room < (rwF W wrp room gap k).2 + gap + W k) then ((rwF W wrp room gap k).1 ++ [1], W k) else ((rwF W wrp room gap k).1.set ((rwF W wrp room gap k).1.length - 1) (szA (rwF W wrp room gap k).1 ((rwF W wrp room gap k).1.length - 1) + 1), (rwF W wrp room gap k).2 + (gap + W k))
def newR (W : Nat → Int) (wrp : Bool) (room gap : Int) (k : Nat) : Prop := k = 0 ∨ (wrp = true ∧ room < (rwF W wrp room gap k).2 + gap + W k)
section
variable {W : Nat → Int} {wrp : Bool} {room gap : Int}
theorem rwF_new {k : Nat} (h : newR W wrp room gap k) : rwF W wrp room gap (k + 1) = ((rwF W wrp room gap k).1 ++ [1], W k) := by
  rw [rwF]; exact if_pos h
theorem rwF_old {k : Nat} (h : ¬ newR W wrp room gap k) : rwF W wrp room gap (k + 1) = ((rwF W wrp room gap k).1.set ((rwF W wrp room gap k).1.length - 1) (szA (rwF W wrp room gap k).1 ((rwF W wrp room gap k).1.length - 1) + 1), (rwF W wrp room gap k).2 + (gap + W k)) := by
  rw [rwF]; exact if_neg h
theorem rwF_len (k : Nat) : (rwF W wrp room gap k).1.length ≤ k ∧ (0 < k → 0 < (rwF W wrp room gap k).1.length) := by
  induction k with
  | zero => simp [rwF]
  | succ k ih =>
    by_cases h : newR W wrp room gap k
    · rw [rwF_new h]; simp; omega
    · rw [rwF_old h]
      have : k ≠ 0 := fun e => h (.inl e)
      simp; omega
theorem rwF_bd {lo hi : Int} (hlo : lo ≤ 0) (hhi : 0 ≤ hi) {n : Nat} (hW : ∀ i, i < n → lo ≤ W i ∧ W i ≤ hi) (hg : lo ≤ gap ∧ gap ≤ hi) : ∀ k, k ≤ n → (2 * lo) * k ≤ (rwF W wrp room gap k).2 ∧ (rwF W wrp room gap k).2 ≤ (2 * hi) * k := by
  intro k
  induction k with
  | zero => intro _; simp [rwF]
  | succ k ih =>
    intro hk
    have h1 := ih (by omega)
    have h2 := hW k (by omega)
    have e1 : 2 * lo * ((k + 1 : Nat) : Int) = 2 * lo * k + 2 * lo := by rw [Int.natCast_succ, Int.mul_add, Int.mul_one]
    have e2 : 2 * hi * ((k + 1 : Nat) : Int) = 2 * hi * k + 2 * hi := by rw [Int.natCast_succ, Int.mul_add, Int.mul_one]
    have n1 : 2 * lo * (k : Int) ≤ 0 := Int.mul_nonpos_of_nonpos_of_nonneg (by omega) (by omega)
    have n2 : 0 ≤ 2 * hi * (k : Int) := Int.mul_nonneg (by omega) (by omega)
    rw [e1, e2]
    by_cases h : newR W wrp room gap k
    · rw [rwF_new h]; simp only; omega
    · rw [rwF_old h]; simp only; omega
theorem rwF_cnt (k : Nat) : ∀ i, i < (rwF W wrp room gap k).1.length → 1 ≤ szA (rwF W wrp room gap k).1 i ∧ szA (rwF W wrp room gap k).1 i ≤ k := by
  induction k with
  | zero => intro i hi; simp [rwF] at hi
  | succ k ih =>
    by_cases h : newR W wrp room gap k
    · rw [rwF_new h]
      intro i hi
      simp at hi
      rcases Nat.lt_or_ge i (rwF W wrp room gap k).1.length with h1 | h1
      · have h2 := ih i h1
        have : szA ((rwF W wrp room gap k).1 ++ [1]) i = szA (rwF W wrp room gap k).1 i := by
          unfold szA; rw [List.getD_eq_getElem?_getD, List.getD_eq_getElem?_getD, List.getElem?_append_left h1]
        simp only [this]; omega
      · obtain rfl : i = (rwF W wrp room gap k).1.length := by omega
        have : szA ((rwF W wrp room gap k).1 ++ [1]) (rwF W wrp room gap k).1.length = 1 := by
          unfold szA; rw [List.getD_eq_getElem?_getD, List.getElem?_append_right (Nat.le_refl _)]; simp
        simp only [this]; omega
    · rw [rwF_old h]
      intro i hi
      simp at hi
      have hk : k ≠ 0 := fun e => h (.inl e)
      have hl := (rwF_len (W := W) (wrp := wrp) (room := room) (gap := gap) k).2 (by omega)
      by_cases e : i = (rwF W wrp room gap k).1.length - 1
      · have h2 := ih _ (show (rwF W wrp room gap k).1.length - 1 < (rwF W wrp room gap k).1.length by omega)
        rw [e]
        simp only
        rw [set_get (by omega)]; omega
      · have h2 := ih i hi
        have : szA ((rwF W wrp room gap k).1.set ((rwF W wrp room gap k).1.length - 1) (szA (rwF W wrp room gap k).1 ((rwF W wrp room gap k).1.length - 1) + 1)) i = szA (rwF W wrp room gap k).1 i := by
          unfold szA; rw [List.getD_eq_getElem?_getD, List.getElem?_set_ne (Ne.symm e), ← List.getD_eq_getElem?_getD]
        simp only [this]; omega
/-- one row's width -/
def segS (W : Nat → Int) (gap : Int) (i n : Nat) : Int := sumTo (fun q => W (i + q)) n + gpS gap n
theorem segS_succ (i n : Nat) : segS W gap i (n + 1) = if 0 < n then segS W gap i n + W (i + n) + gap else segS W gap i n + W (i + n) := by
  unfold segS
  rw [gpS_succ]
  simp only [sumTo]
  split
  · omega
  · obtain rfl : n = 0 := by omega
    simp [sumTo, gpS]
theorem rw_step {i q : Nat} {out : List Int} (h0 : newR W wrp room gap i) (he : (rwF W wrp room gap i).1 = out) (hq : 0 < q → rwF W wrp room gap (i + q) = (out ++ [(q : Int)], segS W gap i q)) (hb : ¬ (wrp = true ∧ 0 < q ∧ room < segS W gap i (q + 1))) : rwF W wrp room gap (i + (q + 1)) = (out ++ [((q + 1 : Nat) : Int)], segS W gap i (q + 1)) := by
  rw [segS_succ] at hb ⊢
  by_cases h : 0 < q
  · rw [if_pos h] at hb ⊢
    have e := hq h
    have hn : ¬ newR W wrp room gap (i + q) := by
      intro hn
      rcases hn with hn | hn
      · omega
      · rw [e] at hn
        simp only at hn
        exact hb ⟨hn.1, h, by have := hn.2; omega⟩
    rw [← Nat.add_assoc, rwF_old hn, e]
    simp only
    congr 1
    · have : (out ++ [(q : Int)]).length - 1 = out.length := by simp
      rw [this]
      have e2 : szA (out ++ [(q : Int)]) out.length = q := by unfold szA; rw [List.getD_eq_getElem?_getD, List.getElem?_append_right (Nat.le_refl _)]; simp
      rw [e2, List.set_append_right _ _ (Nat.le_refl _)]
      simp
    · omega
  · obtain rfl : q = 0 := by omega
    rw [if_neg (by omega)]
    rw [show i + (0 + 1) = i + 1 from rfl, rwF_new h0, he]
    simp [segS, sumTo, gpS]
theorem rw_brk {i q : Nat} {out : List Int} (hq : rwF W wrp room gap (i + q) = (out ++ [(q : Int)], segS W gap i q)) (h : 0 < q) (hb : wrp = true ∧ room < segS W gap i (q + 1)) : newR W wrp room gap (i + q) := by
  rw [segS_succ, if_pos h] at hb
  right
  rw [hq]
  exact ⟨hb.1, by simp only; omega⟩
end
theorem own_set {w : World} {base n m cap g : Nat} {e : TypeId} {xs : List Value} (h : w.ownsRow base e 1 (.slice (some ⟨g, 0, none⟩) n cap) m xs) (i : Nat) (u : Value) : (w.setCell ⟨g, i, none⟩ u).ownsRow base e 1 (.slice (some ⟨g, 0, none⟩) n cap) m (xs.set i u) := by
  obtain ⟨h1, h2⟩ := h
  refine ⟨by simpa using h1, ?_⟩
  rcases h2 with ⟨h3, _⟩ | ⟨g', cap', cur, h3, h4, h5, h6, h7, h8, h9⟩
  · cases h3
  · injection h3 with e1 e2 e3
    injection e1 with e1
    injection e1 with e1
    subst e1 e2 e3
    refine .inr ⟨g, cap, cur.setIfInBounds i u, rfl, h4, Bk.set_ h5 i u, h6, h7, by simpa using h8, ?_⟩
    rw [Array.toList_setIfInBounds, List.take_set, h9]
end Go.Cas
