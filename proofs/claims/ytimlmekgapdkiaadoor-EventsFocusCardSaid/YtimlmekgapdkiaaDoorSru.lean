/- plain: stable sorting in place, by keys; plain: two sorted parts become one -/
import Derived.Test.YtimlmekgapdkiaaDoorbase
namespace Go.Cas
set_option linter.unusedVariables false
set_option linter.unusedSimpArgs false

section
variable {α : Type} (key : α → Int)
/-- one list out of another by moves within [a, b) that are stable -/
structure SM (L L' : List α) (a b : Nat) : Prop where
  len : L'.length = L.length
  out : ∀ i, i < a ∨ b ≤ i → L'[i]? = L[i]?
  mem : ∀ i, a ≤ i → i < b → ∃ j, a ≤ j ∧ j < b ∧ L'[i]? = L[j]?
  stb : ∀ s : Int, L'.filter (fun x => decide (key x = s)) = L.filter (fun x => decide (key x = s))
theorem SM.refl (L : List α) (a b : Nat) : SM key L L a b := ⟨rfl, fun _ _ => rfl, fun i h1 h2 => ⟨i, h1, h2, rfl⟩, fun _ => rfl⟩
variable {key}
theorem SM.trans {L L' L2 : List α} {a b c d : Nat} (h : SM key L L' a b) (k : SM key L' L2 c d) (hc : a ≤ c) (hd : d ≤ b) : SM key L L2 a b := by
  refine ⟨k.len.trans h.len, fun i hi => (k.out i (by omega)).trans (h.out i hi), fun i h1 h2 => ?_, fun s => (k.stb s).trans (h.stb s)⟩
  by_cases hi : c ≤ i ∧ i < d
  · obtain ⟨j, j1, j2, j3⟩ := k.mem i hi.1 hi.2
    obtain ⟨q, q1, q2, q3⟩ := h.mem j (by omega) (by omega)
    exact ⟨q, q1, q2, j3.trans q3⟩
  · obtain ⟨q, q1, q2, q3⟩ := h.mem i h1 h2
    exact ⟨q, q1, q2, (k.out i (by omega)).trans q3⟩
theorem SM.wide {L L' : List α} {a b c d : Nat} (h : SM key L L' c d) (hc : a ≤ c) (hd : d ≤ b) : SM key L L' a b := (SM.refl key L a b).trans h hc hd
variable (key) in
def ky (L : List α) (i : Nat) : Int := (L[i]?.map key).getD 0
theorem ky_some {L : List α} {i : Nat} {x : α} (h : L[i]? = some x) : ky key L i = key x := by unfold ky; rw [h]; rfl
theorem ky_congr {L L' : List α} {i j : Nat} (h : L'[i]? = L[j]?) : ky key L' i = ky key L j := by unfold ky; rw [h]
variable (key) in
def Srt (L : List α) (a b : Nat) : Prop := ∀ i j, a ≤ i → i ≤ j → j < b → ky key L i ≤ ky key L j
theorem Srt.sub {L : List α} {a b c d : Nat} (h : Srt key L a b) (hc : a ≤ c) (hd : d ≤ b) : Srt key L c d := fun i j h1 h2 h3 => h i j (by omega) h2 (by omega)
theorem Srt.keep {L L' : List α} {a b c d : Nat} (h : Srt key L a b) (k : SM key L L' c d) (hd : b ≤ c ∨ d ≤ a) : Srt key L' a b := fun i j h1 h2 h3 => by
  rw [ky_congr (k.out i (by omega)), ky_congr (k.out j (by omega))]; exact h i j h1 h2 h3
/-- two change places -/
def swp (L : List α) (i j : Nat) (x y : α) : List α := (L.set i y).set j x
theorem swp_get {L : List α} {i j : Nat} {x y : α} (hi : L[i]? = some x) (hj : L[j]? = some y) (k : Nat) : (swp L i j x y)[k]? = if k = j then L[i]? else if k = i then L[j]? else L[k]? := by
  have h1 := (List.getElem?_eq_some_iff.1 hi).1
  have h2 := (List.getElem?_eq_some_iff.1 hj).1
  unfold swp
  by_cases e : k = j
  · subst e
    rw [if_pos rfl, List.getElem?_set_self (by simpa using h2), hi]
  · rw [if_neg e, List.getElem?_set_ne (Ne.symm e)]
    by_cases e2 : k = i
    · subst e2
      rw [if_pos rfl, List.getElem?_set_self h1, hj]
    · rw [if_neg e2, List.getElem?_set_ne (Ne.symm e2)]
theorem swp_len (L : List α) (i j : Nat) (x y : α) : (swp L i j x y).length = L.length := by simp [swp]
theorem swp_next {L : List α} {i : Nat} {x y : α} (hi : L[i]? = some x) (hj : L[i + 1]? = some y) : L = L.take i ++ ([x, y] ++ L.drop (i + 2)) ∧ swp L i (i + 1) x y = L.take i ++ ([y, x] ++ L.drop (i + 2)) := by
  obtain ⟨h1, e1⟩ := List.getElem?_eq_some_iff.1 hi
  obtain ⟨h2, e2⟩ := List.getElem?_eq_some_iff.1 hj
  have e : L = L.take i ++ ([x, y] ++ L.drop (i + 2)) := by
    conv => lhs; rw [← List.take_append_drop i L]
    congr 1
    rw [List.drop_eq_getElem_cons h1, List.drop_eq_getElem_cons h2, e1, e2]; rfl
  refine ⟨e, ?_⟩
  have hl : (L.take i).length = i := by simp; omega
  unfold swp
  conv => lhs; rw [e]
  rw [List.set_append_right _ _ (by omega), hl, List.set_append_right _ _ (by omega), hl]
  simp
theorem SM.swap {L : List α} {i a b : Nat} {x y : α} (hi : L[i]? = some x) (hj : L[i + 1]? = some y) (hk : key y < key x) (ha : a ≤ i) (hb : i + 1 < b) : SM key L (swp L i (i + 1) x y) a b := by
  refine ⟨swp_len _ _ _ _ _, fun k hk => ?_, fun k h1 h2 => ?_, fun s => ?_⟩
  · rw [swp_get hi hj, if_neg (by omega), if_neg (by omega)]
  · rw [swp_get hi hj]
    by_cases e : k = i + 1
    · exact ⟨i, by omega, by omega, by rw [if_pos e]⟩
    · by_cases e2 : k = i
      · exact ⟨i + 1, by omega, by omega, by rw [if_neg e, if_pos e2]⟩
      · exact ⟨k, h1, h2, by rw [if_neg e, if_neg e2]⟩
  · obtain ⟨e1, e2⟩ := swp_next hi hj
    rw [e2]
    conv => rhs; rw [e1]
    simp only [List.filter_append, List.filter_cons, List.filter_nil]
    congr 2
    by_cases h1 : key x = s
    · have h2 : ¬ key y = s := by omega
      simp [h1, h2]
    · simp [h1]
theorem ky_swp {L : List α} {i j : Nat} {x y : α} (hi : L[i]? = some x) (hj : L[j]? = some y) (k : Nat) : ky key (swp L i j x y) k = if k = j then ky key L i else if k = i then ky key L j else ky key L k := by
  have := swp_get hi hj k
  unfold ky
  rw [this]
  split
  · rfl
  · split <;> rfl
/-- insertion: all but the j-th stand in order, and it is ahead of those behind it -/
structure Ins (key : α → Int) (L : List α) (a j i : Nat) : Prop where
  srt : ∀ p q, a ≤ p → p ≤ q → q ≤ i → p ≠ j → q ≠ j → ky key L p ≤ ky key L q
  low : ∀ q, j < q → q ≤ i → ky key L j ≤ ky key L q
theorem Ins.start {L : List α} {a i : Nat} (h : Srt key L a i) : Ins key L a i i := ⟨fun p q h1 h2 h3 h4 h5 => h p q h1 h2 (by omega), fun q h1 h2 => by omega⟩
theorem Ins.done {L : List α} {a j i : Nat} (h : Ins key L a j i) (hj : j ≤ i) (hs : j ≤ a ∨ ky key L (j - 1) ≤ ky key L j) : Srt key L a (i + 1) := by
  intro p q h1 h2 h3
  by_cases e1 : p = j
  · by_cases e2 : q = j
    · rw [e1, e2]; exact Int.le_refl _
    · rw [e1]; exact h.low q (by omega) (by omega)
  · by_cases e2 : q = j
    · rw [e2]
      rcases hs with hs | hs
      · omega
      · exact Int.le_trans (h.srt p (j - 1) h1 (by omega) (by omega) e1 (by omega)) hs
    · exact h.srt p q h1 h2 (by omega) e1 e2
theorem Ins.step {L : List α} {a j i : Nat} {x y : α} (h : Ins key L a (j + 1) i) (hj : j + 1 ≤ i) (ha : a ≤ j) (hx : L[j]? = some x) (hy : L[j + 1]? = some y) (hlt : key y < key x) : Ins key (swp L j (j + 1) x y) a j i := by
  have kx := ky_some (key := key) hx
  have k_y := ky_some (key := key) hy
  constructor
  · intro p q h1 h2 h3 h4 h5
    rw [ky_swp hx hy, ky_swp hx hy]
    by_cases e1 : p = j + 1
    · rw [if_pos e1]
      by_cases e2 : q = j + 1
      · rw [if_pos e2]; exact Int.le_refl _
      · rw [if_neg e2, if_neg (by omega)]; exact h.srt j q (by omega) (by omega) h3 (by omega) (by omega)
    · rw [if_neg e1, if_neg (by omega)]
      by_cases e2 : q = j + 1
      · rw [if_pos e2]; exact h.srt p j (by omega) (by omega) (by omega) (by omega) (by omega)
      · rw [if_neg e2, if_neg (by omega)]; exact h.srt p q h1 h2 h3 (by omega) (by omega)
  · intro q h1 h2
    rw [ky_swp hx hy, ky_swp hx hy, if_neg (by omega), if_pos rfl]
    by_cases e : q = j + 1
    · rw [if_pos e, kx, k_y]; omega
    · rw [if_neg e, if_neg (by omega)]; exact h.low q (by omega) h2
/-- parts of a list change places -/
def rotL (L : List α) (a m b : Nat) : List α := L.take a ++ ((L.drop m).take (b - m) ++ ((L.drop a).take (m - a) ++ L.drop b))
theorem rot_self {L : List α} {a m b : Nat} (h1 : a ≤ m) (h2 : m ≤ b) : L = L.take a ++ ((L.drop a).take (m - a) ++ ((L.drop m).take (b - m) ++ L.drop b)) := by
  conv => lhs; rw [← List.take_append_drop a L]
  congr 1
  conv => lhs; rw [← List.take_append_drop (m - a) (L.drop a)]
  congr 1
  rw [List.drop_drop, show a + (m - a) = m by omega]
  conv => lhs; rw [← List.take_append_drop (b - m) (L.drop m)]
  congr 1
  rw [List.drop_drop, show m + (b - m) = b by omega]
def rix (a m b q : Nat) : Nat := if q < a ∨ b ≤ q then q else if q < a + (b - m) then q + (m - a) else q - (b - m)
theorem rot_get {L : List α} {a m b : Nat} (h1 : a ≤ m) (h2 : m ≤ b) (h3 : b ≤ L.length) (q : Nat) : (rotL L a m b)[q]? = L[rix a m b q]? := by
  have l1 : (L.take a).length = a := by simp; omega
  have l2 : ((L.drop m).take (b - m)).length = b - m := by simp; omega
  have l3 : ((L.drop a).take (m - a)).length = m - a := by simp; omega
  unfold rotL rix
  by_cases c1 : q < a
  · rw [List.getElem?_append_left (by omega), if_pos (by omega), List.getElem?_take_of_lt c1]
  · rw [List.getElem?_append_right (by omega), l1]
    by_cases c2 : q < a + (b - m)
    · rw [List.getElem?_append_left (by omega), if_neg (by omega), if_pos c2, List.getElem?_take_of_lt (by omega), List.getElem?_drop]
      congr 1; omega
    · rw [List.getElem?_append_right (by omega), l2]
      by_cases c3 : q < b
      · rw [List.getElem?_append_left (by omega), if_neg (by omega), if_neg c2, List.getElem?_take_of_lt (by omega), List.getElem?_drop]
        congr 1; omega
      · rw [List.getElem?_append_right (by omega), l3, if_pos (by omega), List.getElem?_drop]
        congr 1; omega
theorem rot_ext {L L' : List α} {a m b : Nat} (h1 : a ≤ m) (h2 : m ≤ b) (h3 : b ≤ L.length) (h : ∀ q, L'[q]? = L[rix a m b q]?) : L' = rotL L a m b := by
  apply List.ext_getElem?
  intro q
  rw [h, rot_get h1 h2 h3]
theorem rotL_len {L : List α} {a m b : Nat} (h1 : a ≤ m) (h2 : m ≤ b) (h3 : b ≤ L.length) : (rotL L a m b).length = L.length := by
  unfold rotL
  simp
  omega
theorem SM.rot {L : List α} {a m b c d : Nat} (h1 : a ≤ m) (h2 : m ≤ b) (h3 : b ≤ L.length) (hk : ∀ i j, a ≤ i → i < m → m ≤ j → j < b → ky key L j < ky key L i) (hc : c ≤ a) (hd : b ≤ d) : SM key L (rotL L a m b) c d := by
  refine SM.wide ⟨rotL_len h1 h2 h3, fun i hi => ?_, fun i i1 i2 => ?_, fun s => ?_⟩ hc hd
  · rw [rot_get h1 h2 h3]; unfold rix; rw [if_pos hi]
  · rw [rot_get h1 h2 h3]
    refine ⟨_, ?_, ?_, rfl⟩ <;> (unfold rix; rw [if_neg (by omega)]; split <;> omega)
  · conv => rhs; rw [rot_self (L := L) h1 h2]
    unfold rotL
    simp only [List.filter_append]
    congr 1
    rw [← List.append_assoc, ← List.append_assoc]
    congr 1
    have get : ∀ (p n : Nat) (x : α), x ∈ (L.drop p).take n → ∃ i, p ≤ i ∧ i < p + n ∧ L[i]? = some x := by
      intro p n x hx
      obtain ⟨i, hi⟩ := List.getElem?_of_mem hx
      have hl := (List.getElem?_eq_some_iff.1 hi).1
      simp at hl
      rw [List.getElem?_take_of_lt (by omega), List.getElem?_drop] at hi
      exact ⟨p + i, by omega, by omega, hi⟩
    by_cases hA : ((L.drop a).take (m - a)).filter (fun x => decide (key x = s)) = []
    · rw [hA]; simp
    · have hB : ((L.drop m).take (b - m)).filter (fun x => decide (key x = s)) = [] := by
        rw [List.filter_eq_nil_iff]
        intro y hy
        obtain ⟨x, hx⟩ := List.exists_mem_of_ne_nil _ hA
        rw [List.mem_filter] at hx
        obtain ⟨i, i1, i2, i3⟩ := get a (m - a) x hx.1
        obtain ⟨j, j1, j2, j3⟩ := get m (b - m) y hy
        have := hk i j i1 (by omega) j1 (by omega)
        rw [ky_some i3, ky_some j3] at this
        have hx2 := of_decide_eq_true hx.2
        simp; omega
      rw [hB]; simp
/-- what swapping two ranges leaves -/
def six (a b n q : Nat) : Nat := if a ≤ q ∧ q < a + n then q + (b - a) else if b ≤ q ∧ q < b + n then q - (b - a) else q
theorem six_zero (a b q : Nat) : six a b 0 q = q := by unfold six; rw [if_neg (by omega), if_neg (by omega)]
theorem six_succ {a b n q : Nat} (h : a + n < b) : six a b (n + 1) q = if q = b + n then a + n else if q = a + n then b + n else six a b n q := by
  unfold six
  repeat' split
  all_goals omega
theorem six_at {a b n : Nat} (h : a + n < b) : six a b n (a + n) = a + n ∧ six a b n (b + n) = b + n := by
  unfold six
  constructor
  · rw [if_neg (by omega), if_neg (by omega)]
  · rw [if_neg (by omega), if_neg (by omega)]
/-- the turning of a rotation -/
theorem rix_swap1 {m i j q : Nat} (h : j < i) (him : i ≤ m) : six (m - i) m j (rix (m - (i - j)) m (m + j) q) = rix (m - i) m (m + j) q ∧ True := by
  refine ⟨?_, trivial⟩
  unfold six rix
  repeat' split
  all_goals omega
theorem rix_swap2 {m i j q : Nat} (h : i < j) (him : i ≤ m) : six (m - i) (m + j - i) i (rix (m - i) m (m + (j - i)) q) = rix (m - i) m (m + j) q := by
  unfold six rix
  repeat' split
  all_goals omega
theorem rix_swap3 {m i q : Nat} (him : i ≤ m) : six (m - i) m i q = rix (m - i) m (m + i) q := by
  unfold six rix
  repeat' split
  all_goals omega
end
end Go.Cas
namespace Go.Cas
set_option linter.unusedVariables false
set_option linter.unusedSimpArgs false
section
variable {α : Type} {key : α → Int}
theorem ky_rot {L : List α} {a m b : Nat} (h1 : a ≤ m) (h2 : m ≤ b) (h3 : b ≤ L.length) (q : Nat) : ky key (rotL L a m b) q = ky key L (rix a m b q) := ky_congr (rot_get h1 h2 h3 q)
/-- where two parts are cut so that their halves may be merged apart -/
structure Cutt (key : α → Int) (L : List α) (a m b s e : Nat) : Prop where
  h1 : a ≤ s
  h2 : s ≤ m
  h3 : m ≤ e
  h4 : e ≤ b
  lo : s < m → m < e → ky key L (e - 1) < ky key L s
  hi : a < s → e < b → ky key L (s - 1) ≤ ky key L e
section
variable {L : List α} {a m b s e : Nat}
theorem Cutt.sm (c : Cutt key L a m b s e) (hA : Srt key L a m) (hB : Srt key L m b) (hb : b ≤ L.length) : SM key L (rotL L s m e) a b := by
  obtain ⟨c1, c2, c3, c4, c5, c6⟩ := c
  refine SM.rot c2 c3 (by omega) (fun i j i1 i2 j1 j2 => ?_) c1 c4
  have h1 := hA s i c1 i1 i2
  have h2 := hB j (e - 1) j1 (by omega) (by omega)
  have h3 := c5 (by omega) (by omega)
  omega
theorem Cutt.left (c : Cutt key L a m b s e) (hA : Srt key L a m) (hB : Srt key L m b) (hb : b ≤ L.length) : Srt key (rotL L s m e) a s ∧ Srt key (rotL L s m e) s (s + (e - m)) ∧ Srt key (rotL L s m e) (s + (e - m)) e ∧ Srt key (rotL L s m e) e b := by
  obtain ⟨c1, c2, c3, c4, c5, c6⟩ := c
  refine ⟨?_, ?_, ?_, ?_⟩ <;> intro i j i1 i2 i3 <;> rw [ky_rot c2 c3 (by omega), ky_rot c2 c3 (by omega)]
  · rw [show rix s m e i = i by unfold rix; rw [if_pos (by omega)], show rix s m e j = j by unfold rix; rw [if_pos (by omega)]]
    exact hA i j i1 i2 (by omega)
  · rw [show rix s m e i = i + (m - s) by unfold rix; rw [if_neg (by omega), if_pos (by omega)], show rix s m e j = j + (m - s) by unfold rix; rw [if_neg (by omega), if_pos (by omega)]]
    exact hB _ _ (by omega) (by omega) (by omega)
  · rw [show rix s m e i = i - (e - m) by unfold rix; rw [if_neg (by omega), if_neg (by omega)], show rix s m e j = j - (e - m) by unfold rix; rw [if_neg (by omega), if_neg (by omega)]]
    exact hA _ _ (by omega) (by omega) (by omega)
  · rw [show rix s m e i = i by unfold rix; rw [if_pos (by omega)], show rix s m e j = j by unfold rix; rw [if_pos (by omega)]]
    exact hB i j (by omega) i2 i3
theorem Cutt.apart (c : Cutt key L a m b s e) (hA : Srt key L a m) (hB : Srt key L m b) (hb : b ≤ L.length) : ∀ i j, a ≤ i → i < s + (e - m) → s + (e - m) ≤ j → j < b → ky key (rotL L s m e) i ≤ ky key (rotL L s m e) j := by
  obtain ⟨c1, c2, c3, c4, c5, c6⟩ := c
  intro i j i1 i2 j1 j2
  rw [ky_rot c2 c3 (by omega), ky_rot c2 c3 (by omega)]
  by_cases hi : i < s
  · rw [show rix s m e i = i by unfold rix; rw [if_pos (by omega)]]
    by_cases hj : j < e
    · rw [show rix s m e j = j - (e - m) by unfold rix; rw [if_neg (by omega), if_neg (by omega)]]
      exact hA _ _ (by omega) (by omega) (by omega)
    · rw [show rix s m e j = j by unfold rix; rw [if_pos (by omega)]]
      have h1 := hA i (s - 1) i1 (by omega) (by omega)
      have h2 := hB e j (by omega) (by omega) j2
      have h3 := c6 (by omega) (by omega)
      omega
  · rw [show rix s m e i = i + (m - s) by unfold rix; rw [if_neg (by omega), if_pos (by omega)]]
    by_cases hj : j < e
    · rw [show rix s m e j = j - (e - m) by unfold rix; rw [if_neg (by omega), if_neg (by omega)]]
      have h1 := hA s (j - (e - m)) (by omega) (by omega) (by omega)
      have h2 := hB (i + (m - s)) (e - 1) (by omega) (by omega) (by omega)
      have h3 := c5 (by omega) (by omega)
      omega
    · rw [show rix s m e j = j by unfold rix; rw [if_pos (by omega)]]
      exact hB _ _ (by omega) (by omega) j2
theorem Srt.one (L : List α) (a b : Nat) (h : b ≤ a + 1) : Srt key L a b := fun i j h1 h2 h3 => by
  obtain rfl : i = j := by omega
  exact Int.le_refl _
/-- two halves, each sorted, the one not behind the other -/
theorem halves {L1 L2 L3 : List α} {a mid b : Nat} (hm : a ≤ mid ∧ mid ≤ b) (hap : ∀ i j, a ≤ i → i < mid → mid ≤ j → j < b → ky key L1 i ≤ ky key L1 j) (k2 : SM key L1 L2 a mid) (s2 : Srt key L2 a mid) (k3 : SM key L2 L3 mid b) (s3 : Srt key L3 mid b) : Srt key L3 a b := by
  intro i j i1 i2 i3
  by_cases hi : i < mid
  · have e1 := ky_congr (key := key) (k3.out i (by omega))
    by_cases hj : j < mid
    · rw [e1, ky_congr (key := key) (k3.out j (by omega))]
      exact s2 i j i1 i2 hj
    · obtain ⟨p, p1, p2, p3⟩ := k2.mem i i1 hi
      obtain ⟨q, q1, q2, q3⟩ := k3.mem j (by omega) i3
      rw [e1, ky_congr (key := key) p3, ky_congr (key := key) q3, ky_congr (key := key) (k2.out q (by omega))]
      exact hap p q p1 p2 q1 q2
  · exact s3 i j (by omega) i2 i3
/-- the search for the cut -/
structure Srch (key : α → Int) (L : List α) (p lo hi s r : Nat) : Prop where
  h1 : lo ≤ s
  h2 : s ≤ r
  h3 : r ≤ hi
  low : ∀ c, lo ≤ c → c < s → ky key L c ≤ ky key L (p - c)
  high : ∀ c, r ≤ c → c < hi → ky key L (p - c) < ky key L c
theorem Srch.start (L : List α) (p lo hi : Nat) (h : lo ≤ hi) : Srch key L p lo hi lo hi := ⟨by omega, h, by omega, fun c _ _ => by omega, fun c _ _ => by omega⟩
/-- bounds of the search -/
theorem srch_in {a m b mid lo hi : Nat} (ham : a < m) (hmb : m < b) (hmid : mid = (a + b) / 2) (hlo : lo = if mid < m then mid + m - b else a) (hhi : hi = if mid < m then mid else m) : a ≤ lo ∧ lo ≤ hi ∧ hi ≤ m ∧ a < mid + 1 ∧ mid < b ∧ ∀ c, lo ≤ c → c < hi → m ≤ mid + m - 1 - c ∧ mid + m - 1 - c < b ∧ a ≤ c ∧ c < m := by
  by_cases h : mid < m
  · rw [if_pos h] at hlo hhi
    exact ⟨by omega, by omega, by omega, by omega, by omega, fun c h1 h2 => by omega⟩
  · rw [if_neg h] at hlo hhi
    exact ⟨by omega, by omega, by omega, by omega, by omega, fun c h1 h2 => by omega⟩
theorem Srch.up {L : List α} {mid lo hi s r c : Nat} (h : Srch key L (mid + m - 1) lo hi s r) (hA : Srt key L a m) (hB : Srt key L m b) (hin : ∀ c, lo ≤ c → c < hi → m ≤ mid + m - 1 - c ∧ mid + m - 1 - c < b ∧ a ≤ c ∧ c < m) (hc : s ≤ c ∧ c < r) (hk : ky key L c ≤ ky key L (mid + m - 1 - c)) : Srch key L (mid + m - 1) lo hi (c + 1) r := by
  have b1 := h.h1; have b2 := h.h3
  refine ⟨by omega, by omega, h.h3, fun q q1 q2 => ?_, h.high⟩
  have i1 := hin q q1 (by omega); have i2 := hin c (by omega) (by omega)
  have k1 := hA q c (by omega) (by omega) (by omega)
  have k2 := hB (mid + m - 1 - c) (mid + m - 1 - q) (by omega) (by omega) (by omega)
  omega
theorem Srch.down {L : List α} {mid lo hi s r c : Nat} (h : Srch key L (mid + m - 1) lo hi s r) (hA : Srt key L a m) (hB : Srt key L m b) (hin : ∀ c, lo ≤ c → c < hi → m ≤ mid + m - 1 - c ∧ mid + m - 1 - c < b ∧ a ≤ c ∧ c < m) (hc : s ≤ c ∧ c < r) (hk : ky key L (mid + m - 1 - c) < ky key L c) : Srch key L (mid + m - 1) lo hi s c := by
  have b1 := h.h1; have b2 := h.h3
  refine ⟨h.h1, hc.1, by omega, h.low, fun q q1 q2 => ?_⟩
  have i1 := hin q (by omega) q2; have i2 := hin c (by omega) (by omega)
  have k1 := hA c q (by omega) (by omega) (by omega)
  have k2 := hB (mid + m - 1 - q) (mid + m - 1 - c) (by omega) (by omega) (by omega)
  omega
theorem Srch.cutt {L : List α} {mid lo hi s : Nat} (h : Srch key L (mid + m - 1) lo hi s s) (ham : a < m) (hmb : m < b) (hmid : mid = (a + b) / 2) (hlo : lo = if mid < m then mid + m - b else a) (hhi : hi = if mid < m then mid else m) : Cutt key L a m b s (mid + m - s) ∧ s + (mid + m - s - m) = mid := by
  obtain ⟨g1, g2, g3, g4, g5, g6⟩ := srch_in ham hmb hmid hlo hhi
  obtain ⟨h1, _, h3, h4, h5⟩ := h
  have key1 : s ≤ mid ∧ mid + m - s ≤ b ∧ (hi ≤ s → s = m ∨ mid + m - s = m) ∧ (s ≤ lo → s = a ∨ mid + m - s = b) := by
    by_cases hc : mid < m
    · rw [if_pos hc] at hlo hhi; omega
    · rw [if_neg hc] at hlo hhi; omega
  refine ⟨⟨by omega, by omega, by omega, by omega, fun h6 h7 => ?_, fun h6 h7 => ?_⟩, by omega⟩
  · have := h5 s (Nat.le_refl _) (by omega)
    rw [show mid + m - 1 - s = mid + m - s - 1 by omega] at this
    exact this
  · have := h4 (s - 1) (by omega) (by omega)
    rw [show mid + m - 1 - (s - 1) = mid + m - s by omega] at this
    exact this
end
/-- the first one goes among the rest -/
structure Fst (key : α → Int) (L0 L : List α) (a b k : Nat) : Prop where
  sm : SM key L0 L a b
  at_ : L[k]? = L0[a]?
  low : ∀ q, a ≤ q → q < k → L[q]? = L0[q + 1]?
  high : ∀ q, k < q → L[q]? = L0[q]?
theorem Fst.start (L : List α) (a b : Nat) : Fst key L L a b a := ⟨SM.refl key L a b, rfl, fun q _ _ => by omega, fun _ _ => rfl⟩
theorem Fst.step {L0 L : List α} {a b k : Nat} {x y : α} (h : Fst key L0 L a b k) (ha : a ≤ k) (hb : k + 1 < b) (hx : L[k]? = some x) (hy : L[k + 1]? = some y) (hlt : key y < key x) : Fst key L0 (swp L k (k + 1) x y) a b (k + 1) := by
  refine ⟨h.sm.trans (SM.swap hx hy hlt ha hb) (Nat.le_refl _) (Nat.le_refl _), ?_, fun q q1 q2 => ?_, fun q q1 => ?_⟩
  · rw [swp_get hx hy, if_pos rfl, h.at_]
  · rw [swp_get hx hy, if_neg (by omega)]
    by_cases e : q = k
    · rw [if_pos e, h.high _ (by omega), e]
    · rw [if_neg e]; exact h.low q q1 (by omega)
  · rw [swp_get hx hy, if_neg (by omega), if_neg (by omega)]; exact h.high q (by omega)
theorem Fst.done {L0 L : List α} {a b k i : Nat} (h : Fst key L0 L a b k) (hk : k + 1 = i) (hi : a + 1 ≤ i ∧ i ≤ b) (hs : Srt key L0 (a + 1) b) (hlo : ∀ q, a < q → q < i → ky key L0 q < ky key L0 a) (hhi : ∀ q, i ≤ q → q < b → ky key L0 a ≤ ky key L0 q) : Srt key L a b := by
  intro p q p1 p2 p3
  have e : ∀ q, a ≤ q → q < b → (q < k ∧ ky key L q = ky key L0 (q + 1)) ∨ (q = k ∧ ky key L q = ky key L0 a) ∨ (k < q ∧ ky key L q = ky key L0 q) := fun q q1 q2 => by
    rcases Nat.lt_trichotomy q k with c | c | c
    · exact .inl ⟨c, ky_congr (h.low q q1 c)⟩
    · exact .inr (.inl ⟨c, by rw [c]; exact ky_congr h.at_⟩)
    · exact .inr (.inr ⟨c, ky_congr (h.high q c)⟩)
  rcases e p p1 (by omega) with ⟨c1, e1⟩ | ⟨c1, e1⟩ | ⟨c1, e1⟩ <;> rcases e q (by omega) p3 with ⟨c2, e2⟩ | ⟨c2, e2⟩ | ⟨c2, e2⟩ <;> rw [e1, e2]
  · exact hs _ _ (by omega) (by omega) (by omega)
  · exact Int.le_of_lt (hlo _ (by omega) (by omega))
  · exact hs _ _ (by omega) (by omega) (by omega)
  · omega
  · exact Int.le_refl _
  · exact hhi _ (by omega) p3
  · omega
  · omega
  · exact hs _ _ (by omega) (by omega) (by omega)
/-- the last one goes among those ahead -/
structure Lst (key : α → Int) (L0 L : List α) (a b k : Nat) : Prop where
  sm : SM key L0 L a b
  at_ : L[k]? = L0[b - 1]?
  high : ∀ q, k < q → q < b → L[q]? = L0[q - 1]?
  low : ∀ q, q < k → L[q]? = L0[q]?
theorem Lst.start (L : List α) (a b : Nat) : Lst key L L a b (b - 1) := ⟨SM.refl key L a b, rfl, fun q _ _ => by omega, fun _ _ => rfl⟩
theorem Lst.step {L0 L : List α} {a b k : Nat} {x y : α} (h : Lst key L0 L a b (k + 1)) (ha : a ≤ k) (hb : k + 1 < b) (hx : L[k]? = some x) (hy : L[k + 1]? = some y) (hlt : key y < key x) : Lst key L0 (swp L k (k + 1) x y) a b k := by
  refine ⟨h.sm.trans (SM.swap hx hy hlt ha hb) (Nat.le_refl _) (Nat.le_refl _), ?_, fun q q1 q2 => ?_, fun q q1 => ?_⟩
  · rw [swp_get hx hy, if_neg (by omega), if_pos rfl, h.at_]
  · rw [swp_get hx hy]
    by_cases e : q = k + 1
    · rw [if_pos e, h.low k (by omega), e]; rfl
    · rw [if_neg e, if_neg (by omega)]; exact h.high q (by omega) q2
  · rw [swp_get hx hy, if_neg (by omega), if_neg (by omega)]; exact h.low q (by omega)
theorem Lst.done {L0 L : List α} {a b k : Nat} (h : Lst key L0 L a b k) (hk : a ≤ k ∧ k < b) (hs : Srt key L0 a (b - 1)) (hlo : ∀ q, a ≤ q → q < k → ky key L0 q ≤ ky key L0 (b - 1)) (hhi : ∀ q, k ≤ q → q < b - 1 → ky key L0 (b - 1) < ky key L0 q) : Srt key L a b := by
  intro p q p1 p2 p3
  have e : ∀ q, a ≤ q → q < b → (q < k ∧ ky key L q = ky key L0 q) ∨ (q = k ∧ ky key L q = ky key L0 (b - 1)) ∨ (k < q ∧ ky key L q = ky key L0 (q - 1)) := fun q q1 q2 => by
    rcases Nat.lt_trichotomy q k with c | c | c
    · exact .inl ⟨c, ky_congr (h.low q c)⟩
    · exact .inr (.inl ⟨c, by rw [c]; exact ky_congr h.at_⟩)
    · exact .inr (.inr ⟨c, ky_congr (h.high q c q2)⟩)
  rcases e p p1 (by omega) with ⟨c1, e1⟩ | ⟨c1, e1⟩ | ⟨c1, e1⟩ <;> rcases e q (by omega) p3 with ⟨c2, e2⟩ | ⟨c2, e2⟩ | ⟨c2, e2⟩ <;> rw [e1, e2]
  · exact hs _ _ p1 p2 (by omega)
  · exact hlo _ p1 c1
  · exact hs _ _ (by omega) (by omega) (by omega)
  · omega
  · exact Int.le_refl _
  · exact Int.le_of_lt (hhi _ (by omega) (by omega))
  · omega
  · omega
  · exact hs _ _ (by omega) (by omega) (by omega)
/-- a search among sorted ones -/
theorem ky_mono {L : List α} {a b h : Nat} {v : Int} (hs : Srt key L a b) (h1 : h < b) (hk : ky key L h < v) : ∀ q, a ≤ q → q ≤ h → ky key L q < v := fun q q1 q2 => by
  have := hs q h q1 q2 h1; omega
/-- sorted, of the same parts: in buckets -/
theorem bucket {L L' : List α} {a b : Nat} (h : SM key L L' a b) (hs : Srt key L' 0 L'.length) (s : Int) : L'.filter (fun x => decide (key x = s)) = L.filter (fun x => decide (key x = s)) := h.stb s
end
end Go.Cas
