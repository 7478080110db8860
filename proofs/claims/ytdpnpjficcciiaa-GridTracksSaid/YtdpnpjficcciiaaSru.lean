/- plain: two sorted parts become one -/
import Derived.Test.YtdpnpjficcciiaaSrt
namespace Go.Cas
set_option linter.unusedVariables false
set_option linter.unusedSimpArgs false
section
variable {α : Type} {key : α → Int}
theorem ky_rot {L : List α} {a m b : Nat} (h1 : a ≤ m) (h2 : m ≤ b) (h3 : b ≤ L.length) (q : Nat) : ky key (rotL L a m b) q = ky key L (rix a m b q) := ky_congr (rot_get h1 h2 h3 q)
/-- where two parts are cut so that their halves may be merged apart -/
structure Cutt (key : α → Int) (L : List α) (a m b s e : Nat) : Prop where
  h1 : a ≤ s
  h2 : s ≤ m
  h3 : m ≤ e
  h4 : e ≤ b
  lo : s < m → m < e → ky key L (e - 1) < ky key L s
  hi : a < s → e < b → ky key L (s - 1) ≤ ky key L e
section
variable {L : List α} {a m b s e : Nat}
theorem Cutt.sm (c : Cutt key L a m b s e) (hA : Srt key L a m) (hB : Srt key L m b) (hb : b ≤ L.length) : SM key L (rotL L s m e) a b := by
  obtain ⟨c1, c2, c3, c4, c5, c6⟩ := c
  refine SM.rot c2 c3 (by omega) (fun i j i1 i2 j1 j2 => ?_) c1 c4
  have h1 := hA s i c1 i1 i2
  have h2 := hB j (e - 1) j1 (by omega) (by omega)
  have h3 := c5 (by omega) (by omega)
  omega
theorem Cutt.left (c : Cutt key L a m b s e) (hA : Srt key L a m) (hB : Srt key L m b) (hb : b ≤ L.length) : Srt key (rotL L s m e) a s ∧ Srt key (rotL L s m e) s (s + (e - m)) ∧ Srt key (rotL L s m e) (s + (e - m)) e ∧ Srt key (rotL L s m e) e b := by
  obtain ⟨c1, c2, c3, c4, c5, c6⟩ := c
  refine ⟨?_, ?_, ?_, ?_⟩ <;> intro i j i1 i2 i3 <;> rw [ky_rot c2 c3 (by omega), ky_rot c2 c3 (by omega)]
  · rw [show rix s m e i = i by unfold rix; rw [if_pos (by omega)], show rix s m e j = j by unfold rix; rw [if_pos (by omega)]]
    exact hA i j i1 i2 (by omega)
  · rw [show rix s m e i = i + (m - s) by unfold rix; rw [if_neg (by omega), if_pos (by omega)], show rix s m e j = j + (m - s) by unfold rix; rw [if_neg (by omega), if_pos (by omega)]]
    exact hB _ _ (by omega) (by omega) (by omega)
  · rw [show rix s m e i = i - (e - m) by unfold rix; rw [if_neg (by omega), if_neg (by omega)], show rix s m e j = j - (e - m) by unfold rix; rw [if_neg (by omega), if_neg (by omega)]]
    exact hA _ _ (by omega) (by omega) (by omega)
  · rw [show rix s m e i = i by unfold rix; rw [if_pos (by omega)], show rix s m e j = j by unfold rix; rw [if_pos (by omega)]]
    exact hB i j (by omega) i2 i3
theorem Cutt.apart (c : Cutt key L a m b s e) (hA : Srt key L a m) (hB : Srt key L m b) (hb : b ≤ L.length) : ∀ i j, a ≤ i → i < s + (e - m) → s + (e - m) ≤ j → j < b → ky key (rotL L s m e) i ≤ ky key (rotL L s m e) j := by
  obtain ⟨c1, c2, c3, c4, c5, c6⟩ := c
  intro i j i1 i2 j1 j2
  rw [ky_rot c2 c3 (by omega), ky_rot c2 c3 (by omega)]
  by_cases hi : i < s
  · rw [show rix s m e i = i by unfold rix; rw [if_pos (by omega)]]
    by_cases hj : j < e
    · rw [show rix s m e j = j - (e - m) by unfold rix; rw [if_neg (by omega), if_neg (by omega)]]
      exact hA _ _ (by omega) (by omega) (by omega)
    · rw [show rix s m e j = j by unfold rix; rw [if_pos (by omega)]]
      have h1 := hA i (s - 1) i1 (by omega) (by omega)
      have h2 := hB e j (by omega) (by omega) j2
      have h3 := c6 (by omega) (by omega)
      omega
  · rw [show rix s m e i = i + (m - s) by unfold rix; rw [if_neg (by omega), if_pos (by omega)]]
    by_cases hj : j < e
    · rw [show rix s m e j = j - (e - m) by unfold rix; rw [if_neg (by omega), if_neg (by omega)]]
      have h1 := hA s (j - (e - m)) (by omega) (by omega) (by omega)
      have h2 := hB (i + (m - s)) (e - 1) (by omega) (by omega) (by omega)
      have h3 := c5 (by omega) (by omega)
      omega
    · rw [show rix s m e j = j by unfold rix; rw [if_pos (by omega)]]
      exact hB _ _ (by omega) (by omega) j2
theorem Srt.one (L : List α) (a b : Nat) (h : b ≤ a + 1) : Srt key L a b := fun i j h1 h2 h3 => by
  obtain rfl : i = j := by omega
  exact Int.le_refl _
/-- two halves, each sorted, the one not behind the other -/
theorem halves {L1 L2 L3 : List α} {a mid b : Nat} (hm : a ≤ mid ∧ mid ≤ b) (hap : ∀ i j, a ≤ i → i < mid → mid ≤ j → j < b → ky key L1 i ≤ ky key L1 j) (k2 : SM key L1 L2 a mid) (s2 : Srt key L2 a mid) (k3 : SM key L2 L3 mid b) (s3 : Srt key L3 mid b) : Srt key L3 a b := by
  intro i j i1 i2 i3
  by_cases hi : i < mid
  · have e1 := ky_congr (key := key) (k3.out i (by omega))
    by_cases hj : j < mid
    · rw [e1, ky_congr (key := key) (k3.out j (by omega))]
      exact s2 i j i1 i2 hj
    · obtain ⟨p, p1, p2, p3⟩ := k2.mem i i1 hi
      obtain ⟨q, q1, q2, q3⟩ := k3.mem j (by omega) i3
      rw [e1, ky_congr (key := key) p3, ky_congr (key := key) q3, ky_congr (key := key) (k2.out q (by omega))]
      exact hap p q p1 p2 q1 q2
  · exact s3 i j (by omega) i2 i3
/-- the search for the cut -/
structure Srch (key : α → Int) (L : List α) (p lo hi s r : Nat) : Prop where
  h1 : lo ≤ s
  h2 : s ≤ r
  h3 : r ≤ hi
  low : ∀ c, lo ≤ c → c < s → ky key L c ≤ ky key L (p - c)
  high : ∀ c, r ≤ c → c < hi → ky key L (p - c) < ky key L c
theorem Srch.start (L : List α) (p lo hi : Nat) (h : lo ≤ hi) : Srch key L p lo hi lo hi := ⟨by omega, h, by omega, fun c _ _ => by omega, fun c _ _ => by omega⟩
/-- bounds of the search -/
theorem srch_in {a m b mid lo hi : Nat} (ham : a < m) (hmb : m < b) (hmid : mid = (a + b) / 2) (hlo : lo = if mid < m then mid + m - b else a) (hhi : hi = if mid < m then mid else m) : a ≤ lo ∧ lo ≤ hi ∧ hi ≤ m ∧ a < mid + 1 ∧ mid < b ∧ ∀ c, lo ≤ c → c < hi → m ≤ mid + m - 1 - c ∧ mid + m - 1 - c < b ∧ a ≤ c ∧ c < m := by
  by_cases h : mid < m
  · rw [if_pos h] at hlo hhi
    exact ⟨by omega, by omega, by omega, by omega, by omega, fun c h1 h2 => by omega⟩
  · rw [if_neg h] at hlo hhi
    exact ⟨by omega, by omega, by omega, by omega, by omega, fun c h1 h2 => by omega⟩
theorem Srch.up {L : List α} {mid lo hi s r c : Nat} (h : Srch key L (mid + m - 1) lo hi s r) (hA : Srt key L a m) (hB : Srt key L m b) (hin : ∀ c, lo ≤ c → c < hi → m ≤ mid + m - 1 - c ∧ mid + m - 1 - c < b ∧ a ≤ c ∧ c < m) (hc : s ≤ c ∧ c < r) (hk : ky key L c ≤ ky key L (mid + m - 1 - c)) : Srch key L (mid + m - 1) lo hi (c + 1) r := by
  have b1 := h.h1; have b2 := h.h3
  refine ⟨by omega, by omega, h.h3, fun q q1 q2 => ?_, h.high⟩
  have i1 := hin q q1 (by omega); have i2 := hin c (by omega) (by omega)
  have k1 := hA q c (by omega) (by omega) (by omega)
  have k2 := hB (mid + m - 1 - c) (mid + m - 1 - q) (by omega) (by omega) (by omega)
  omega
theorem Srch.down {L : List α} {mid lo hi s r c : Nat} (h : Srch key L (mid + m - 1) lo hi s r) (hA : Srt key L a m) (hB : Srt key L m b) (hin : ∀ c, lo ≤ c → c < hi → m ≤ mid + m - 1 - c ∧ mid + m - 1 - c < b ∧ a ≤ c ∧ c < m) (hc : s ≤ c ∧ c < r) (hk : ky key L (mid + m - 1 - c) < ky key L c) : Srch key L (mid + m - 1) lo hi s c := by
  have b1 := h.h1; have b2 := h.h3
  refine ⟨h.h1, hc.1, by omega, h.low, fun q q1 q2 => ?_⟩
  have i1 := hin q (by omega) q2; have i2 := hin c (by omega) (by omega)
  have k1 := hA c q (by omega) (by omega) (by omega)
  have k2 := hB (mid + m - 1 - q) (mid + m - 1 - c) (by omega) (by omega) (by omega)
  omega
theorem Srch.cutt {L : List α} {mid lo hi s : Nat} (h : Srch key L (mid + m - 1) lo hi s s) (ham : a < m) (hmb : m < b) (hmid : mid = (a + b) / 2) (hlo : lo = if mid < m then mid + m - b else a) (hhi : hi = if mid < m then mid else m) : Cutt key L a m b s (mid + m - s) ∧ s + (mid + m - s - m) = mid := by
  obtain ⟨g1, g2, g3, g4, g5, g6⟩ := srch_in ham hmb hmid hlo hhi
  obtain ⟨h1, _, h3, h4, h5⟩ := h
  have key1 : s ≤ mid ∧ mid + m - s ≤ b ∧ (hi ≤ s → s = m ∨ mid + m - s = m) ∧ (s ≤ lo → s = a ∨ mid + m - s = b) := by
    by_cases hc : mid < m
    · rw [if_pos hc] at hlo hhi; omega
    · rw [if_neg hc] at hlo hhi; omega
  refine ⟨⟨by omega, by omega, by omega, by omega, fun h6 h7 => ?_, fun h6 h7 => ?_⟩, by omega⟩
  · have := h5 s (Nat.le_refl _) (by omega)
    rw [show mid + m - 1 - s = mid + m - s - 1 by omega] at this
    exact this
  · have := h4 (s - 1) (by omega) (by omega)
    rw [show mid + m - 1 - (s - 1) = mid + m - s by omega] at this
    exact this
end
/-- the first one goes among the rest -/
structure Fst (key : α → Int) (L0 L : List α) (a b k : Nat) : Prop where
  sm : SM key L0 L a b
  at_ : L[k]? = L0[a]?
  low : ∀ q, a ≤ q → q < k → L[q]? = L0[q + 1]?
  high : ∀ q, k < q → L[q]? = L0[q]?
theorem Fst.start (L : List α) (a b : Nat) : Fst key L L a b a := ⟨SM.refl key L a b, rfl, fun q _ _ => by omega, fun _ _ => rfl⟩
theorem Fst.step {L0 L : List α} {a b k : Nat} {x y : α} (h : Fst key L0 L a b k) (ha : a ≤ k) (hb : k + 1 < b) (hx : L[k]? = some x) (hy : L[k + 1]? = some y) (hlt : key y < key x) : Fst key L0 (swp L k (k + 1) x y) a b (k + 1) := by
  refine ⟨h.sm.trans (SM.swap hx hy hlt ha hb) (Nat.le_refl _) (Nat.le_refl _), ?_, fun q q1 q2 => ?_, fun q q1 => ?_⟩
  · rw [swp_get hx hy, if_pos rfl, h.at_]
  · rw [swp_get hx hy, if_neg (by omega)]
    by_cases e : q = k
    · rw [if_pos e, h.high _ (by omega), e]
    · rw [if_neg e]; exact h.low q q1 (by omega)
  · rw [swp_get hx hy, if_neg (by omega), if_neg (by omega)]; exact h.high q (by omega)
theorem Fst.done {L0 L : List α} {a b k i : Nat} (h : Fst key L0 L a b k) (hk : k + 1 = i) (hi : a + 1 ≤ i ∧ i ≤ b) (hs : Srt key L0 (a + 1) b) (hlo : ∀ q, a < q → q < i → ky key L0 q < ky key L0 a) (hhi : ∀ q, i ≤ q → q < b → ky key L0 a ≤ ky key L0 q) : Srt key L a b := by
  intro p q p1 p2 p3
  have e : ∀ q, a ≤ q → q < b → (q < k ∧ ky key L q = ky key L0 (q + 1)) ∨ (q = k ∧ ky key L q = ky key L0 a) ∨ (k < q ∧ ky key L q = ky key L0 q) := fun q q1 q2 => by
    rcases Nat.lt_trichotomy q k with c | c | c
    · exact .inl ⟨c, ky_congr (h.low q q1 c)⟩
    · exact .inr (.inl ⟨c, by rw [c]; exact ky_congr h.at_⟩)
    · exact .inr (.inr ⟨c, ky_congr (h.high q c)⟩)
  rcases e p p1 (by omega) with ⟨c1, e1⟩ | ⟨c1, e1⟩ | ⟨c1, e1⟩ <;> rcases e q (by omega) p3 with ⟨c2, e2⟩ | ⟨c2, e2⟩ | ⟨c2, e2⟩ <;> rw [e1, e2]
  · exact hs _ _ (by omega) (by omega) (by omega)
  · exact Int.le_of_lt (hlo _ (by omega) (by omega))
  · exact hs _ _ (by omega) (by omega) (by omega)
  · omega
  · exact Int.le_refl _
  · exact hhi _ (by omega) p3
  · omega
  · omega
  · exact hs _ _ (by omega) (by omega) (by omega)
/-- the last one goes among those ahead -/
structure Lst (key : α → Int) (L0 L : List α) (a b k : Nat) : Prop where
  sm : SM key L0 L a b
  at_ : L[k]? = L0[b - 1]?
  high : ∀ q, k < q → q < b → L[q]? = L0[q - 1]?
  low : ∀ q, q < k → L[q]? = L0[q]?
theorem Lst.start (L : List α) (a b : Nat) : Lst key L L a b (b - 1) := ⟨SM.refl key L a b, rfl, fun q _ _ => by omega, fun _ _ => rfl⟩
theorem Lst.step {L0 L : List α} {a b k : Nat} {x y : α} (h : Lst key L0 L a b (k + 1)) (ha : a ≤ k) (hb : k + 1 < b) (hx : L[k]? = some x) (hy : L[k + 1]? = some y) (hlt : key y < key x) : Lst key L0 (swp L k (k + 1) x y) a b k := by
  refine ⟨h.sm.trans (SM.swap hx hy hlt ha hb) (Nat.le_refl _) (Nat.le_refl _), ?_, fun q q1 q2 => ?_, fun q q1 => ?_⟩
  · rw [swp_get hx hy, if_neg (by omega), if_pos rfl, h.at_]
  · rw [swp_get hx hy]
    by_cases e : q = k + 1
    · rw [if_pos e, h.low k (by omega), e]; rfl
    · rw [if_neg e, if_neg (by omega)]; exact h.high q (by omega) q2
  · rw [swp_get hx hy, if_neg (by omega), if_neg (by omega)]; exact h.low q (by omega)
theorem Lst.done {L0 L : List α} {a b k : Nat} (h : Lst key L0 L a b k) (hk : a ≤ k ∧ k < b) (hs : Srt key L0 a (b - 1)) (hlo : ∀ q, a ≤ q → q < k → ky key L0 q ≤ ky key L0 (b - 1)) (hhi : ∀ q, k ≤ q → q < b - 1 → ky key L0 (b - 1) < ky key L0 q) : Srt key L a b := by
  intro p q p1 p2 p3
  have e : ∀ q, a ≤ q → q < b → (q < k ∧ ky key L q = ky key L0 q) ∨ (q = k ∧ ky key L q = ky key L0 (b - 1)) ∨ (k < q ∧ ky key L q = ky key L0 (q - 1)) := fun q q1 q2 => by
    rcases Nat.lt_trichotomy q k with c | c | c
    · exact .inl ⟨c, ky_congr (h.low q c)⟩
    · exact .inr (.inl ⟨c, by rw [c]; exact ky_congr h.at_⟩)
    · exact .inr (.inr ⟨c, ky_congr (h.high q c q2)⟩)
  rcases e p p1 (by omega) with ⟨c1, e1⟩ | ⟨c1, e1⟩ | ⟨c1, e1⟩ <;> rcases e q (by omega) p3 with ⟨c2, e2⟩ | ⟨c2, e2⟩ | ⟨c2, e2⟩ <;> rw [e1, e2]
  · exact hs _ _ p1 p2 (by omega)
  · exact hlo _ p1 c1
  · exact hs _ _ (by omega) (by omega) (by omega)
  · omega
  · exact Int.le_refl _
  · exact Int.le_of_lt (hhi _ (by omega) (by omega))
  · omega
  · omega
  · exact hs _ _ (by omega) (by omega) (by omega)
/-- a search among sorted ones -/
theorem ky_mono {L : List α} {a b h : Nat} {v : Int} (hs : Srt key L a b) (h1 : h < b) (hk : ky key L h < v) : ∀ q, a ≤ q → q ≤ h → ky key L q < v := fun q q1 q2 => by
  have := hs q h q1 q2 h1; omega
/-- sorted, of the same parts: in buckets -/
theorem bucket {L L' : List α} {a b : Nat} (h : SM key L L' a b) (hs : Srt key L' 0 L'.length) (s : Int) : L'.filter (fun x => decide (key x = s)) = L.filter (fun x => decide (key x = s)) := h.stb s
end
end Go.Cas
