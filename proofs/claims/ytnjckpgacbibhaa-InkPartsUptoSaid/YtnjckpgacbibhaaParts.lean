/- InkParts (the second form: texts of at most a million letters): a text is as wide as its parts -/
import Derived.Test.YtnjckpgacbibhaaIf
import Derived.Test.YtnjckpgacbibhaaPartsP
namespace Go.Proofs.Ytnjckpgacbibhaa
set_option linter.unusedVariables false
set_option linter.unusedSimpArgs false
open Go.RowKit Go.Cas

theorem drop_runes (s : ByteArray) : ∀ k i r p, (runesFrom s i)[k]? = some (r, p) → (runesFrom s i).drop k = runesFrom s p ∧ i ≤ p ∧ p < s.size := by
  intro k
  induction k with
  | zero =>
    intro i r p h
    by_cases hi : i < s.size
    · rw [runesFrom_in s i hi] at h
      simp only [List.getElem?_cons_zero, Option.some.injEq, Prod.mk.injEq] at h
      obtain ⟨_, rfl⟩ := h
      exact ⟨rfl, Nat.le_refl _, hi⟩
    · rw [runesFrom_out s i hi] at h; simp at h
  | succ k ih =>
    intro i r p h
    by_cases hi : i < s.size
    · rw [runesFrom_in s i hi] at h ⊢
      simp only [List.getElem?_cons_succ] at h
      obtain ⟨h1, h2, h3⟩ := ih _ _ _ h
      have := dN_pos s i
      exact ⟨h1, by omega, h3⟩
    · rw [runesFrom_out s i hi] at h; simp at h
theorem pre_sum (z : Int) (s : ByteArray) : ∀ k i r p, (runesFrom s i)[k]? = some (r, p) → wSum z ((runesFrom s i).take k) = wSum z (runesFrom (s.extract 0 p) i) := by
  intro k
  induction k with
  | zero =>
    intro i r p h
    have hd := drop_runes s 0 i r p h
    by_cases hi : i < s.size
    · rw [runesFrom_in s i hi] at h
      simp only [List.getElem?_cons_zero, Option.some.injEq, Prod.mk.injEq] at h
      obtain ⟨_, rfl⟩ := h
      rw [runesFrom_out (s.extract 0 i) i (by simp [ByteArray.size_extract]; omega)]
      simp
    · rw [runesFrom_out s i hi] at h; simp at h
  | succ k ih =>
    intro i r p h
    by_cases hi : i < s.size
    · rw [runesFrom_in s i hi] at h ⊢
      simp only [List.getElem?_cons_succ] at h
      obtain ⟨_, h2, h3⟩ := drop_runes s k _ _ _ h
      have hN := dN_pos s i
      have hd := decode_cut s p i (by omega) h2
      have eR : dR (s.extract 0 p) i = dR s i := by unfold dR; rw [hd]
      have eN : dN (s.extract 0 p) i = dN s i := by unfold dN; rw [hd]
      rw [runesFrom_in (s.extract 0 p) i (by simp [ByteArray.size_extract]; omega), eR, eN, List.take_succ_cons]
      simp only [wSum]
      rw [ih _ _ _ h]
    · rw [runesFrom_out s i hi] at h; simp at h
theorem post_sum (z : Int) (s : ByteArray) (p : Nat) : ∀ n j, s.size ≤ p + j + n → wSum z (runesFrom (s.extract p s.size) j) = wSum z (runesFrom s (p + j)) := by
  have hs : (s.extract p s.size).size = s.size - p := by simp [ByteArray.size_extract]
  intro n
  induction n with
  | zero => intro j h; rw [runesFrom_out _ _ (by rw [hs]; omega), runesFrom_out s _ (by omega)]
  | succ n ih =>
    intro j h
    by_cases hj : p + j < s.size
    · have hd := decode_rest s p j hj
      have eR : dR (s.extract p s.size) j = dR s (p + j) := by unfold dR; rw [hd]
      have eN : dN (s.extract p s.size) j = dN s (p + j) := by unfold dN; rw [hd]
      have hN := dN_pos s (p + j)
      rw [runesFrom_in _ _ (by rw [hs]; omega), runesFrom_in s _ hj, eR, eN]
      simp only [wSum]
      rw [ih _ (by omega), Nat.add_assoc]
    · rw [runesFrom_out _ _ (by rw [hs]; omega), runesFrom_out s _ hj]
theorem wSum_append (z : Int) (a b : List (Int × Nat)) : wSum z (a ++ b) = wSum z a + wSum z b := by
  induction a with
  | nil => simp [wSum]
  | cons x a ih => obtain ⟨r, k⟩ := x; simp only [List.cons_append, wSum, ih]; omega
theorem wid_parts (z : Int) (s : ByteArray) (k : Nat) (r : Int) (p : Nat) (h : (runes s)[k]? = some (r, p)) : wid z (s.extract 0 p) + wid z (s.extract p s.size) = wid z s := by
  obtain ⟨h1, _, _⟩ := drop_runes s k 0 r p h
  unfold wid
  rw [post_sum z s p s.size 0 (by omega), ← pre_sum z s k 0 r p h, Nat.add_zero, ← h1, ← wSum_append, List.take_append_drop]
theorem wSum_bd (z : Int) (h0 : 0 ≤ z) (h1 : z ≤ 16777216) (l : List (Int × Nat)) : 0 ≤ wSum z l ∧ wSum z l ≤ 16777216 * l.length := by
  induction l with
  | nil => simp [wSum]
  | cons x l ih =>
    obtain ⟨r, k⟩ := x
    have := term_bd z r h0 h1
    simp only [wSum, List.length_cons]
    omega
theorem wid_bd (n : Int) (s : ByteArray) : 0 ≤ wid (zOf n) s ∧ wid (zOf n) s ≤ 16777216 * s.size := by
  have hz := zOf_bd n
  have h := wSum_bd (zOf n) hz.1 hz.2 (runes s)
  have hle : (runes s).length ≤ s.size := runes_len s _ _
  unfold wid
  unfold runes at h hle
  omega
theorem wid_two : wid (zOf 2000) { data := #[97] } = 1000 := by decide +kernel

set_option maxHeartbeats 2000000 in
theorem W_inkParts (n : Int) (s : ByteArray) (k : Int) (w : World) (_ : (Lit.int .i64 n).wf = true) (hs : s.size ≤ 1048576) (_ : (Lit.int .i64 k).wf = true) : Calls Try.prog 5 #[.int .i64 n, .string s, .int .i64 k] w fun e w' => e = .returned (.bool true) ∧ Below w.heap.size w w' := by
  go_enter Try.func5, Try.ntmps5
  go_wp2_with fail
  refine (c_Width _ _ _ (by decide)).mono ?_; rintro e w1 ⟨rfl, hb1⟩
  rw [wid_two]
  go_wp2_with fail
  refine (c_Runes _ _ (by omega)).mono ?_; rintro e w2 ⟨u, v, rfl, hu, hv, _, hb2⟩
  have hb12 := hb1.trans (hb2.mono hb1.size)
  have hle : (runes s).length ≤ s.size := runes_len s _ _
  obtain ⟨_, A, c, rfl, hAc, _⟩ := RdS.of_own hu
  obtain ⟨_, A', c', rfl, hAc', hcell⟩ := RdS.of_own hv
  have HC := Lib.hid hcell
  clear hcell hu hv
  generalize hN : (runes s).length = N at *
  have HN := Lib.hid hN
  clear hN
  by_cases h1 : s.size ≤ 3000
  · by_cases h2 : 0 ≤ k
    · obtain ⟨m, rfl⟩ := Int.eq_ofNat_of_zero_le h2
      by_cases h3 : m < N
      · have hm : m < (runes s).length := by rw [HN.out]; exact h3
        obtain ⟨r, p, hrp⟩ : ∃ r p, (runes s)[m]? = some (r, p) := ⟨_, _, List.getElem?_eq_getElem hm⟩
        obtain ⟨g, o, rfl, hg, hc⟩ := HC.out (by omega)
        have hcx := hc m (.int .i64 (p : Int)) (by simp [vInts, aOf, hrp])
        have hp : p < s.size := (drop_runes s m 0 r p hrp).2.2
        have hparts := Lib.hid (wid_parts (zOf n) s m r p hrp)
        clear hc hrp
        have b1 := wid_bd n (s.extract 0 p)
        have b2 := wid_bd n (s.extract p s.size)
        have hz1 : (s.extract 0 p).size = p := by simp [ByteArray.size_extract]; omega
        have hz2 : (s.extract p s.size).size = s.size - p := by simp [ByteArray.size_extract]
        rw [hz1] at b1
        rw [hz2] at b2
        have Z1 := Lib.hid hz1
        have Z2 := Lib.hid hz2
        clear hz1 hz2
        obtain ⟨b1, b1'⟩ := b1
        obtain ⟨b2, b2'⟩ := b2
        have hi : (m : Int) < (N : Int) := by omega
        go_wp2_with fail
        refine (c_Width _ _ _ (by rw [Z1.out]; omega)).mono ?_; rintro e w3 ⟨rfl, hb3⟩
        have hcx3 := (hb3.cell (p := ⟨g, o + m, none⟩) hg).trans hcx
        go_wp2_with fail
        refine (c_Width _ _ _ (by rw [Z2.out]; omega)).mono ?_; rintro e w4 ⟨rfl, hb4⟩
        go_wp2_with fail
        refine (c_Width _ _ _ (by omega)).mono ?_; rintro e w5 ⟨rfl, hb5⟩
        go_wp2_with fail
        go_ret
        refine ⟨ret_bool (by rw [hparts.out]; simp), ?_⟩
        have e3 := hb12.trans (hb3.mono hb12.size)
        have e4 := e3.trans (hb4.mono e3.size)
        exact e4.trans (hb5.mono e4.size)
      · have hi : ¬ (m : Int) < (N : Int) := by omega
        go_wp2_with fail
        go_ret
        exact ⟨rfl, hb12⟩
    · go_wp2_with fail
      go_ret
      exact ⟨rfl, hb12⟩
  · go_wp2_with fail
    go_ret
    exact ⟨rfl, hb12⟩
end Go.Proofs.Ytnjckpgacbibhaa
