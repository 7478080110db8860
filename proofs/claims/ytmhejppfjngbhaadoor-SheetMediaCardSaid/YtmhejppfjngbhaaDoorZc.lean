/- sheets: how long a token's text is; tokens between commas (plain) -/
import Derived.Test.YtmhejppfjngbhaaDoorZa
namespace Go.Proofs.YtmhejppfjngbhaaDoor
set_option linter.unusedVariables false
set_option linter.unusedSimpArgs false
open Go.RowKit Go.Cas

theorem strE_len (q : UInt8) : ∀ (n : Nat) (l : List UInt8), l.length ≤ n → ∀ (i : Nat) (o : List UInt8), (strE q l i o).1.length ≤ o.length + l.length := by
  intro n
  induction n with
  | zero => intro l hl i o; obtain rfl := List.eq_nil_of_length_eq_zero (Nat.le_zero.1 hl); simp [strE]
  | succ n ih =>
    intro l hl i o
    cases l with
    | nil => simp [strE]
    | cons c l =>
      rw [List.length_cons] at hl ⊢
      unfold strE
      split
      · show o.length ≤ _; omega
      · split
        · show o.length ≤ _; omega
        · split
          · cases l with
            | nil => show o.length ≤ _; omega
            | cons d l =>
              rw [List.length_cons] at hl ⊢
              have := ih l (by omega) (i + 2) (o ++ [d])
              rw [List.length_append, List.length_singleton] at this
              show (strE q l (i + 2) (o ++ [d])).1.length ≤ _
              omega
          · have := ih l (by omega) (i + 1) (o ++ [c])
            rw [List.length_append, List.length_singleton] at this
            omega
theorem esc_le2 (l : List UInt8) : (l.flatMap esc).length ≤ 2 * l.length := by
  induction l with
  | nil => simp
  | cons c l ih =>
    rw [List.flatMap_cons, List.length_append, List.length_cons]
    have : (esc c).length ≤ 2 := by unfold esc; split <;> simp
    omega
theorem ext_sz (s : ByteArray) (i j : Nat) (h : j ≤ s.size) : (s.extract i j).size ≤ s.size := by
  rw [ByteArray.size_extract]; omega
theorem small_sz (s : ByteArray) : (small s).size = s.size := by
  show (s.data.toList.map loC).toArray.size = _
  simp
theorem tokA_sz {s : ByteArray} {i : Nat} (hi : i < s.size) : (tokA s i).t.size ≤ 2 * s.size + 2 := by
  have hb := (tokA_b s i hi)
  obtain ⟨t, ht⟩ : ∃ t, t = tokA s i := ⟨_, rfl⟩
  have hn := nuE_le s i (by omega)
  have hm := nmE_le s i (by omega)
  have hx : ∀ a b, (s.extract a b).size ≤ s.size := fun a b => by rw [ByteArray.size_extract]; omega
  rw [← ht]
  unfold tokA at ht
  split at ht
  · subst ht; show (1 : Nat) ≤ _; omega
  · split at ht
    · unfold strT at ht
      split at ht
      · subst ht; show (0 : Nat) ≤ _; omega
      · rename_i o x e _ he
        subst ht
        have h1 := strE_len (bt s i) _ (s.data.toList.drop (i + 1)) (Nat.le_refl _) (i + 1) []
        rw [he] at h1
        have h2 := esc_le2 o
        have h3 : (s.data.toList.drop (i + 1)).length ≤ s.size := by rw [List.length_drop]; show s.size - (i + 1) ≤ s.size; omega
        show (quo o).toArray.size ≤ _
        rw [List.size_toArray]
        unfold quo
        rw [List.length_cons, List.length_append, List.length_singleton]
        simp only [List.length_nil] at h1
        omega
    · split at ht
      · split at ht
        · subst ht
          show (s.extract i (nuE s i) ++ small (s.extract (nuE s i) (nmE s (nuE s i)))).size ≤ _
          rw [ByteArray.size_append, small_sz]
          have := hx i (nuE s i)
          have := hx (nuE s i) (nmE s (nuE s i))
          omega
        · split at ht
          · subst ht; have := hx i (nuE s i + 1); show (s.extract i (nuE s i + 1)).size ≤ _; omega
          · subst ht; have := hx i (nuE s i); show (s.extract i (nuE s i)).size ≤ _; omega
      · split at ht
        · split at ht
          · subst ht; have := hx i (nmE s i + 1); show (s.extract i (nmE s i + 1)).size ≤ _; omega
          · subst ht; have := hx i (nmE s i); show (s.extract i (nmE s i)).size ≤ _; omega
        · split at ht
          · subst ht; have := hx i (runE mrC s (i + 1)); show (s.extract i (runE mrC s (i + 1))).size ≤ _; omega
          · split at ht
            · subst ht; have := hx i (nmE s (i + 1)); show (s.extract i (nmE s (i + 1))).size ≤ _; omega
            · subst ht; have := hx i (i + 1); show (s.extract i (i + 1)).size ≤ _; omega
theorem addT_all' {Q : Tk → Prop} (hQ : ∀ (z : Tk) (b : Nat), Q z → Q { z with b := b }) {o : List Tk} {t : Tk} (ho : ∀ x ∈ o, Q x) (ht : Q t) : ∀ x ∈ addT o t, Q x := by
  intro x hx
  rcases List.eq_nil_or_concat o with rfl | ⟨a, z, rfl⟩
  · rw [addT_nil] at hx; rw [List.mem_singleton.1 hx]; exact ht
  · rw [List.concat_eq_append] at *
    by_cases h : t.k = 0 ∧ z.k = 0
    · rw [addT_bl h.1 h.2] at hx
      rcases List.mem_append.1 hx with hx | hx
      · exact ho x (List.mem_append_left _ hx)
      · rw [List.mem_singleton.1 hx]; exact hQ _ _ (ho z (by simp))
    · rw [addT_no h] at hx
      rcases List.mem_append.1 hx with hx | hx
      · exact ho x hx
      · rw [List.mem_singleton.1 hx]; exact ht
theorem tokF_all' {Q : Tk → Prop} (hQ : ∀ (z : Tk) (b : Nat), Q z → Q { z with b := b }) (s : ByteArray) (hA : ∀ i, i < s.size → Q (tokA s i)) : ∀ f k o, (∀ x ∈ o, Q x) → ∀ x ∈ tokF f s k o, Q x := by
  intro f
  induction f with
  | zero => intro k o ho; exact ho
  | succ f ih =>
    intro k o ho
    rw [tokF]
    split
    · rename_i hk
      split
      · exact ih _ _ ho
      · exact ih _ _ (addT_all' hQ ho (hA k hk))
    · exact ho
theorem toks_sz (s : ByteArray) : ∀ x ∈ toks s, x.t.size ≤ 2 * s.size + 2 := tokF_all' (Q := fun x => x.t.size ≤ 2 * s.size + 2) (fun _ _ h => h) s (fun _ hi => tokA_sz hi) _ _ _ (by simp)
theorem toks_ok {s : ByteArray} (h : s.size ≤ 400000000) : ∀ x ∈ toks s, DimOk x ∧ x.t.size ≤ 1000000000 := fun x hx => ⟨toks_dim s x hx, by have := toks_sz s x hx; omega⟩
/-- pieces -/
theorem pcs_no {l : List Tk} (h : ∀ x ∈ l, isS x ⟨#[44]⟩ = false) : ∃ p, pcs l = [p] ∧ p = l := by
  induction l with
  | nil => exact ⟨[], rfl, rfl⟩
  | cons t l ih =>
    obtain ⟨p, h1, rfl⟩ := ih (fun x hx => h x (List.mem_cons_of_mem _ hx))
    refine ⟨t :: p, ?_, rfl⟩
    rw [pcs, if_neg (by rw [sgn44, h t (List.mem_cons_self ..)]; simp), h1]
theorem pcs_at {t : Tk} {b : List Tk} (ht : isS t ⟨#[44]⟩ = true) : ∀ {a : List Tk}, (∀ x ∈ a, isS x ⟨#[44]⟩ = false) → pcs (a ++ t :: b) = a :: pcs b := by
  intro a
  induction a with
  | nil => intro _; rw [List.nil_append, pcs, if_pos (by rw [sgn44]; exact ht)]
  | cons x a ih =>
    intro h
    rw [List.cons_append, pcs, if_neg (by rw [sgn44, h x (List.mem_cons_self ..)]; simp), ih (fun y hy => h y (List.mem_cons_of_mem _ hy))]
theorem apW_no {l : List Tk} {wd hg : Int} (h : ∀ x ∈ l, isS x ⟨#[44]⟩ = false) : apW l wd hg = enP (trimT l) wd hg := by
  obtain ⟨p, h1, rfl⟩ := pcs_no h
  unfold apW
  rw [h1]
  simp
theorem apW_at {l : List Tk} {k : Nat} {t : Tk} {wd hg : Int} (hk : l[k]? = some t) (ht : isS t ⟨#[44]⟩ = true) (h : ∀ i x, l[i]? = some x → i < k → isS x ⟨#[44]⟩ = false) : apW l wd hg = (enP (trimT (l.take k)) wd hg || apW (l.drop (k + 1)) wd hg) := by
  obtain ⟨hl, he⟩ := List.getElem?_eq_some_iff.1 hk
  have e : l = l.take k ++ t :: l.drop (k + 1) := by rw [← he]; simp
  have hx : ∀ x ∈ l.take k, isS x ⟨#[44]⟩ = false := fun x hx => by
    obtain ⟨i, hi⟩ := List.mem_iff_getElem?.1 hx
    have hik : i < k := by have := (List.getElem?_eq_some_iff.1 hi).1; rw [List.length_take] at this; omega
    rw [List.getElem?_take_of_lt hik] at hi
    exact h i x hi hik
  have h2 := pcs_at (b := l.drop (k + 1)) ht hx
  rw [← e] at h2
  unfold apW
  rw [h2, List.any_cons]
end Go.Proofs.YtmhejppfjngbhaaDoor
