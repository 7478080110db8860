/- plain (no program): what lies in brackets, by a stack and by nesting; trimmed -/
import Derived.Test.YtmhejppfjngbhaaDoorYb
namespace Go.Cas
set_option linter.unusedVariables false
set_option linter.unusedSimpArgs false

/-- tokens as what they open, up to what ends them: the list, what is left, whether the end was there -/
inductive Nst : List Tk → Nat → List Cm → List Tk → Bool → Prop
  | nil (e : Nat) : Nst [] e [] [] false
  | endd {t : Tk} {l : List Tk} {e : Nat} : e ≠ 0 → sgn t e = true → Nst (t :: l) e [] l true
  | opn {t : Tk} {l r r2 : List Tk} {e : Nat} {ks cs : List Cm} {c c2 : Bool} : (e ≠ 0 → sgn t e = false) → clz t ≠ 0 → Nst l (clz t) ks r c → Nst r e cs r2 c2 → Nst (t :: l) e (.mk t (clz t) ks c :: cs) r2 c2
  | one {t : Tk} {l r : List Tk} {e : Nat} {cs : List Cm} {c : Bool} : (e ≠ 0 → sgn t e = false) → clz t = 0 → Nst l e cs r c → Nst (t :: l) e (.mk t 0 [] false :: cs) r c
theorem Nst.le {l r : List Tk} {e : Nat} {cs : List Cm} {c : Bool} (h : Nst l e cs r c) : r.length ≤ l.length := by
  induction h with
  | nil => exact Nat.le_refl _
  | endd _ _ => simp
  | opn _ _ _ _ h1 h2 => simp; omega
  | one _ _ _ h1 => simp; omega
theorem Nst.rest {l r : List Tk} {e : Nat} {cs : List Cm} {c : Bool} (h : Nst l e cs r c) : c = false → r = [] := by
  induction h with
  | nil => intro _; rfl
  | endd _ _ => intro h; cases h
  | opn _ _ _ _ h1 h2 => exact h2
  | one _ _ _ h1 => exact h1
theorem Nst.total : ∀ (n : Nat) (l : List Tk), l.length ≤ n → ∀ e, ∃ cs r c, Nst l e cs r c := by
  intro n
  induction n with
  | zero => intro l hl e; obtain rfl := List.eq_nil_of_length_eq_zero (Nat.le_zero.1 hl); exact ⟨_, _, _, .nil e⟩
  | succ n ih =>
    intro l hl e
    cases l with
    | nil => exact ⟨_, _, _, .nil e⟩
    | cons t l =>
      have hl : l.length ≤ n := by simpa using hl
      by_cases h1 : e ≠ 0 ∧ sgn t e = true
      · exact ⟨_, _, _, .endd h1.1 h1.2⟩
      · have h2 : e ≠ 0 → sgn t e = false := fun h => by
          cases hs : sgn t e with
          | false => rfl
          | true => exact absurd ⟨h, hs⟩ h1
        by_cases h3 : clz t = 0
        · obtain ⟨cs, r, c, h⟩ := ih l hl e
          exact ⟨_, _, _, .one h2 h3 h⟩
        · obtain ⟨ks, r, c, h⟩ := ih l hl (clz t)
          have := h.le
          obtain ⟨cs, r2, c2, h4⟩ := ih r (by omega) e
          exact ⟨_, _, _, .opn h2 h3 h h4⟩
theorem clz_mem {t : Tk} (h : clz t ≠ 0) : clz t = 41 ∨ clz t = 93 ∨ clz t = 125 := by
  unfold clz at h ⊢
  split
  · exact .inl rfl
  · split
    · split
      · exact .inl rfl
      · split
        · exact .inr (.inl rfl)
        · split
          · exact .inr (.inr rfl)
          · rename_i a b c d e; rw [if_neg a, if_pos b, if_neg c, if_neg d, if_neg e] at h; exact absurd rfl h
    · rename_i a b; rw [if_neg a, if_neg b] at h; exact absurd rfl h
theorem sgn_iff {t : Tk} {c : Nat} : sgn t c = true ↔ t.k = 10 ∧ t.t = ⟨#[UInt8.ofNat c]⟩ := by unfold sgn; simp
theorem clz_sgn {t : Tk} {e : Nat} (h : sgn t e = true) (he : e = 41 ∨ e = 93 ∨ e = 125) : clz t = 0 := by
  obtain ⟨h1, h2⟩ := sgn_iff.1 h
  unfold clz
  rw [if_neg (by omega), if_pos h1, h2]
  rcases he with rfl | rfl | rfl <;> decide
/-- the stack finds what the nesting finds -/
theorem Nst.clo {l r : List Tk} {e : Nat} {cs : List Cm} {c : Bool} (h : Nst l e cs r c) : (e = 41 ∨ e = 93 ∨ e = 125) → ∀ (st : List Nat) (i : Nat), clo (e :: st) l i = if c = true then (if st = [] then i + l.length - r.length - 1 else Go.Cas.clo st r (i + l.length - r.length)) else i + l.length := by
  induction h with
  | nil e => intro _ st i; simp [Go.Cas.clo]
  | @endd t l e h1 h2 =>
    intro he st i
    have hz := clz_sgn h2 he
    have e1 : Go.Cas.clo (e :: st) (t :: l) i = if st = [] then i else Go.Cas.clo st l (i + 1) := by
      conv => lhs; unfold Go.Cas.clo
      simp [hz, h2]
    rw [e1, if_pos rfl]
    simp only [List.length_cons]
    rw [show i + (l.length + 1) - l.length - 1 = i by omega, show i + (l.length + 1) - l.length = i + 1 by omega]
  | @opn t l r r2 e ks cs c c2 h1 h2 h3 h4 ih1 ih2 =>
    intro he st i
    have e1 : Go.Cas.clo (e :: st) (t :: l) i = Go.Cas.clo (clz t :: e :: st) l (i + 1) := by
      conv => lhs; unfold Go.Cas.clo
      simp [h2]
    have l1 := h3.le
    have l2 := h4.le
    rw [e1, ih1 (clz_mem h2)]
    cases c with
    | true =>
      rw [if_pos rfl, if_neg (by simp), ih2 he]
      simp only [List.length_cons]
      rw [show i + 1 + l.length - r.length + r.length = i + (l.length + 1) by omega]
    | false =>
      obtain rfl := h3.rest rfl
      cases h4 with
      | nil => simp; omega
  | @one t l r e cs c h1 h2 h3 ih =>
    intro he st i
    have hs := h1 (by omega)
    have e1 : Go.Cas.clo (e :: st) (t :: l) i = Go.Cas.clo (e :: st) l (i + 1) := by
      conv => lhs; unfold Go.Cas.clo
      simp [h2, hs]
    rw [e1, ih he]
    simp only [List.length_cons]
    rw [show i + 1 + l.length = i + (l.length + 1) by omega]
/-- what is behind the end does not matter -/
theorem Nst.cut {l r : List Tk} {e : Nat} {cs : List Cm} {c : Bool} (h : Nst l e cs r c) : c = true → ∃ m x, l = m ++ x :: r ∧ sgn x e = true ∧ (∀ r', Nst (m ++ x :: r') e cs r' true) ∧ Nst m 0 cs [] false := by
  induction h with
  | nil e => intro h; cases h
  | @endd t l e h1 h2 => intro _; exact ⟨[], t, rfl, h2, fun r' => .endd h1 h2, .nil 0⟩
  | @opn t l r r2 e ks cs c c2 h1 h2 h3 h4 ih1 ih2 =>
    intro hc
    cases c with
    | false =>
      obtain rfl := h3.rest rfl
      cases h4 with
      | nil => cases hc
    | true =>
      obtain ⟨m1, x1, q1, _, q2, _⟩ := ih1 rfl
      obtain ⟨m2, x2, q3, q4, q5, q6⟩ := ih2 hc
      refine ⟨t :: (m1 ++ x1 :: m2), x2, by rw [q1, q3]; simp, q4, fun r' => ?_, ?_⟩
      · have := Nst.opn h1 h2 (q2 (m2 ++ x2 :: r')) (q5 r')
        simpa using this
      · exact Nst.opn (fun h => absurd rfl h) h2 (q2 m2) q6
  | @one t l r e cs c h1 h2 h3 ih =>
    intro hc
    obtain ⟨m, x, q1, q2, q3, q4⟩ := ih hc
    exact ⟨t :: m, x, by rw [q1]; rfl, q2, fun r' => .one h1 h2 (q3 r'), .one (fun h => absurd rfl h) h2 q4⟩
mutual
/-- without blanks at the end, also in what is not closed there -/
def endL : List Cm → List Cm
  | [] => []
  | c :: l =>
    match endL l with
    | [] => if bl0 c.t = true then [] else [endC c]
    | x :: y => c :: x :: y
def endC : Cm → Cm
  | .mk t e ks cl => if e ≠ 0 ∧ cl = false then .mk t e (endL ks) cl else .mk t e ks cl
end
theorem endL_nil {c : Cm} {l : List Cm} (h : endL l = []) : endL (c :: l) = if bl0 c.t = true then [] else [endC c] := by rw [endL, h]
theorem endL_cons {c : Cm} {l : List Cm} (h : endL l ≠ []) : endL (c :: l) = c :: endL l := by
  rw [endL]
  split
  · rename_i e; exact absurd e h
  · rename_i x y e; rw [e]
theorem rtr_cons (t : Tk) (l : List Tk) : rtr (t :: l) = if rtr l = [] then (if bl0 t = true then [] else [t]) else t :: rtr l := by
  unfold rtr
  rw [List.reverse_cons, List.dropWhile_append]
  by_cases h : (l.reverse.dropWhile bl0) = []
  · rw [h]
    simp only [List.isEmpty_nil, if_pos, List.reverse_nil]
    cases hb : bl0 t <;> simp [hb]
  · have : (l.reverse.dropWhile bl0).isEmpty = false := by cases e : l.reverse.dropWhile bl0 with | nil => exact absurd e h | cons _ _ => rfl
    rw [this]
    simp [h]
theorem bl0_sgn {t : Tk} {e : Nat} (h : sgn t e = true) : bl0 t = false := by
  have := (sgn_iff.1 h).1
  unfold bl0; simp; omega
theorem bl0_clz {t : Tk} (h : clz t ≠ 0) : bl0 t = false := by
  unfold bl0
  simp
  intro e
  apply h
  unfold clz
  rw [if_neg (by omega), if_neg (by omega)]
theorem Nst.nil_inv {e : Nat} {cs : List Cm} {r : List Tk} {c : Bool} (h : Nst [] e cs r c) : cs = [] ∧ r = [] ∧ c = false := by cases h; exact ⟨rfl, rfl, rfl⟩
theorem Nst.rtr {l r : List Tk} {e : Nat} {cs : List Cm} {c : Bool} (h : Nst l e cs r c) : Nst (rtr l) e (if c = true then cs else endL cs) (if c = true then Go.Cas.rtr r else []) c := by
  induction h with
  | nil e => exact .nil e
  | @endd t l e h1 h2 =>
    rw [rtr_cons, if_pos rfl, if_pos rfl]
    by_cases hr : Go.Cas.rtr l = []
    · rw [if_pos hr, if_neg (by rw [bl0_sgn h2]; simp), hr]; exact .endd h1 h2
    · rw [if_neg hr]; exact .endd h1 h2
  | @opn t l r r2 e ks cs c c2 h1 h2 h3 h4 ih1 ih2 =>
    have hb := bl0_clz h2
    have e1 : Go.Cas.rtr (t :: l) = t :: Go.Cas.rtr l := by
      rw [rtr_cons]
      split
      · rename_i hr; rw [if_neg (by rw [hb]; decide), hr]
      · rfl
    rw [e1]
    cases c with
    | true =>
      rw [if_pos rfl, if_pos rfl] at ih1
      have h5 := Nst.opn h1 h2 ih1 ih2
      cases c2 with
      | true => exact h5
      | false =>
        have e2 : endL (.mk t (clz t) ks true :: cs) = .mk t (clz t) ks true :: endL cs := by
          by_cases hn : endL cs = []
          · rw [endL_nil hn, hn, if_neg (by show ¬ bl0 t = true; rw [hb]; decide)]
            simp [endC]
          · exact endL_cons hn
        have h5 : Nst (t :: Go.Cas.rtr l) e (.mk t (clz t) ks true :: endL cs) [] false := h5
        rw [if_neg (by decide), if_neg (by decide), e2]
        exact h5
    | false =>
      obtain rfl := h3.rest rfl
      obtain ⟨rfl, rfl, rfl⟩ := h4.nil_inv
      have ih1 : Nst (Go.Cas.rtr l) (clz t) (endL ks) [] false := ih1
      have e2 : endL [Cm.mk t (clz t) ks false] = [.mk t (clz t) (endL ks) false] := by
        rw [endL_nil (by simp [endL]), if_neg (by show ¬ bl0 t = true; rw [hb]; decide)]
        simp [endC, h2]
      rw [if_neg (by decide), if_neg (by decide), e2]
      exact .opn h1 h2 ih1 (.nil e)
  | @one t l r e cs c h1 h2 h3 ih =>
    rw [rtr_cons]
    by_cases hr : Go.Cas.rtr l = []
    · rw [if_pos hr]
      rw [hr] at ih
      obtain ⟨q1, q2, rfl⟩ := ih.nil_inv
      have q1 : endL cs = [] := q1
      show Nst (if bl0 t = true then [] else [t]) e (endL (.mk t 0 [] false :: cs)) [] false
      rw [endL_nil q1]
      show Nst _ e (if bl0 t = true then [] else [endC (.mk t 0 [] false)]) [] false
      by_cases hb : bl0 t = true
      · rw [if_pos hb, if_pos hb]; exact .nil e
      · rw [if_neg hb, if_neg hb]
        have : endC (.mk t 0 [] false) = .mk t 0 [] false := by simp [endC]
        rw [this]
        exact .one h1 h2 (.nil e)
    · rw [if_neg hr]
      cases c with
      | true => exact .one h1 h2 ih
      | false =>
        have ih : Nst (Go.Cas.rtr l) e (endL cs) [] false := ih
        have hn : endL cs ≠ [] := fun e2 => by
          rw [e2] at ih
          cases hh : Go.Cas.rtr l with
          | nil => exact hr hh
          | cons a b => rw [hh] at ih; cases ih
        rw [if_neg (by decide), if_neg (by decide), endL_cons hn]
        exact .one h1 h2 ih
def blm (c : Cm) : Bool := bl0 c.t
def trimC (l : List Cm) : List Cm := endL (l.dropWhile blm)
theorem Nst.lead {l r : List Tk} {cs : List Cm} {c : Bool} {e : Nat} (h : Nst l e cs r c) : e = 0 → Nst (l.dropWhile bl0) e (cs.dropWhile blm) r c := by
  induction h with
  | nil e => intro _; exact .nil e
  | endd h1 h2 => intro h; exact absurd h h1
  | @opn t l r r2 e ks cs c c2 h1 h2 h3 h4 ih1 ih2 =>
    intro _
    have hb := bl0_clz h2
    rw [List.dropWhile_cons_of_neg (by rw [hb]; decide), List.dropWhile_cons_of_neg (by show ¬ bl0 t = true; rw [hb]; decide)]
    exact .opn h1 h2 h3 h4
  | @one t l r e cs c h1 h2 h3 ih =>
    intro he
    by_cases hb : bl0 t = true
    · rw [List.dropWhile_cons_of_pos hb, List.dropWhile_cons_of_pos (show blm (.mk t 0 [] false) = true from hb)]
      exact ih he
    · rw [List.dropWhile_cons_of_neg hb, List.dropWhile_cons_of_neg (show ¬ blm (.mk t 0 [] false) = true from hb)]
      exact .one h1 h2 h3
theorem Nst.trim {l : List Tk} {cs : List Cm} (h : Nst l 0 cs [] false) : Nst (trimT l) 0 (trimC cs) [] false := (h.lead rfl).rtr
end Go.Cas
