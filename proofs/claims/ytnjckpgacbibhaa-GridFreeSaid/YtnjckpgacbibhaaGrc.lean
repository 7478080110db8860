/- the grid: the plain law of placing: what is done, told as a run; there is one -/
import Derived.Test.YtnjckpgacbibhaaGrb
namespace Go.Proofs.Ytnjckpgacbibhaa
set_option linter.unusedVariables false
set_option linter.unusedSimpArgs false
open Go.RowKit Go.Cas

structure Itm where
  c : Int
  p : Nat
  r : Int
  q : Nat
def ovI (a b : Itm) : Prop := a.c < b.c + b.p ∧ b.c < a.c + a.p ∧ a.r < b.r + b.q ∧ b.r < a.r + a.q
instance (a b : Itm) : Decidable (ovI a b) := by unfold ovI; infer_instance
/-- none of those that stand lies in the way -/
def FreeP (L : List Itm) (S : List Bool) (x : Itm) : Prop := ∀ (i : Nat) f, L[i]? = some f → S[i]? = some true → ¬ ovI f x
theorem FreeP.set_ {L : List Itm} {S : List Bool} {x y : Itm} {i : Nat} (hi : S[i]? = some false) : FreeP (L.set i y) S x ↔ FreeP L S x := by
  constructor
  · intro h j f hj hs
    have hne : i ≠ j := fun e => by subst e; rw [hi] at hs; cases hs
    exact h j f (by rw [List.getElem?_set_ne hne]; exact hj) hs
  · intro h j f hj hs
    have hne : i ≠ j := fun e => by subst e; rw [hi] at hs; cases hs
    rw [List.getElem?_set_ne hne] at hj
    exact h j f hj hs
/-- the board says what stands -/
def Match (T : Int → Int → Bool) (L : List Itm) (S : List Bool) : Prop := ∀ a d, T a d = true ↔ ∃ (i : Nat) (f : Itm), L[i]? = some f ∧ S[i]? = some true ∧ inP f.r f.c f.q f.p a d = true
theorem Match.free {T : Int → Int → Bool} {L : List Itm} {S : List Bool} (m : Match T L S) (hL : ∀ f ∈ L, 1 ≤ f.p ∧ 1 ≤ f.q) (x : Itm) (hxp : 1 ≤ x.p) (hxq : 1 ≤ x.q) : Fr T x.r x.c x.q x.p ↔ FreeP L S x := by
  constructor
  · intro h i f hf hs ho
    obtain ⟨h1, h2, h3, h4⟩ := ho
    have hsp := hL f (List.mem_of_getElem? hf)
    have hin : T (max f.r x.r) (max f.c x.c) = true := (m _ _).2 ⟨i, f, hf, hs, by simp only [inP, decide_eq_true_eq]; omega⟩
    have e1 : max f.r x.r = x.r + ((max f.r x.r - x.r).toNat : Int) := by omega
    have e2 : max f.c x.c = x.c + ((max f.c x.c - x.c).toNat : Int) := by omega
    rw [e1, e2, h _ _ (by omega) (by omega)] at hin
    cases hin
  · intro h i j hi hj
    rcases ht : T (x.r + i) (x.c + j)
    · rfl
    · obtain ⟨k, f, hf, hs, hin⟩ := (m _ _).1 ht
      simp only [inP, decide_eq_true_eq] at hin
      exact absurd ⟨by omega, by omega, by omega, by omega⟩ (h k f hf hs)
theorem Match.set_ {T : Int → Int → Bool} {L : List Itm} {S : List Bool} (m : Match T L S) {i : Nat} {x y : Itm} (hx : L[i]? = some y) (hi : S[i]? = some false) : Match (fun a d => inP x.r x.c x.q x.p a d || T a d) (L.set i x) (S.set i true) := by
  intro a d
  have hL := (List.getElem?_eq_some_iff.1 hx).1
  have hS := (List.getElem?_eq_some_iff.1 hi).1
  rw [Bool.or_eq_true, m]
  constructor
  · rintro (h | ⟨j, f, hf, hs, hin⟩)
    · exact ⟨i, x, by rw [List.getElem?_set_self hL], by rw [List.getElem?_set_self hS], h⟩
    · have hne : i ≠ j := fun e => by subst e; rw [hi] at hs; cases hs
      exact ⟨j, f, by rw [List.getElem?_set_ne hne]; exact hf, by rw [List.getElem?_set_ne hne]; exact hs, hin⟩
  · rintro ⟨j, f, hf, hs, hin⟩
    by_cases e : i = j
    · subst e
      rw [List.getElem?_set_self hL] at hf
      injection hf with hf; subst hf
      exact .inl hin
    · rw [List.getElem?_set_ne e] at hf hs
      exact .inr ⟨j, f, hf, hs, hin⟩
/-- what does not stand may be anything -/
theorem Match.other {T : Int → Int → Bool} {L : List Itm} {S : List Bool} (m : Match T L S) {i : Nat} {x : Itm} (hi : S[i]? = some false) : Match T (L.set i x) S := by
  intro a d
  rw [m]
  constructor
  · rintro ⟨j, f, hf, hs, hin⟩
    have hne : i ≠ j := fun e => by subst e; rw [hi] at hs; cases hs
    exact ⟨j, f, by rw [List.getElem?_set_ne hne]; exact hf, hs, hin⟩
  · rintro ⟨j, f, hf, hs, hin⟩
    have hne : i ≠ j := fun e => by subst e; rw [hi] at hs; cases hs
    rw [List.getElem?_set_ne hne] at hf
    exact ⟨j, f, hf, hs, hin⟩

/-- the first number from one on -/
inductive Srch (ok : Int → Prop) : Int → Int → Nat → Prop
  | here {c : Int} : ok c → Srch ok c c 0
  | next {c t : Int} {n : Nat} : ¬ ok c → Srch ok (c + 1) t n → Srch ok c t (n + 1)
theorem Srch.some_ (ok : Int → Prop) (M : Int) (hM : ∀ c, M < c → ok c) (n : Nat) : ∀ c, M - c < n → ∃ t k, Srch ok c t k ∧ c ≤ t ∧ t ≤ max c (M + 1) := by
  induction n with
  | zero => intro c h; exact ⟨c, 0, .here (hM c (by omega)), by omega, by omega⟩
  | succ n ih =>
    intro c h
    by_cases hc : ok c
    · exact ⟨c, 0, .here hc, by omega, by omega⟩
    · have hcM : ¬ M < c := fun h => hc (hM c h)
      obtain ⟨t, k, h1, h2, h3⟩ := ih (c + 1) (by omega)
      exact ⟨t, k + 1, .next hc h1, by omega, by omega⟩
/-- the first place from a cursor on, row by row -/
inductive Srch2 (ok : Int → Int → Prop) (cols span : Int) : Int → Int → Int → Int → Nat → Prop
  | here {r c : Int} : c + span - 1 ≤ cols → ok r c → Srch2 ok cols span r c r c 0
  | next {r c tr tc : Int} {n : Nat} : ¬ (c + span - 1 ≤ cols ∧ ok r c) → c + 1 + span - 1 ≤ cols → Srch2 ok cols span r (c + 1) tr tc n → Srch2 ok cols span r c tr tc (n + 1)
  | wrap {r c tr tc : Int} {n : Nat} : ¬ (c + span - 1 ≤ cols ∧ ok r c) → ¬ c + 1 + span - 1 ≤ cols → Srch2 ok cols span (r + 1) 1 tr tc n → Srch2 ok cols span r c tr tc (n + 1)
theorem Srch2.row (ok : Int → Int → Prop) (cols span : Int) (hs : span ≤ cols) (r : Int) {B : Int} (h0 : 1 ≤ span) (hnext : ∃ tr tc k, Srch2 ok cols span (r + 1) 1 tr tc k ∧ r + 1 ≤ tr ∧ 1 ≤ tc ∧ tc + span - 1 ≤ cols ∧ tr ≤ B) (n : Nat) :
    ∀ c, 1 ≤ c → cols - c < n → ∃ tr tc k, Srch2 ok cols span r c tr tc k ∧ r ≤ tr ∧ 1 ≤ tc ∧ tc + span - 1 ≤ cols ∧ tr ≤ max r B := by
  induction n with
  | zero =>
    intro c h1 h
    obtain ⟨tr, tc, k, e1, e2, e3, e4, e5⟩ := hnext
    by_cases hc : c + span - 1 ≤ cols ∧ ok r c
    · exact ⟨r, c, 0, .here hc.1 hc.2, by omega, by omega, hc.1, by omega⟩
    · by_cases hw : c + 1 + span - 1 ≤ cols
      · omega
      · exact ⟨tr, tc, k + 1, .wrap hc hw e1, by omega, e3, e4, by omega⟩
  | succ n ih =>
    intro c h1 h
    by_cases hc : c + span - 1 ≤ cols ∧ ok r c
    · exact ⟨r, c, 0, .here hc.1 hc.2, by omega, by omega, hc.1, by omega⟩
    · by_cases hw : c + 1 + span - 1 ≤ cols
      · obtain ⟨tr, tc, k, e1, e2, e3, e4, e5⟩ := ih (c + 1) (by omega) (by omega)
        exact ⟨tr, tc, k + 1, .next hc hw e1, e2, e3, e4, e5⟩
      · obtain ⟨tr, tc, k, e1, e2, e3, e4, e5⟩ := hnext
        exact ⟨tr, tc, k + 1, .wrap hc hw e1, by omega, e3, e4, by omega⟩
end Go.Proofs.Ytnjckpgacbibhaa
