/- plain (no program): whether a media text applies, by the tokens and by their nesting -/
import Derived.Test.YtmhejppfjngbhaaDoorYc
namespace Go.Cas
set_option linter.unusedVariables false
set_option linter.unusedSimpArgs false

def nbT (t : Tk) : Bool := !bl0 t
theorem filter_drop (l : List Tk) : (l.dropWhile bl0).filter nbT = l.filter nbT := by
  induction l with
  | nil => rfl
  | cons t l ih =>
    by_cases h : bl0 t = true
    · rw [List.dropWhile_cons_of_pos h, ih, List.filter_cons_of_neg (by unfold nbT; rw [h]; decide)]
    · rw [List.dropWhile_cons_of_neg h]
theorem filter_rtr (l : List Tk) : (rtr l).filter nbT = l.filter nbT := by
  unfold rtr
  rw [List.filter_reverse, filter_drop, ← List.filter_reverse, List.reverse_reverse]
theorem filter_trim (l : List Tk) : (trimT l).filter nbT = l.filter nbT := by unfold trimT; rw [filter_rtr, filter_drop]
theorem drop_head (l : List Tk) : ∀ t r, l.dropWhile bl0 = t :: r → bl0 t = false := by
  induction l with
  | nil => intro t r h; cases h
  | cons a l ih =>
    intro t r h
    by_cases hb : bl0 a = true
    · rw [List.dropWhile_cons_of_pos hb] at h; exact ih t r h
    · rw [List.dropWhile_cons_of_neg hb] at h
      injection h with h _
      rw [← h]; simpa using hb
theorem rtr_head {t : Tk} {l : List Tk} (h : bl0 t = false) : rtr (t :: l) = t :: rtr l := by
  rw [rtr_cons]
  split
  · rename_i hr; rw [if_neg (by rw [h]; decide), hr]
  · rfl
/-- trimmed tokens begin with the first that is no blank -/
theorem trim_head {l : List Tk} {t : Tk} {r : List Tk} (h : trimT l = t :: r) : bl0 t = false := by
  unfold trimT at h
  cases hd : l.dropWhile bl0 with
  | nil => rw [hd] at h; cases h
  | cons a b =>
    have ha := drop_head l a b hd
    rw [hd, rtr_head ha] at h
    injection h with h _
    rw [← h]; exact ha
theorem trim_nil {l : List Tk} (h : trimT l = []) : l.filter nbT = [] := by rw [← filter_trim, h]; rfl
theorem filter_cons_trim {l r : List Tk} {t : Tk} (h : trimT l = t :: r) : l.filter nbT = t :: r.filter nbT := by
  rw [← filter_trim, h, List.filter_cons_of_pos (by unfold nbT; rw [trim_head h]; rfl)]
def px2 : ByteArray := ⟨#[112, 120]⟩
/-- what stands in a condition's brackets: the name, the number -/
def shP (m : List Tk) : Option (Tk × Tk) :=
  match trimT m with
  | [] => none
  | n :: r =>
    if n.k ≠ 6 then none else
    match trimT r with
    | [] => none
    | c :: r2 =>
      if sgn c 58 = true then
        match trimT r2 with
        | [d] => if d.k = 5 ∧ d.u = px2 then some (n, d) else none
        | _ => none
      else none
def shG : List Tk → Option (Tk × Tk)
  | [x, y, z] => if x.k = 6 ∧ z.k = 5 ∧ z.u = px2 ∧ sgn y 58 = true then some (x, z) else none
  | _ => none
theorem shP_G (m : List Tk) : shP m = shG (m.filter nbT) := by
  unfold shP
  cases h1 : trimT m with
  | nil => rw [trim_nil h1]; rfl
  | cons n r =>
    rw [filter_cons_trim h1]
    show (if n.k ≠ 6 then none else _) = _
    cases h2 : trimT r with
    | nil =>
      rw [trim_nil h2]
      show (if n.k ≠ 6 then none else none) = none
      split <;> rfl
    | cons c r2 =>
      rw [filter_cons_trim h2]
      cases h3 : trimT r2 with
      | nil =>
        rw [trim_nil h3]
        simp [shG, h3]
      | cons d r3 =>
        rw [filter_cons_trim h3]
        have h4 : r3.filter nbT = [] → r3 = [] := fun h => by
          cases r3 with
          | nil => rfl
          | cons a b =>
            exfalso
            -- the last of trimmed tokens is no blank
            have h5 : rtr (trimT r2) = trimT r2 := by
              unfold trimT rtr
              rw [List.reverse_reverse]
              have : ∀ l : List Tk, (l.dropWhile bl0).dropWhile bl0 = l.dropWhile bl0 := fun l => by
                cases hl : l.dropWhile bl0 with
                | nil => rfl
                | cons x y => rw [List.dropWhile_cons_of_neg (by rw [drop_head l x y hl]; decide)]
              rw [this]
            rw [h3] at h5
            have h6 : ∀ l : List Tk, l.filter nbT = [] → rtr l = [] := by
              intro l
              induction l with
              | nil => intro _; rfl
              | cons x y ih =>
                intro hx
                rw [rtr_cons]
                have hbx : bl0 x = true := by
                  cases hb : bl0 x with
                  | true => rfl
                  | false => rw [List.filter_cons_of_pos (by unfold nbT; rw [hb]; rfl)] at hx; cases hx
                rw [List.filter_cons_of_neg (by unfold nbT; rw [hbx]; decide)] at hx
                rw [ih hx, if_pos rfl, if_pos hbx]
            rw [rtr_head (trim_head h3), h6 _ h] at h5
            injection h5 with _ h5
            cases h5
        cases r3 with
        | nil =>
          simp only [List.filter_nil, shG]
          by_cases q1 : n.k = 6
          · rw [if_neg (by simpa using q1)]
            by_cases q2 : sgn c 58 = true
            · simp [q1, q2, h3]
            · simp [q2]
          · rw [if_pos q1, if_neg (fun e => q1 e.1)]
        | cons a b =>
          have h5 : (a :: b).filter nbT ≠ [] := fun e => by have := h4 e; cases this
          cases hf : (a :: b).filter nbT with
          | nil => exact absurd hf h5
          | cons x y => simp [shG, h3]
/-- what stands there, by the nesting -/
def shR (ks : List Cm) : Option (Tk × Tk) :=
  match ks.filter (fun c => !blm c) with
  | [x, y, z] => if x.t.k = 6 ∧ z.t.k = 5 ∧ z.t.u = px2 ∧ sgn y.t 58 = true ∧ y.e = 0 then some (x.t, z.t) else none
  | _ => none
theorem Nst.ends {l r : List Tk} {e : Nat} {cs : List Cm} {c : Bool} (h : Nst l e cs r c) : ∀ x ∈ cs, x.e = clz x.t := by
  induction h with
  | nil => intro x hx; cases hx
  | endd => intro x hx; cases hx
  | opn _ _ _ _ _ ih2 =>
    intro x hx
    rcases List.mem_cons.1 hx with rfl | hx
    · rfl
    · exact ih2 x hx
  | one _ h2 _ ih =>
    intro x hx
    rcases List.mem_cons.1 hx with rfl | hx
    · exact h2.symm
    · exact ih x hx
theorem Nst.flat {l r : List Tk} {e : Nat} {cs : List Cm} {c : Bool} (h : Nst l e cs r c) : e = 0 → (∀ x ∈ cs, x.e = 0) → l = cs.map Cm.t ∧ r = [] := by
  induction h with
  | nil => intro _ _; exact ⟨rfl, rfl⟩
  | endd h1 _ => intro h; exact absurd h h1
  | opn _ h2 _ _ _ _ => intro _ h; exact absurd (h _ (List.mem_cons_self ..)) h2
  | one _ _ _ ih =>
    intro he h
    obtain ⟨h1, h2⟩ := ih he (fun x hx => h x (List.mem_cons_of_mem _ hx))
    exact ⟨by rw [List.map_cons, ← h1]; rfl, h2⟩
theorem Nst.simple : ∀ (l : List Tk), (∀ t ∈ l, clz t = 0) → Nst l 0 (l.map fun t => .mk t 0 [] false) [] false := by
  intro l
  induction l with
  | nil => intro _; exact .nil 0
  | cons t l ih => intro h; exact .one (fun h => absurd rfl h) (h t (by simp)) (ih fun x hx => h x (by simp [hx]))
theorem Nst.uniq {l r : List Tk} {e : Nat} {cs : List Cm} {c : Bool} (h : Nst l e cs r c) : ∀ {cs' r' c'}, Nst l e cs' r' c' → cs = cs' ∧ r = r' ∧ c = c' := by
  induction h with
  | nil e => intro _ _ _ h; obtain ⟨rfl, rfl, rfl⟩ := h.nil_inv; exact ⟨rfl, rfl, rfl⟩
  | endd h1 h2 =>
    intro _ _ _ h
    cases h with
    | endd _ _ => exact ⟨rfl, rfl, rfl⟩
    | opn h3 _ _ _ => rw [h3 h1] at h2; cases h2
    | one h3 _ _ => rw [h3 h1] at h2; cases h2
  | opn h1 h2 h3 h4 ih1 ih2 =>
    intro _ _ _ h
    cases h with
    | endd h5 h6 => rw [h1 h5] at h6; cases h6
    | opn _ _ h5 h6 =>
      obtain ⟨rfl, rfl, rfl⟩ := ih1 h5
      obtain ⟨rfl, rfl, rfl⟩ := ih2 h6
      exact ⟨rfl, rfl, rfl⟩
    | one _ h5 _ => exact absurd h5 h2
  | one h1 h2 h3 ih =>
    intro _ _ _ h
    cases h with
    | endd h5 h6 => rw [h1 h5] at h6; cases h6
    | opn _ h5 _ _ => exact absurd h2 h5
    | one _ _ h5 =>
      obtain ⟨rfl, rfl, rfl⟩ := ih h5
      exact ⟨rfl, rfl, rfl⟩
theorem clz6 {t : Tk} (h : t.k ≠ 7 ∧ t.k ≠ 10) : clz t = 0 := by unfold clz; rw [if_neg h.1, if_neg h.2]
theorem clz58 {t : Tk} (h : sgn t 58 = true) : clz t = 0 := by
  obtain ⟨h1, h2⟩ := sgn_iff.1 h
  unfold clz
  rw [if_neg (by omega), if_pos h1, h2]
  decide
theorem sh_eq {m : List Tk} {ks : List Cm} (h : Nst m 0 ks [] false) : shP m = shR ks := by
  rw [shP_G]
  by_cases hall : ∀ t ∈ m, clz t = 0
  · obtain ⟨rfl, _⟩ := h.uniq (Nst.simple m hall)
    unfold shR
    have : (m.map fun t => Cm.mk t 0 [] false).filter (fun c => !blm c) = (m.filter nbT).map fun t => Cm.mk t 0 [] false := by
      rw [List.filter_map]; rfl
    rw [this]
    cases m.filter nbT with
    | nil => rfl
    | cons a l =>
      cases l with
      | nil => rfl
      | cons b l =>
        cases l with
        | nil => rfl
        | cons c l =>
          cases l with
          | nil => simp [shG, Cm.t, Cm.e]
          | cons d l => rfl
  · have hR : shR ks = none := by
      unfold shR
      split
      · rename_i x y z hf
        rw [if_neg]
        intro hh
        apply hall
        have hx : ∀ c ∈ ks, c.e = 0 := fun c hc => by
          by_cases hb : blm c = true
          · rw [h.ends c hc]
            exact clz6 (by unfold blm bl0 at hb; simp at hb; omega)
          · have hm : c ∈ ks.filter (fun c => !blm c) := List.mem_filter.2 ⟨hc, by simpa using hb⟩
            rw [hf] at hm
            rw [h.ends c hc]
            simp only [List.mem_cons, List.not_mem_nil, or_false] at hm
            rcases hm with rfl | rfl | rfl
            · exact clz6 (by omega)
            · exact clz58 hh.2.2.2.1
            · exact clz6 (by omega)
        obtain ⟨h1, _⟩ := h.flat rfl hx
        intro t ht
        rw [h1] at ht
        obtain ⟨c, hc, rfl⟩ := List.mem_map.1 ht
        rw [← h.ends c hc]; exact hx c hc
      · rfl
    rw [hR]
    unfold shG
    split
    · rename_i x y z hf
      rw [if_neg]
      intro hh
      apply hall
      intro t ht
      by_cases hb : bl0 t = true
      · exact clz6 (by unfold bl0 at hb; simp at hb; omega)
      · have hm : t ∈ m.filter nbT := List.mem_filter.2 ⟨ht, by unfold nbT; simpa using hb⟩
        rw [hf] at hm
        simp only [List.mem_cons, List.not_mem_nil, or_false] at hm
        rcases hm with rfl | rfl | rfl
        · exact clz6 (by omega)
        · exact clz58 hh.2.2.2
        · exact clz6 (by omega)
    · rfl
end Go.Cas
