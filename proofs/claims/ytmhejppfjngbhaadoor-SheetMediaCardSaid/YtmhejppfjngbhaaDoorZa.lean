/- sheets: whether a media text applies: by the tokens, and by what they open: the same (plain) -/
import Derived.Test.YtmhejppfjngbhaaDoorYz
namespace Go.Proofs.YtmhejppfjngbhaaDoor
set_option linter.unusedVariables false
set_option linter.unusedSimpArgs false
open Go.RowKit Go.Cas

theorem sgn40 (t : Tk) : sgn t 40 = isS t ⟨#[40]⟩ := rfl
theorem sgn58 (t : Tk) : sgn t 58 = isS t ⟨#[58]⟩ := rfl
theorem sgn44 (t : Tk) : sgn t 44 = isS t ⟨#[44]⟩ := rfl
theorem cdI_sh (m : List Tk) (wd hg : Int) : cdI (trimT m) wd hg = (shP m).bind fun p => cdD (small p.1.t) p.2 wd hg := by
  unfold shP cdI
  cases trimT m with
  | nil => rfl
  | cons a r =>
    simp only
    by_cases ha : a.k = 6
    · rw [if_pos ha, if_neg (by simpa using ha)]
      cases trimT r with
      | nil => rfl
      | cons b r2 =>
        simp only
        rw [sgn58]
        by_cases hb : isS b ⟨#[58]⟩ = true
        · rw [if_pos hb, if_pos hb]
          cases trimT r2 with
          | nil => rfl
          | cons d r3 =>
            cases r3 with
            | nil =>
              simp only
              by_cases hd : d.k = 5 ∧ d.u = px2
              · rw [if_pos hd]; rfl
              · rw [if_neg hd]
                unfold cdD
                rw [if_neg (show ¬ (d.k = 5 ∧ d.u = pxS) from hd)]; rfl
            | cons _ _ => rfl
        · rw [if_neg hb, if_neg hb]; rfl
    · rw [if_neg ha, if_pos (by simpa using ha)]; rfl
/-- a condition of a page, by what is open -/
def cdC (c : Cm) (wd hg : Int) : Option Bool := if sgn c.t 40 = true ∧ c.cl = true then (shR c.ks).bind fun p => cdD (small p.1.t) p.2 wd hg else none
def leadC : List Cm → Option (List Cm)
  | a :: b :: c :: d :: r => if a.t.k = 0 ∧ b.t.k = 6 ∧ small b.t.t = anS ∧ c.t.k = 0 then some (d :: r) else none
  | _ => none
def enL : Nat → List Cm → Bool → Bool → Int → Int → Bool
  | 0, _, _, ho, _, _ => ho
  | f + 1, cs, fi, ho, wd, hg =>
    if cs = [] then ho
    else match (if fi = true then some cs else leadC cs) with
      | none => false
      | some [] => ho
      | some (x :: r) => match cdC x wd hg with
        | none => false
        | some b => enL f r false (ho && b) wd hg
def enC (cs : List Cm) (wd hg : Int) : Bool :=
  match cs with
  | [] => false
  | a :: r => if a.t.k = 6 then (if small a.t.t = prS then enL (r.length + 1) r false false wd hg else if small a.t.t = scS ∨ small a.t.t = alS then enL (r.length + 1) r false true wd hg else false) else enL (r.length + 2) (a :: r) true true wd hg
theorem Nst_zero {l r : List Tk} {e : Nat} {cs : List Cm} {c : Bool} (h : Nst l e cs r c) : e = 0 → r = [] ∧ c = false := by
  induction h with
  | nil => intro _; exact ⟨rfl, rfl⟩
  | endd h1 _ => intro h; exact absurd h h1
  | opn _ _ _ _ _ ih => exact ih
  | one _ _ _ ih => exact ih
theorem Nst_cons0 {t : Tk} {l : List Tk} {cs : List Cm} (h : Nst (t :: l) 0 cs [] false) : ∃ x cs', cs = x :: cs' ∧ x.t = t ∧ (clz t = 0 → Nst l 0 cs' [] false) := by
  cases h with
  | opn _ h2 h3 h4 => exact ⟨_, _, rfl, rfl, fun h => absurd h h2⟩
  | one _ _ h3 => exact ⟨_, _, rfl, rfl, fun _ => h3⟩
theorem Nst_cons0' {x : Cm} {l : List Tk} {cs : List Cm} (h : Nst l 0 (x :: cs) [] false) : ∃ l', l = x.t :: l' ∧ (clz x.t = 0 → Nst l' 0 cs [] false) := by
  cases h with
  | opn _ h2 h3 h4 => exact ⟨_, rfl, fun h => absurd h h2⟩
  | one _ _ h3 => exact ⟨_, rfl, fun _ => h3⟩
theorem clz0 {t : Tk} (h : t.k = 0) : clz t = 0 := clz6 (by omega)
theorem clz6' {t : Tk} (h : t.k = 6) : clz t = 0 := clz6 (by omega)
theorem lead_eq {l : List Tk} {cs : List Cm} (h : Nst l 0 cs [] false) : (lead l = none ∧ leadC cs = none) ∨ ∃ l' cs', lead l = some l' ∧ leadC cs = some cs' ∧ Nst l' 0 cs' [] false ∧ l' ≠ [] ∧ l'.length < l.length ∧ cs'.length < cs.length := by
  by_cases hl : ∃ a b c d r, l = a :: b :: c :: d :: r ∧ (a.k = 0 ∧ b.k = 6 ∧ small b.t = anS ∧ c.k = 0)
  · obtain ⟨a, b, c, d, r, rfl, hh⟩ := hl
    obtain ⟨xa, c1, rfl, ra, n1⟩ := Nst_cons0 h
    have n1 := n1 (clz0 hh.1)
    obtain ⟨xb, c2, rfl, rb, n2⟩ := Nst_cons0 n1
    have n2 := n2 (clz6' hh.2.1)
    obtain ⟨xc, c3, rfl, rc, n3⟩ := Nst_cons0 n2
    have n3 := n3 (clz0 hh.2.2.2)
    obtain ⟨xd, c4, rfl, rd, _⟩ := Nst_cons0 n3
    refine .inr ⟨d :: r, xd :: c4, ?_, ?_, n3, by simp, by simp, by simp⟩
    · rw [lead, if_pos hh]
    · rw [leadC, if_pos (by rw [ra, rb, rc]; exact hh)]
  · refine .inl ⟨?_, ?_⟩
    · unfold lead
      split
      · rename_i a b c d r
        rw [if_neg]
        intro hh
        exact hl ⟨a, b, c, d, r, rfl, hh⟩
      · rfl
    · unfold leadC
      split
      · rename_i a b c d r
        rw [if_neg]
        intro hh
        apply hl
        obtain ⟨l1, rfl, n1⟩ := Nst_cons0' h
        obtain ⟨l2, rfl, n2⟩ := Nst_cons0' (n1 (clz0 hh.1))
        obtain ⟨l3, rfl, n3⟩ := Nst_cons0' (n2 (clz6' hh.2.1))
        obtain ⟨l4, rfl, n4⟩ := Nst_cons0' (n3 (clz0 hh.2.2.2))
        exact ⟨_, _, _, _, _, rfl, hh⟩
      · rfl
theorem cd_eq {t : Tk} {l : List Tk} {x : Cm} {cs : List Cm} (wd hg : Int) (h : Nst (t :: l) 0 (x :: cs) [] false) : (cdP (t :: l) wd hg = none ∧ cdC x wd hg = none) ∨ ∃ l' b, cdP (t :: l) wd hg = some (l', b) ∧ cdC x wd hg = some b ∧ Nst l' 0 cs [] false ∧ l'.length ≤ l.length := by
  by_cases h40 : sgn t 40 = true
  · have hz : clz t = 41 := by rw [clz_is, ← sgn40, if_pos h40]; split <;> rfl
    cases h with
    | one _ h2 _ => omega
    | @opn _ _ r _ _ ks _ c _ h1 h2 h3 h4 =>
      rw [hz] at h3
      have hc := h3.clo (.inl rfl) [] 1
      have he : clo [] (t :: l) 0 = clo [41] l 1 := by rw [clo_op h2, hz]
      have hle := h3.le
      cases c with
      | false =>
        refine .inl ⟨?_, ?_⟩
        · have : clo [] (t :: l) 0 = l.length + 1 := by rw [he, hc, if_neg (by decide)]; omega
          unfold cdP
          simp only
          rw [← sgn40, if_pos h40, if_pos this]
        · unfold cdC
          rw [if_neg (by simp [Cm.cl])]
      | true =>
        obtain ⟨m, y, e1, _, _, n0⟩ := h3.cut rfl
        have e2 : clo [] (t :: l) 0 = m.length + 1 := by
          rw [he, hc, if_pos rfl, if_pos rfl, e1]
          simp only [List.length_append, List.length_cons]; omega
        have e3 : cdP (t :: l) wd hg = (cdC (.mk t (clz t) ks true) wd hg).map fun b => (r, b) := by
          unfold cdP cdC
          simp only
          rw [← sgn40, if_pos h40, if_neg (by rw [e2, e1]; simp), if_pos ⟨h40, rfl⟩, e2]
          have e4 : List.drop 1 (List.take (m.length + 1) (t :: l)) = m := by
            rw [List.take_succ_cons, List.drop_succ_cons, List.drop_zero, e1, List.take_left]
          have e5 : List.drop (m.length + 1 + 1) (t :: l) = r := by
            rw [List.drop_succ_cons, e1, ← List.drop_drop, List.drop_left]; rfl
          rw [e4, e5, cdI_sh, sh_eq n0]; rfl
        cases hq : cdC (.mk t (clz t) ks true) wd hg with
        | none => rw [hq] at e3; exact .inl ⟨e3, rfl⟩
        | some b =>
          rw [hq] at e3
          exact .inr ⟨r, b, e3, rfl, h4, hle⟩
  · refine .inl ⟨?_, ?_⟩
    · unfold cdP
      simp only
      rw [← sgn40, if_neg h40]
    · obtain ⟨l', e, _⟩ := Nst_cons0' h
      injection e with e _
      unfold cdC
      rw [← e, if_neg (fun q => h40 q.1)]
theorem loop_eq (wd hg : Int) : ∀ (f : Nat) (l : List Tk) (cs : List Cm) (g : Nat) (fi ho : Bool), Nst l 0 cs [] false → l.length < f → cs.length < g → (fi = true → l ≠ []) → enW f l fi ho wd hg = enL g cs fi ho wd hg := by
  intro f
  induction f with
  | zero => intro l cs g fi ho _ h; omega
  | succ f ih =>
    intro l cs g fi ho h hl hc hfi
    cases g with
    | zero => omega
    | succ g =>
    cases l with
    | nil =>
      obtain ⟨rfl, _, _⟩ := h.nil_inv
      cases fi with
      | true => exact absurd rfl (hfi rfl)
      | false => rw [enW_end, enL, if_pos rfl]
    | cons t l =>
      obtain ⟨x, c1, rfl, _, _⟩ := Nst_cons0 h
      rw [List.length_cons] at hl hc
      cases fi with
      | true =>
        rw [enW_go (l' := t :: l) (by simp) (if_pos rfl), enL, if_neg (by simp), if_pos rfl]
        simp only
        rcases cd_eq wd hg h with ⟨q1, q2⟩ | ⟨l', b, q1, q2, n, hn⟩
        · rw [q1, q2]
        · rw [q1, q2]
          simp only
          exact ih l' c1 g false _ n (by omega) (by omega) (by simp)
      | false =>
        rcases lead_eq h with ⟨q1, q2⟩ | ⟨l', cs', q1, q2, n, hn, hll, hcc⟩
        · rw [enW_no (by simp) q1, enL, if_neg (by simp), if_neg (by simp), q2]
        · cases l' with
          | nil => exact absurd rfl hn
          | cons t2 l2 =>
            obtain ⟨x2, c2, rfl, _, _⟩ := Nst_cons0 n
            rw [List.length_cons, List.length_cons] at hll hcc
            rw [enW_go (l' := t2 :: l2) (by simp) (by rw [if_neg (by simp), q1]), enL, if_neg (by simp), if_neg (by simp), q2]
            simp only
            rcases cd_eq wd hg n with ⟨q3, q4⟩ | ⟨l3, b, q3, q4, n3, hn3⟩
            · rw [q3, q4]
            · rw [q3, q4]
              simp only
              exact ih l3 c2 g false _ n3 (by omega) (by omega) (by simp)
theorem en_eq {l : List Tk} {cs : List Cm} (wd hg : Int) (h : Nst l 0 cs [] false) : enP l wd hg = enC cs wd hg := by
  cases l with
  | nil => obtain ⟨rfl, _, _⟩ := h.nil_inv; rfl
  | cons t l =>
    obtain ⟨x, c1, rfl, rt, hz⟩ := Nst_cons0 h
    unfold enP enC
    simp only
    rw [rt]
    by_cases hk : t.k = 6
    · have n := hz (clz6' hk)
      have q := fun ho => loop_eq wd hg (l.length + 1) l c1 (c1.length + 1) false ho n (by omega) (by omega) (by simp)
      rw [if_pos hk, if_pos hk, q false, q true]
    · rw [if_neg hk, if_neg hk]
      exact loop_eq wd hg _ _ _ _ true true h (by simp) (by simp) (by simp)
/-- tokens between commas -/
def pcs : List Tk → List (List Tk)
  | [] => [[]]
  | t :: l => if sgn t 44 = true then [] :: pcs l else match pcs l with
    | [] => [[t]]
    | p :: q => (t :: p) :: q
theorem pcs_ne (l : List Tk) : pcs l ≠ [] := by
  cases l with
  | nil => simp [pcs]
  | cons t l =>
    rw [pcs]
    split
    · simp
    · split <;> simp
theorem trimT_bl {t : Tk} {l : List Tk} (h : bl0 t = true) : trimT (t :: l) = trimT l := by unfold trimT; rw [List.dropWhile_cons_of_pos h]
theorem bl_44 {t : Tk} (h : bl0 t = true) : sgn t 44 = false := by unfold bl0 at h; unfold sgn; simp at h ⊢; omega
theorem pcs_bl {t : Tk} {l : List Tk} (h : bl0 t = true) : (pcs (t :: l)).map trimT = (pcs l).map trimT := by
  rw [pcs, if_neg (by rw [bl_44 h]; simp)]
  cases hp : pcs l with
  | nil => exact absurd hp (pcs_ne l)
  | cons p q => simp only [List.map_cons]; rw [trimT_bl h]
theorem pcs_lead (l : List Tk) : (pcs (l.dropWhile bl0)).map trimT = (pcs l).map trimT := by
  induction l with
  | nil => rfl
  | cons t l ih =>
    by_cases h : bl0 t = true
    · rw [List.dropWhile_cons_of_pos h, ih, pcs_bl h]
    · rw [List.dropWhile_cons_of_neg h]
theorem pcs_end {z : Tk} (h : bl0 z = true) : ∀ l : List Tk, (pcs (l ++ [z])).map trimT = (pcs l).map trimT ∧ ∃ p q p' q', pcs (l ++ [z]) = p :: q ∧ pcs l = p' :: q' ∧ (p = p' ∨ p = p' ++ [z]) := by
  have hzk : z.k = 0 := by unfold bl0 at h; simpa using h
  have htr : ∀ p : List Tk, trimT (p ++ [z]) = trimT p := fun p => by
    unfold trimT
    by_cases hp : p.dropWhile bl0 = []
    · rw [List.dropWhile_append, hp]
      simp [h]
    · rw [List.dropWhile_append]
      have : (p.dropWhile bl0).isEmpty = false := by cases e : p.dropWhile bl0 with | nil => exact absurd e hp | cons _ _ => rfl
      rw [this]
      simp only [Bool.false_eq_true, if_false]
      exact rtr_bl hzk
  intro l
  induction l with
  | nil =>
    have e1 : pcs [z] = [[z]] := by rw [pcs, if_neg (by rw [bl_44 h]; simp)]; rfl
    rw [List.nil_append, e1, show pcs [] = [[]] from rfl]
    refine ⟨?_, [z], [], [], [], rfl, rfl, .inr rfl⟩
    have := htr []
    simp only [List.map_cons, List.map_nil]
    rw [List.nil_append] at this
    rw [this]
  | cons t l ih =>
    obtain ⟨h1, p, q, p', q', h2, h3, h4⟩ := ih
    rw [List.cons_append, pcs, pcs]
    by_cases hs : sgn t 44 = true
    · rw [if_pos hs, if_pos hs]
      refine ⟨?_, _, _, _, _, rfl, rfl, .inl rfl⟩
      rw [List.map_cons, List.map_cons, h1]
    · rw [if_neg hs, if_neg hs, h2, h3]
      rw [h2, h3, List.map_cons, List.map_cons] at h1
      injection h1 with h5 h6
      refine ⟨?_, _, _, _, _, rfl, rfl, ?_⟩
      · simp only [List.map_cons]
        rw [h6]
        rcases h4 with rfl | rfl
        · rfl
        · rw [← List.cons_append, htr]
      · rcases h4 with rfl | rfl
        · exact .inl rfl
        · exact .inr rfl
theorem pcs_rtr (l : List Tk) : (pcs (rtr l)).map trimT = (pcs l).map trimT := by
  suffices ∀ n, ∀ l : List Tk, l.length = n → (pcs (rtr l)).map trimT = (pcs l).map trimT from this _ l rfl
  intro n
  induction n with
  | zero => intro l hl; obtain rfl := List.eq_nil_of_length_eq_zero hl; rfl
  | succ n ih =>
    intro l hl
    rcases List.eq_nil_or_concat l with rfl | ⟨a, z, ho⟩
    · cases hl
    · rw [List.concat_eq_append] at ho
      subst ho
      by_cases hk : z.k = 0
      · rw [rtr_bl hk, ih a (by simpa using hl), (pcs_end (by unfold bl0; simp [hk]) a).1]
      · rw [rtr_no hk]
theorem pcs_trim (l : List Tk) : (pcs (trimT l)).map trimT = (pcs l).map trimT := by
  show (pcs (rtr (l.dropWhile bl0))).map trimT = _
  rw [pcs_rtr, pcs_lead]
/-- whether a media text applies -/
def apW (l : List Tk) (wd hg : Int) : Bool := (pcs l).any fun p => enP (trimT p) wd hg
def apT (l : List Tk) (wd hg : Int) : Bool := if trimT l = [] then true else apW (trimT l) wd hg
def apR (l : List Tk) (wd hg : Int) : Bool := if trimT l = [] then true else apW l wd hg
theorem ap_eq (l : List Tk) (wd hg : Int) : apT l wd hg = apR l wd hg := by
  have e : ∀ x : List (List Tk), (x.any fun p => enP (trimT p) wd hg) = (x.map trimT).any fun p => enP p wd hg := fun x => by rw [List.any_map]; rfl
  unfold apT apR apW
  rw [e, e, pcs_trim]
end Go.Proofs.YtmhejppfjngbhaaDoor
