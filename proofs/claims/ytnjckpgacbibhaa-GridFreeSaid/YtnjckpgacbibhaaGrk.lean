/- the grid: a run for any list; what is placed by itself meets no other -/
import Derived.Test.YtnjckpgacbibhaaGrj
import Derived.Test.Ytnjckpgacbibhaaopen2
namespace Go.Proofs.Ytnjckpgacbibhaa
set_option linter.unusedVariables false
set_option linter.unusedSimpArgs false
open Go.RowKit Go.Cas Go.WideShapes Go.ChangeShapes

/-- what placing leaves, told as its two runs -/
def PlOK (I : List CIn) (cols : Int) (L4 : List Itm) (C3 : Int) : Prop := ∃ L3 S3, Run3 0 (I.map hIt) ((I.map hIt).map stB) (colF (colB cols) (I.map hIt)) L3 S3 C3 ∧ Run4 C3 0 L3 S3 1 1 L4
theorem gg0 (I : List CIn) (cols : Int) : GG 300 (I.map hIt) ((I.map hIt).map stB) (colF (colB cols) (I.map hIt)) := by
  have hcb := colF_bd (colB cols) (by unfold colB; omega) I (I.map hIt).length
  rw [List.take_length] at hcb
  refine ⟨by simp, fun x hx => ?_, by omega, by omega⟩
  have hx0 := hx
  obtain ⟨y, _, rfl⟩ := List.mem_map.1 hx
  have h1 := spanN_bd y.p; have h2 := spanN_bd y.q
  have h3 : 0 ≤ atI y.c ∧ atI y.c ≤ 200 := by unfold atI; omega
  have h4 : 0 ≤ atI y.r ∧ atI y.r ≤ 200 := by unfold atI; omega
  have h5 : (spanN y.p : Int) ≤ colF (colB cols) (I.map hIt) := (colF_ge _ (I.map hIt)).2 (hIt y) hx0
  simp only [hIt] at h5 ⊢
  omega
theorem pl_ex (I : List CIn) (cols : Int) (hI : I.length ≤ 60) : ∃ L4 C3, PlOK I cols L4 C3 := by
  obtain ⟨L3, S3, C3, h1, h2, h3⟩ := run3_ex _ 0 _ _ _ 300 rfl (gg0 I cols)
  obtain ⟨L4, h4, h5, h6⟩ := run4_ex _ 0 L3 S3 C3 _ 1 1 rfl h2 (by omega) (by omega) (by omega) (by omega)
  exact ⟨L4, C3, L3, S3, h1, h4⟩
theorem ovI.symm {a b : Itm} (h : ovI a b) : ovI b a := ⟨h.2.1, h.1, h.2.2.2, h.2.2.1⟩
/-- what holds all along: L0 what came in, L and S what stands -/
structure Inv (L0 L : List Itm) (S : List Bool) (C : Int) : Prop where
  len : L.length = L0.length
  lenS : S.length = L0.length
  one : 1 ≤ C
  spn : ∀ x ∈ L0, 1 ≤ x.p ∧ x.p ≤ 20 ∧ 1 ≤ x.q ∧ x.q ≤ 20 ∧ 0 ≤ x.r ∧ (x.p : Int) ≤ C ∧ (0 < x.c → x.c + x.p - 1 ≤ C)
  old : ∀ (i : Nat), S[i]? = some false → L[i]? = L0[i]?
  std : ∀ (i : Nat) x0, L0[i]? = some x0 → stB x0 = true → S[i]? = some true
  fit : ∀ (i : Nat) x, L[i]? = some x → S[i]? = some true → 1 ≤ x.c ∧ 1 ≤ x.r ∧ x.c + x.p - 1 ≤ C ∧ 1 ≤ x.p ∧ x.p ≤ 20 ∧ 1 ≤ x.q ∧ x.q ≤ 20
  apart : ∀ (i k : Nat) x y x0, i ≠ k → L[i]? = some x → L[k]? = some y → S[i]? = some true → S[k]? = some true → L0[i]? = some x0 → stB x0 = false → ¬ ovI x y
theorem inv0 (I : List CIn) (cols : Int) : Inv (I.map hIt) (I.map hIt) ((I.map hIt).map stB) (colF (colB cols) (I.map hIt)) := by
  have hg := gg0 I cols
  have hcb := colF_bd (colB cols) (by unfold colB; omega) I (I.map hIt).length
  rw [List.take_length] at hcb
  have hcol : ∀ (L : List Itm) (C : Int), (∀ x ∈ L, 0 < x.c → x.c + x.p - 1 ≤ colF C L) := by
    intro L
    induction L with
    | nil => intro C x hx; cases hx
    | cons y L ih =>
      intro C x hx hc
      have h1 : colF C (y :: L) = colF (colS C y) L := rfl
      rw [h1]
      rcases List.mem_cons.1 hx with e | hx
      · subst e
        have h2 := (colF_ge (colS C x) L).1
        have h3 : x.c + x.p - 1 ≤ colS C x := by unfold colS; rw [if_pos hc]; omega
        omega
      · exact ih _ x hx hc
  have hfit : ∀ (i : Nat) x, (I.map hIt)[i]? = some x → ((I.map hIt).map stB)[i]? = some true → 0 < x.c ∧ 0 < x.r := by
    intro i x hx hs
    rw [List.getElem?_map, hx] at hs
    simp at hs
    unfold stB at hs
    exact of_decide_eq_true hs
  refine ⟨rfl, by simp, by omega, fun x hx => ?_, fun _ _ => rfl, fun i x0 h1 h2 => by rw [List.getElem?_map, h1]; simp [h2], fun i x hx hs => ?_, fun i k x y x0 hne hx hy hsi hsk h0 hb => ?_⟩
  · have := hg.each x hx
    exact ⟨by omega, by omega, by omega, by omega, by omega, by omega, hcol _ _ x hx⟩
  · have h1 := hfit i x hx hs
    have h2 := hg.each x (List.mem_of_getElem? hx)
    have h3 := hcol _ (colB cols) x (List.mem_of_getElem? hx) h1.1
    omega
  · rw [List.getElem?_map, h0] at hsi
    simp [hb] at hsi
/-- one more is placed where it is free -/
theorem Inv.put {L0 L : List Itm} {S : List Bool} {C C' : Int} (v : Inv L0 L S C) {i : Nat} {x : Itm} (hx : L[i]? = some x) (hs : S[i]? = some false) {c r : Int} (hf : FreeP L S ⟨c, x.p, r, x.q⟩) (h1 : 1 ≤ c) (h2 : 1 ≤ r) (h3 : c + x.p - 1 ≤ C') (hC : C ≤ C') :
    Inv L0 (L.set i ⟨c, x.p, r, x.q⟩) (S.set i true) C' := by
  have hiL := (List.getElem?_eq_some_iff.1 hx).1
  have hiS := (List.getElem?_eq_some_iff.1 hs).1
  have hx0 : L0[i]? = some x := by rw [← v.old i hs]; exact hx
  have hsp := v.spn x (List.mem_of_getElem? hx0)
  refine ⟨by simp [v.len], by simp [v.lenS], by have := v.one; omega, fun y hy => by have h4 := v.spn y hy; exact ⟨h4.1, h4.2.1, h4.2.2.1, h4.2.2.2.1, h4.2.2.2.2.1, by omega, fun h => by have := h4.2.2.2.2.2.2 h; omega⟩, fun k hk => ?_, fun k y0 h4 h5 => ?_, fun k y hy hk => ?_, fun k j y z y0 hne hy hz hk hj h0 hb => ?_⟩
  · have hne : i ≠ k := fun e => by subst e; rw [List.getElem?_set_self hiS] at hk; cases hk
    rw [List.getElem?_set_ne hne] at hk ⊢
    exact v.old k hk
  · by_cases e : i = k
    · subst e; rw [List.getElem?_set_self hiS]
    · rw [List.getElem?_set_ne e]; exact v.std k y0 h4 h5
  · by_cases e : i = k
    · subst e
      rw [List.getElem?_set_self hiL] at hy
      injection hy with hy; subst hy
      simp only
      omega
    · rw [List.getElem?_set_ne e] at hy hk
      have := v.fit k y hy hk
      omega
  · by_cases e1 : i = k
    · subst e1
      have e2 : i ≠ j := hne
      rw [List.getElem?_set_self hiL] at hy
      injection hy with hy; subst hy
      rw [List.getElem?_set_ne e2] at hz hj
      exact fun ho => hf j z hz hj ho.symm
    · by_cases e2 : i = j
      · subst e2
        rw [List.getElem?_set_self hiL] at hz
        injection hz with hz; subst hz
        rw [List.getElem?_set_ne e1] at hy hk
        exact fun ho => hf k y hy hk ho
      · rw [List.getElem?_set_ne e1] at hy hk
        rw [List.getElem?_set_ne e2] at hz hj
        exact v.apart k j y z y0 hne hy hz hk hj h0 hb
theorem Srch.ok_ {ok : Int → Prop} {c t : Int} {n : Nat} (h : Srch ok c t n) : ok t := by
  induction h with
  | here h => exact h
  | next _ _ ih => exact ih
theorem Srch2.ok_ {ok : Int → Int → Prop} {C p r c tr tc : Int} {n : Nat} (h : Srch2 ok C p r c tr tc n) : ok tr tc := by
  induction h with
  | here _ h => exact h
  | next _ _ _ ih => exact ih
  | wrap _ _ _ ih => exact ih
theorem run3_inv {L0 : List Itm} {i : Nat} {L L' : List Itm} {S S' : List Bool} {C C' : Int} (h : Run3 i L S C L' S' C') (v : Inv L0 L S C) : Inv L0 L' S' C' := by
  induction h with
  | done _ => exact v
  | skip _ _ _ _ ih => exact ih v
  | @put i L L' S S' C C' x t k hx hs hr hsr _ ih =>
    have hx0 : L0[i]? = some x := by rw [← v.old i hs]; exact hx
    have hsp := v.spn x (List.mem_of_getElem? hx0)
    have hge := hsr.ge
    exact ih (v.put hx hs hsr.ok_ (by omega) (by omega) (by omega) (by omega))
theorem run4_inv {L0 : List Itm} {C : Int} {i : Nat} {L L' : List Itm} {S : List Bool} {row col : Int} (h : Run4 C i L S row col L') (v : Inv L0 L S C) (hr : 1 ≤ row) (hc : 1 ≤ col) (hd : ∀ j, j < i → j < L0.length → S[j]? = some true) :
    ∃ S', Inv L0 L' S' C ∧ ∀ j, j < L0.length → S'[j]? = some true := by
  induction h with
  | @done i L S row col hl => exact ⟨S, v, fun j hj => hd j (by have := v.len; omega) hj⟩
  | @skip i L L' S row col x hx hs hn ih => exact ih v hr hc (fun j hj hjl => by
      by_cases e : j = i
      · subst e; exact hs
      · exact hd j (by omega) hjl)
  | @given i L L' S row col x t k hx hs hxc hsr hn ih =>
    have hx0 : L0[i]? = some x := by rw [← v.old i hs]; exact hx
    have hsp := v.spn x (List.mem_of_getElem? hx0)
    have hge := hsr.ge
    have ht : 1 ≤ t := by split at hge <;> omega
    exact ih (v.put hx hs hsr.ok_ (by omega) ht (hsp.2.2.2.2.2.2 hxc) (Int.le_refl _)) ht (by omega) (fun j hj hjl => by
      by_cases e : i = j
      · subst e; rw [List.getElem?_set_self (by rw [v.lenS]; exact hjl)]
      · rw [List.getElem?_set_ne e]; exact hd j (by omega) hjl)
  | @found i L L' S row col x tr tc k hx hs hxc hsr hn ih =>
    have h1 := hsr.bd; have h2 := hsr.tc1 hc
    exact ih (v.put hx hs hsr.ok_ h2 (by omega) h1.2 (Int.le_refl _)) (by omega) h2 (fun j hj hjl => by
      by_cases e : i = j
      · subst e; rw [List.getElem?_set_self (by rw [v.lenS]; exact hjl)]
      · rw [List.getElem?_set_ne e]; exact hd j (by omega) hjl)
theorem run3_bd {i : Nat} {L L' : List Itm} {S S' : List Bool} {C C' : Int} (h : Run3 i L S C L' S' C') : ∀ E : Int, GG E L S C → GG (E + 30 * ((L.length - i : Nat) : Int)) L' S' C' := by
  induction h with
  | @done i L S C hl => intro E g; exact g.mono (by omega)
  | @skip i L L' S S' C C' x b hx hb hor hn ih =>
    intro E g
    have hi := (List.getElem?_eq_some_iff.1 hx).1
    exact (ih E g).mono (by omega)
  | @put i L L' S S' C C' x t k hx hb hr hsr hn ih =>
    intro E g
    have hi := (List.getElem?_eq_some_iff.1 hx).1
    have hp := g.pos; have hC := g.cols
    have hxb := g.each x (List.mem_of_getElem? hx)
    have ht := hsr.le (M := E + 1) (fun c hc => g.farC (by omega)) (by omega)
    have g' := g.set_ (E' := E + 30) (C' := max C (t + x.p - 1)) (c := t) (r := x.r) hx (by omega) (by omega) (by omega) (by omega) (by omega) (by omega) (by omega)
    exact (ih (E + 30) g').mono (by simp only [List.length_set]; omega)
theorem run4_bd {C : Int} {i : Nat} {L L' : List Itm} {S : List Bool} {row col : Int} (h : Run4 C i L S row col L') : ∀ E : Int, GG E L S C → 1 ≤ row → row ≤ E + 1 → 1 ≤ col → col ≤ E + 1 → ∀ x ∈ L', x.c ≤ E + 30 * ((L.length - i : Nat) : Int) ∧ x.r ≤ E + 30 * ((L.length - i : Nat) : Int) := by
  induction h with
  | @done i L S row col hl => intro E g _ _ _ _ x hx; have := g.each x hx; omega
  | @skip i L L' S row col x hx hs hn ih =>
    intro E g h1 h2 h3 h4 y hy
    have hi := (List.getElem?_eq_some_iff.1 hx).1
    have := ih E g h1 h2 h3 h4 y hy
    omega
  | @given i L L' S row col x t k hx hs hxc hsr hn ih =>
    intro E g h1 h2 h3 h4 y hy
    have hi := (List.getElem?_eq_some_iff.1 hx).1
    obtain ⟨n1, n2, n3, n4, g'⟩ := Run4.next (tr := t) (tc := x.c) g hx ⟨h1, h2⟩ ⟨h3, h4⟩ (.inl ⟨hxc, rfl, k, hsr⟩)
    have := ih (E + 30) g' n1 (by omega) n3 (by omega) y hy
    simp only [List.length_set] at this
    omega
  | @found i L L' S row col x tr tc k hx hs hxc hsr hn ih =>
    intro E g h1 h2 h3 h4 y hy
    have hi := (List.getElem?_eq_some_iff.1 hx).1
    obtain ⟨n1, n2, n3, n4, g'⟩ := Run4.next g hx ⟨h1, h2⟩ ⟨h3, h4⟩ (.inr ⟨hxc, k, hsr⟩)
    have := ih (E + 30) g' n1 (by omega) n3 (by omega) y hy
    simp only [List.length_set] at this
    omega
theorem rowsF_ge (L : List Itm) : ∀ x ∈ L, x.r + x.q - 1 ≤ rowsF L := by
  have : ∀ (L : List Itm) (a : Int), a ≤ L.foldl (fun a (x : Itm) => max a (x.r + x.q - 1)) a ∧ ∀ x ∈ L, x.r + x.q - 1 ≤ L.foldl (fun a (x : Itm) => max a (x.r + x.q - 1)) a := by
    intro L
    induction L with
    | nil => intro a; exact ⟨Int.le_refl _, fun x hx => by cases hx⟩
    | cons y L ih =>
      intro a
      have h := ih (max a (y.r + y.q - 1))
      simp only [List.foldl_cons]
      refine ⟨by omega, fun x hx => ?_⟩
      rcases List.mem_cons.1 hx with e | hx
      · subst e; omega
      · exact h.2 x hx
  exact (this L 0).2
/-- all that is claimed of what is placed -/
structure PlFin (I : List CIn) (L4 : List Itm) (C3 : Int) : Prop where
  len : L4.length = I.length
  one : 1 ≤ C3
  top : C3 ≤ 100000
  each : ∀ x ∈ L4, 1 ≤ x.c ∧ x.c ≤ 100000 ∧ 1 ≤ x.r ∧ x.r ≤ 100000 ∧ x.c + x.p - 1 ≤ C3 ∧ x.r + x.q - 1 ≤ rowsF L4 ∧ 1 ≤ x.p ∧ x.p ≤ 20 ∧ 1 ≤ x.q ∧ x.q ≤ 20
  apart : ∀ (i k : Nat) x y z, i ≠ k → L4[i]? = some x → L4[k]? = some y → I[i]? = some z → ¬ (0 < z.c ∧ 0 < z.r) → ¬ ovI x y
theorem pl_fin {I : List CIn} {cols : Int} {L4 : List Itm} {C3 : Int} (hI : I.length ≤ 60) (h : PlOK I cols L4 C3) : PlFin I L4 C3 := by
  obtain ⟨L3, S3, h3, h4⟩ := h
  have v3 := run3_inv h3 (inv0 I cols)
  obtain ⟨S4, v4, hall⟩ := run4_inv h4 v3 (by omega) (by omega) (fun j hj => by omega)
  have hl3 : L3.length = I.length := by rw [v3.len]; simp
  have g3 : GG 3000 L3 S3 C3 := (run3_bd h3 300 (gg0 I cols)).mono (by simp; omega)
  have b4 := run4_bd h4 3000 g3 (by omega) (by omega) (by omega) (by omega)
  have hlen : L4.length = I.length := by rw [v4.len]; simp
  refine ⟨hlen, v4.one, by have := g3.cols; omega, fun x hx => ?_, fun i k x y z hne hx hy hz hzn => ?_⟩
  · obtain ⟨i, hi⟩ := List.getElem?_of_mem hx
    have hil := (List.getElem?_eq_some_iff.1 hi).1
    have h1 := v4.fit i x hi (hall i (by rw [← v4.len]; exact hil))
    have h2 := rowsF_ge L4 x hx
    have h5 := b4 x hx
    omega
  · have hil := (List.getElem?_eq_some_iff.1 hx).1
    have hkl := (List.getElem?_eq_some_iff.1 hy).1
    refine v4.apart i k x y (hIt z) hne hx hy (hall i (by rw [← v4.len]; exact hil)) (hall k (by rw [← v4.len]; exact hkl)) (by rw [List.getElem?_map, hz]; rfl) ?_
    unfold stB hIt
    simp only
    refine decide_eq_false (fun h => hzn ?_)
    unfold atI at h
    omega
end Go.Proofs.Ytnjckpgacbibhaa
