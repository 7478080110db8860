/- the grid: the runs of the third and the fourth pass, and that there is one -/
import Derived.Test.YtnjckpgacbibhaaGre
namespace Go.Proofs.Ytnjckpgacbibhaa
set_option linter.unusedVariables false
set_option linter.unusedSimpArgs false
open Go.RowKit Go.Cas

/-- items whose row is told and whose column is not -/
inductive Run3 : Nat → List Itm → List Bool → Int → List Itm → List Bool → Int → Prop
  | done {i : Nat} {L : List Itm} {S : List Bool} {C : Int} : L.length ≤ i → Run3 i L S C L S C
  | skip {i : Nat} {L L' : List Itm} {S S' : List Bool} {C C' : Int} {x : Itm} {b : Bool} : L[i]? = some x → S[i]? = some b → (b = true ∨ x.r = 0) → Run3 (i + 1) L S C L' S' C' → Run3 i L S C L' S' C'
  | put {i : Nat} {L L' : List Itm} {S S' : List Bool} {C C' : Int} {x : Itm} {t : Int} {k : Nat} : L[i]? = some x → S[i]? = some false → x.r ≠ 0 → Srch (fun c => FreeP L S ⟨c, x.p, x.r, x.q⟩) 1 t k →
      Run3 (i + 1) (L.set i ⟨t, x.p, x.r, x.q⟩) (S.set i true) (max C (t + x.p - 1)) L' S' C' → Run3 i L S C L' S' C'
/-- the others, from a cursor on -/
inductive Run4 (C : Int) : Nat → List Itm → List Bool → Int → Int → List Itm → Prop
  | done {i : Nat} {L : List Itm} {S : List Bool} {row col : Int} : L.length ≤ i → Run4 C i L S row col L
  | skip {i : Nat} {L L' : List Itm} {S : List Bool} {row col : Int} {x : Itm} : L[i]? = some x → S[i]? = some true → Run4 C (i + 1) L S row col L' → Run4 C i L S row col L'
  | given {i : Nat} {L L' : List Itm} {S : List Bool} {row col : Int} {x : Itm} {t : Int} {k : Nat} : L[i]? = some x → S[i]? = some false → 0 < x.c → Srch (fun r => FreeP L S ⟨x.c, x.p, r, x.q⟩) (if x.c < col then row + 1 else row) t k →
      Run4 C (i + 1) (L.set i ⟨x.c, x.p, t, x.q⟩) (S.set i true) t x.c L' → Run4 C i L S row col L'
  | found {i : Nat} {L L' : List Itm} {S : List Bool} {row col : Int} {x : Itm} {tr tc : Int} {k : Nat} : L[i]? = some x → S[i]? = some false → ¬ 0 < x.c → Srch2 (fun r c => FreeP L S ⟨c, x.p, r, x.q⟩) C x.p row col tr tc k →
      Run4 C (i + 1) (L.set i ⟨tc, x.p, tr, x.q⟩) (S.set i true) tr tc L' → Run4 C i L S row col L'
/-- items within bounds -/
structure GG (E : Int) (L : List Itm) (S : List Bool) (C : Int) : Prop where
  len : S.length = L.length
  each : ∀ x ∈ L, 0 ≤ x.c ∧ x.c + x.p ≤ E ∧ 0 ≤ x.r ∧ x.r + x.q ≤ E ∧ 1 ≤ x.p ∧ x.p ≤ 20 ∧ 1 ≤ x.q ∧ x.q ≤ 20 ∧ (x.p : Int) ≤ C
  cols : C ≤ E
  pos : 0 ≤ E
theorem GG.mono {E E' : Int} {L : List Itm} {S : List Bool} {C : Int} (g : GG E L S C) (h : E ≤ E') : GG E' L S C :=
  ⟨g.len, fun x hx => by have := g.each x hx; omega, by have := g.cols; omega, by have := g.pos; omega⟩
theorem GG.farC {E : Int} {L : List Itm} {S : List Bool} {C : Int} (g : GG E L S C) {c r : Int} {p q : Nat} (h : E < c) : FreeP L S ⟨c, p, r, q⟩ := by
  intro i f hf _ ho
  have := g.each f (List.mem_of_getElem? hf)
  have := ho.2.1
  simp only at this
  omega
theorem GG.farR {E : Int} {L : List Itm} {S : List Bool} {C : Int} (g : GG E L S C) {c r : Int} {p q : Nat} (h : E < r) : FreeP L S ⟨c, p, r, q⟩ := by
  intro i f hf _ ho
  have := g.each f (List.mem_of_getElem? hf)
  have := ho.2.2.2
  simp only at this
  omega
theorem GG.set_ {E E' : Int} {L : List Itm} {S : List Bool} {C C' : Int} (g : GG E L S C) {i : Nat} {c r : Int} {x : Itm} (hx : L[i]? = some x) (hE : E ≤ E') (h1 : 0 ≤ c) (h2 : c + x.p ≤ E') (h3 : 0 ≤ r) (h4 : r + x.q ≤ E') (hC : C ≤ C') (hC' : C' ≤ E') : GG E' (L.set i ⟨c, x.p, r, x.q⟩) (S.set i true) C' := by
  refine ⟨by simp [g.len], fun y hy => ?_, hC', by have := g.pos; omega⟩
  have hb := g.each x (List.mem_of_getElem? hx)
  rcases List.mem_or_eq_of_mem_set hy with hy | hy
  · have := g.each y hy; omega
  · subst hy
    simp only
    omega
theorem run3_ex (m : Nat) : ∀ (i : Nat) (L : List Itm) (S : List Bool) (C E : Int), L.length - i = m → GG E L S C → ∃ L' S' C', Run3 i L S C L' S' C' ∧ GG (E + 30 * m) L' S' C' ∧ L'.length = L.length := by
  induction m with
  | zero => intro i L S C E hm g; exact ⟨L, S, C, .done (by omega), by simpa using g, rfl⟩
  | succ m ih =>
    intro i L S C E hm g
    have hi : i < L.length := by omega
    obtain ⟨x, hx⟩ : ∃ x, L[i]? = some x := ⟨_, List.getElem?_eq_getElem hi⟩
    obtain ⟨b, hb⟩ : ∃ b, S[i]? = some b := ⟨_, List.getElem?_eq_getElem (by rw [g.len]; exact hi)⟩
    by_cases hs : b = true ∨ x.r = 0
    · obtain ⟨L', S', C', h1, h2, h3⟩ := ih (i + 1) L S C E (by omega) g
      exact ⟨L', S', C', .skip hx hb hs h1, h2.mono (by push_cast; omega), h3⟩
    · have hbf : b = false := by cases b; rfl; exact absurd (.inl rfl) hs
      subst hbf
      have hr : x.r ≠ 0 := fun h => hs (.inr h)
      have hxb := g.each x (List.mem_of_getElem? hx)
      obtain ⟨t, k, h1, h2, h3⟩ := Srch.some_ (fun c => FreeP L S ⟨c, x.p, x.r, x.q⟩) E (fun c hc => g.farC hc) (E + 2).toNat 1 (by have := g.pos; omega)
      have hp := g.pos
      have g' := g.set_ (E' := E + 30) (C' := max C (t + x.p - 1)) (c := t) (r := x.r) hx (by omega) (by omega) (by omega) hxb.2.2.1 (by omega) (by omega) (by have := g.cols; omega)
      obtain ⟨L', S', C', h4, h5, h6⟩ := ih (i + 1) _ _ _ (E + 30) (by simp; omega) g'
      exact ⟨L', S', C', .put hx hb hr h1 h4, h5.mono (by push_cast; omega), by rw [h6]; simp⟩
theorem srch2_ex {L : List Itm} {S : List Bool} {C E : Int} (g : GG E L S C) {p q : Nat} (hp : 1 ≤ p) (hpc : (p : Int) ≤ C) (m : Nat) : ∀ (row : Int), E + 1 - row < m → ∀ col, 1 ≤ col → ∃ tr tc k, Srch2 (fun r c => FreeP L S ⟨c, p, r, q⟩) C p row col tr tc k ∧ row ≤ tr ∧ 1 ≤ tc ∧ tc + p - 1 ≤ C ∧ tr ≤ max row (E + 2) + 1 := by
  induction m with
  | zero =>
    intro row hrow col hcol
    by_cases hv : col + p - 1 ≤ C
    · exact ⟨row, col, 0, .here hv (g.farR (by omega)), by omega, hcol, hv, by omega⟩
    · exact ⟨row + 1, 1, 1, .wrap (fun h => hv h.1) (by omega) (.here (by omega) (g.farR (by omega))), by omega, by omega, by omega, by omega⟩
  | succ m ih =>
    intro row hrow col hcol
    by_cases hE : E < row
    · by_cases hv : col + p - 1 ≤ C
      · exact ⟨row, col, 0, .here hv (g.farR hE), by omega, hcol, hv, by omega⟩
      · exact ⟨row + 1, 1, 1, .wrap (fun h => hv h.1) (by omega) (.here (by omega) (g.farR (by omega))), by omega, by omega, by omega, by omega⟩
    · obtain ⟨tr, tc, k, h1, h2, h3, h4, h5⟩ := ih (row + 1) (by omega) 1 (by omega)
      obtain ⟨tr, tc, k, e1, e2, e3, e4, e5⟩ := Srch2.row (B := E + 3) (fun r c => FreeP L S ⟨c, p, r, q⟩) C p hpc row (by omega) ⟨tr, tc, k, h1, by omega, h3, h4, by omega⟩ (C - col + 1).toNat col hcol (by omega)
      exact ⟨tr, tc, k, e1, e2, e3, e4, by omega⟩
theorem run4_ex (m : Nat) : ∀ (i : Nat) (L : List Itm) (S : List Bool) (C E row col : Int), L.length - i = m → GG E L S C → 1 ≤ row → row ≤ E + 1 → 1 ≤ col → col ≤ E + 1 → ∃ L', Run4 C i L S row col L' ∧ L'.length = L.length ∧ ∀ x ∈ L', 0 ≤ x.c ∧ x.c ≤ E + 30 * m ∧ 0 ≤ x.r ∧ x.r ≤ E + 30 * m ∧ 1 ≤ x.p ∧ x.p ≤ 20 ∧ 1 ≤ x.q ∧ x.q ≤ 20 := by
  induction m with
  | zero => intro i L S C E row col hm g _ _ _ _; exact ⟨L, .done (by omega), rfl, fun x hx => by have := g.each x hx; omega⟩
  | succ m ih =>
    intro i L S C E row col hm g hr0 hr1 hc0 hc1
    have hi : i < L.length := by omega
    obtain ⟨x, hx⟩ : ∃ x, L[i]? = some x := ⟨_, List.getElem?_eq_getElem hi⟩
    obtain ⟨b, hb⟩ : ∃ b, S[i]? = some b := ⟨_, List.getElem?_eq_getElem (by rw [g.len]; exact hi)⟩
    have hp := g.pos
    have hxb := g.each x (List.mem_of_getElem? hx)
    cases b
    · by_cases hc : 0 < x.c
      · obtain ⟨t, k, h1, h2, h3⟩ := Srch.some_ (fun r => FreeP L S ⟨x.c, x.p, r, x.q⟩) E (fun c hc => g.farR hc) (E + 2).toNat (if x.c < col then row + 1 else row) (by split <;> omega)
        have h2' : 1 ≤ t := by split at h2 <;> omega
        have h3' : t ≤ E + 2 := by split at h3 <;> omega
        have g' := g.set_ (E' := E + 30) (C' := C) (c := x.c) (r := t) hx (by omega) (by omega) (by omega) (by omega) (by omega) (Int.le_refl _) (by have := g.cols; omega)
        obtain ⟨L', h4, h5, h6⟩ := ih (i + 1) _ _ C (E + 30) t x.c (by simp; omega) g' h2' (by omega) (by omega) (by omega)
        exact ⟨L', .given hx hb hc h1 h4, by rw [h5]; simp, fun y hy => by have := h6 y hy; push_cast; omega⟩
      · obtain ⟨tr, tc, k, h1, h2, h3, h4, h5⟩ := srch2_ex g (q := x.q) hxb.2.2.2.2.1 hxb.2.2.2.2.2.2.2.2 (E + 2).toNat row (by omega) col hc0
        have hC := g.cols
        have g' := g.set_ (E' := E + 30) (C' := C) (c := tc) (r := tr) hx (by omega) (by omega) (by omega) (by omega) (by omega) (Int.le_refl _) (by omega)
        obtain ⟨L', h6, h7, h8⟩ := ih (i + 1) _ _ C (E + 30) tr tc (by simp; omega) g' (by omega) (by omega) (by omega) (by omega)
        exact ⟨L', .found hx hb hc h1 h6, by rw [h7]; simp, fun y hy => by have := h8 y hy; push_cast; omega⟩
    · obtain ⟨L', h1, h2, h3⟩ := ih (i + 1) L S C E row col (by omega) g hr0 hr1 hc0 hc1
      exact ⟨L', .skip hx hb h1, h2, fun y hy => by have := h3 y hy; push_cast; omega⟩
end Go.Proofs.Ytnjckpgacbibhaa
