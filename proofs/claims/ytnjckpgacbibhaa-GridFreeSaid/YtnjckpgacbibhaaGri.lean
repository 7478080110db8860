/- the grid: the program's Place: what its memory holds -/
import Derived.Test.YtnjckpgacbibhaaGrh
namespace Go.Proofs.Ytnjckpgacbibhaa
set_option linter.unusedVariables false
set_option linter.unusedSimpArgs false
open Go.RowKit Go.Cas

theorem colB_prog (n : Int) : max 1 (min n 20) = colB n := rfl
theorem Brd.kept {w w' : World} {b n : Nat} {T : Int → Int → Bool} {ex : Nat → Prop} (h : Brd w b n T) (hk : Kept w w' ex) (hb : ¬ ex b) : Brd w' b n T := by
  obtain ⟨D, h1, h2, h3⟩ := h
  have hl := h1.lt
  obtain ⟨es, clock, hb', F, hs, hD⟩ := h1
  exact ⟨D, ⟨es, clock, (hk.block b hl hb).trans hb', F, hs, hD⟩, h2, h3⟩
theorem Brd.alloc {w : World} {b n : Nat} {T : Int → Int → Bool} (h : Brd w b n T) (o : Obj) : Brd (w.alloc o) b n T := h.below (bl_alloc (Below.refl _ _) o)
theorem set_self {α : Type} {L : List α} {i : Nat} {x : α} (h : L[i]? = some x) : L.set i x = L := by
  apply List.ext_getElem?
  intro j
  rw [List.getElem?_set]
  split
  · rename_i hi; subst hi; rw [h]; have := (List.getElem?_eq_some_iff.1 h).1; simp [this]
  · rfl
theorem ics_setR (L : List Itm) (q : Nat) (x : Itm) (r : Int) (h : L[q]? = some x) : (ics L).set (q * 4 + 2) (.int .i64 r) = ics (L.set q ⟨x.c, x.p, r, x.q⟩) := by
  have h4 := ics_set4 L q x ⟨x.c, x.p, r, x.q⟩ h
  rw [← h4]
  have g := fun j hj => ics_get L q j x h hj
  have e : ∀ (j : Nat) (hj : j < 4) (u : Value), (ic x)[j]? = some u → (ics L).set (q * 4 + j) u = ics L := fun j hj u hu => by
    apply List.ext_getElem?
    intro i
    rw [List.getElem?_set]
    split
    · rename_i hi; subst hi; rw [g j hj, hu]; have := (List.getElem?_eq_some_iff.1 ((g j hj).trans hu)).1; simp [this]
    · rfl
  have e0 := e 0 (by omega) (.int .i64 x.c) rfl
  have e1 := e 1 (by omega) (.int .i64 x.p) rfl
  have e3 := e 3 (by omega) (.int .i64 x.q) rfl
  simp only [Nat.add_zero] at e0
  rw [e0, e1, List.set_comm _ _ (by omega), e3]
theorem Srch2.hit {ok : Int → Int → Prop} {C p r c tr tc : Int} {k : Nat} (h : Srch2 ok C p r c tr tc k) (hv : c + p - 1 ≤ C) (ho : ok r c) : tr = r ∧ tc = c := by
  cases h with
  | here h1 h2 => exact ⟨rfl, rfl⟩
  | next h1 h2 h3 => exact absurd ⟨hv, ho⟩ h1
  | wrap h1 h2 h3 => exact absurd ⟨hv, ho⟩ h1
theorem Srch2.miss {ok : Int → Int → Prop} {C p r c tr tc : Int} {k : Nat} (h : Srch2 ok C p r c tr tc k) (hn : ¬ (c + p - 1 ≤ C ∧ ok r c)) :
    (c + 1 + p - 1 ≤ C ∧ ∃ m, m < k ∧ Srch2 ok C p r (c + 1) tr tc m) ∨ (¬ c + 1 + p - 1 ≤ C ∧ ∃ m, m < k ∧ Srch2 ok C p (r + 1) 1 tr tc m) := by
  cases h with
  | here h1 h2 => exact absurd ⟨h1, h2⟩ hn
  | next h1 h2 h3 => exact .inl ⟨h2, _, Nat.lt_succ_self _, h3⟩
  | wrap h1 h2 h3 => exact .inr ⟨h2, _, Nat.lt_succ_self _, h3⟩
/-- where the parts of it lie -/
structure PG (B g b gs : Nat) : Prop where
  h1 : B ≤ g
  h2 : g < b
  h3 : b < gs
/-- the items, who stands, the board -/
structure PSt (w : World) (B g cap gs b n : Nat) (L : List Itm) (S : List Bool) (N : Nat) (T : Int → Int → Bool) (wr : World) : Prop where
  own : wr.ownsRow B 99 4 (.slice (some ⟨g, 0, none⟩) n cap) n (ics L)
  st : Bk wr gs 4 (S.map Value.bool).toArray
  brd : Brd wr b N T
  bel : Below B w wr
  geo : PG B g b gs
section
variable {w wr w' : World} {B g cap gs b n N q : Nat} {L : List Itm} {S : List Bool} {T : Int → Int → Bool}
theorem PSt.size_ (h : PSt w B g cap gs b n L S N T wr) : gs < wr.heap.size := h.st.lt
theorem PSt.below (h : PSt w B g cap gs b n L S N T wr) (hb : Below wr.heap.size wr w') : PSt w B g cap gs b n L S N T w' :=
  ⟨(Kept.of_below hb (fun _ => False)).own h.own (fun _ _ e => e), h.st.below hb h.st.lt, h.brd.below hb, h.bel.trans (hb.mono (by have := h.size_; have := h.geo; cases this; omega)), h.geo⟩
theorem PSt.alloc (h : PSt w B g cap gs b n L S N T wr) (o : Obj) : PSt w B g cap gs b n L S N T (wr.alloc o) := h.below (bl_alloc (Below.refl _ _) o)
theorem PSt.drewN (h : PSt w B g cap gs b n L S N T wr) (k : Nat) : PSt w B g cap gs b n L S N T (wr.drewN k) := h.below (bl_drewN (Below.refl _ _) k)
theorem PSt.drew (h : PSt w B g cap gs b n L S N T wr) : PSt w B g cap gs b n L S N T wr.drew := h.below (bl_drew (Below.refl _ _))
theorem PSt.far {R : Nat} (h : PSt w B g cap gs b n L S N T wr) (hR : gs < R) (o : Nat) (u : Value) : PSt w B g cap gs b n L S N T (wr.setCell ⟨R, o, none⟩ u) := by
  have hg := h.geo
  obtain ⟨g1, g2, g3⟩ := hg
  have hk : Kept wr (wr.setCell ⟨R, o, none⟩ u) (fun a => a = R) := Kept.set_ (ex := fun a => a = R) (Kept.refl _ _) R o (fun _ => rfl) u
  exact ⟨own_far h.own (by omega) o u, h.st.far (p := ⟨R, o, none⟩) (by show gs ≠ R; omega) u, h.brd.kept hk (by omega), h.bel.setCell (p := ⟨R, o, none⟩) (by show B ≤ R; omega) u, h.geo⟩
theorem PSt.setO (h : PSt w B g cap gs b n L S N T wr) (j : Nat) (u : Value) (L' : List Itm) (hL : (ics L).set j u = ics L') : PSt w B g cap gs b n L' S N T (wr.setCell ⟨g, j, none⟩ u) := by
  have hg := h.geo
  obtain ⟨g1, g2, g3⟩ := hg
  have hk : Kept wr (wr.setCell ⟨g, j, none⟩ u) (fun a => a = g) := Kept.set_ (ex := fun a => a = g) (Kept.refl _ _) g j (fun _ => rfl) u
  refine ⟨?_, h.st.far (p := ⟨g, j, none⟩) (by show gs ≠ g; omega) u, h.brd.kept hk (by omega), h.bel.setCell (p := ⟨g, j, none⟩) g1 u, h.geo⟩
  have := (h.own.stored j u).1
  rw [hL] at this
  exact this
theorem PSt.setC {x : Itm} (h : PSt w B g cap gs b n L S N T wr) (hx : L[q]? = some x) (c : Int) : PSt w B g cap gs b n (L.set q ⟨c, x.p, x.r, x.q⟩) S N T (wr.setCell ⟨g, q * 4, none⟩ (.int .i64 c)) :=
  h.setO _ _ _ (ics_setC L q x c hx)
theorem PSt.setR {x : Itm} (h : PSt w B g cap gs b n L S N T wr) (hx : L[q]? = some x) (r : Int) : PSt w B g cap gs b n (L.set q ⟨x.c, x.p, r, x.q⟩) S N T (wr.setCell ⟨g, q * 4 + 2, none⟩ (.int .i64 r)) :=
  h.setO _ _ _ (ics_setR L q x r hx)
theorem PSt.wrap {m p k : Nat} {c r : Int} (h : PSt w B g cap gs b n (L.set m ⟨c, p, r, k⟩) S N T wr) (hm : m < L.length) (r' c' : Int) : PSt w B g cap gs b n (L.set m ⟨c', p, r', k⟩) S N T ((wr.setCell ⟨g, m * 4 + 2, none⟩ (.int .i64 r')).setCell ⟨g, m * 4, none⟩ (.int .i64 c')) := by
  have h1 := h.setR (q := m) (x := ⟨c, p, r, k⟩) (List.getElem?_set_self hm) r'
  rw [List.set_set] at h1
  have h2 := h1.setC (q := m) (x := ⟨c, p, r', k⟩) (List.getElem?_set_self hm) c'
  rw [List.set_set] at h2
  exact h2
theorem PSt.setS (h : PSt w B g cap gs b n L S N T wr) (j : Nat) : PSt w B g cap gs b n L (S.set j true) N T (wr.setCell ⟨gs, j, none⟩ (.bool true)) := by
  have hg := h.geo
  obtain ⟨g1, g2, g3⟩ := hg
  have hk : Kept wr (wr.setCell ⟨gs, j, none⟩ (.bool true)) (fun a => a = gs) := Kept.set_ (ex := fun a => a = gs) (Kept.refl _ _) gs j (fun _ => rfl) _
  exact ⟨own_far h.own (by omega) j _, bks_set h.st, h.brd.kept hk (by omega), h.bel.setCell (p := ⟨gs, j, none⟩) (by show B ≤ gs; omega) _, h.geo⟩
theorem PSt.cells {x : Itm} (h : PSt w B g cap gs b n L S N T wr) (hx : L[q]? = some x) : wr.cell? ⟨g, q * 4, none⟩ = some (.int .i64 x.c) ∧ wr.cell? ⟨g, q * 4 + 1, none⟩ = some (.int .i64 x.p) ∧ wr.cell? ⟨g, q * 4 + 2, none⟩ = some (.int .i64 x.r) ∧ wr.cell? ⟨g, q * 4 + 3, none⟩ = some (.int .i64 x.q) := own_cells h.own hx
theorem PSt.cellS {s : Bool} (h : PSt w B g cap gs b n L S N T wr) (hs : S[q]? = some s) : wr.cell? ⟨gs, q, none⟩ = some (.bool s) := by rw [h.st.cell]; simp [hs]
theorem PSt.free {L0 : List Itm} {S0 : List Bool} (h : PSt w B g cap gs b n L S N T wr) (m : Match T L0 S0) (hL : ∀ f ∈ L0, 1 ≤ f.p ∧ 1 ≤ f.q) (x : Itm) (hx : IB x) : Calls Try.prog 83 #[.map (some b), agI x.c x.p x.r x.q] wr (FrRetR L0 S0 x wr) := by
  have hx' := hx
  unfold IB at hx'
  refine (c_freeG b N T x.c x.r x.p x.q wr h.brd hx'.1 hx'.2.1 hx'.2.2.1.2 hx'.2.2.2.2).mono ?_
  rintro e w9 ⟨v, h1, h2, h3⟩
  exact ⟨v, h1, h2.trans (m.free hL x hx'.2.2.1.1 hx'.2.2.2.1), h3⟩
theorem PSt.take (h : PSt w B g cap gs b n L S N T wr) (hN : N ≤ 1000000) (x : Itm) (hx : IB x) : Calls Try.prog 82 #[.map (some b), agI x.c x.p x.r x.q] wr fun e w' => e = .returned (.tuple #[]) ∧ PSt w B g cap gs b n L S (N + 400) (fun a d => inP x.r x.c x.q x.p a d || T a d) w' := by
  have hx' := hx
  unfold IB at hx'
  refine (c_takeG b N T x.c x.r x.p x.q wr h.brd hx'.1 hx'.2.1 hx'.2.2.1.2 hx'.2.2.2.2 hN).mono ?_
  rintro e w9 ⟨h1, h2, h3⟩
  have hg := h.geo
  obtain ⟨g1, g2, g3⟩ := hg
  have k := h3.out
  have hs := h.size_
  refine ⟨h1, ?_, k.bk h.st (by omega), h2.out, h.bel.trans (k.below fun a ha => ⟨by omega, by omega⟩), h.geo⟩
  exact k.own h.own (fun a ha e => by
    have e3 : g = a := by simpa [Value.ownBlock] using ha
    omega)
end
theorem GG.pos1 {E : Int} {L : List Itm} {S : List Bool} {C : Int} (g : GG E L S C) : ∀ f ∈ L, 1 ≤ f.p ∧ 1 ≤ f.q := fun f hf => by have := g.each f hf; omega
theorem GG.ib1 {E : Int} {L : List Itm} {S : List Bool} {C : Int} (g : GG E L S C) {q : Nat} {x : Itm} (hx : L[q]? = some x) {c r : Int} (h1 : 0 ≤ c ∧ c ≤ 200000) (h2 : 0 ≤ r ∧ r ≤ 200000) : IB ⟨c, x.p, r, x.q⟩ := by
  have hb := g.each x (List.mem_of_getElem? hx)
  unfold IB; simp only; omega
end Go.Proofs.Ytnjckpgacbibhaa
