/- plain (no program): floats in a room: what is left of it, the least height at which something fits -/
namespace Go.Cas
set_option linter.unusedVariables false
set_option linter.unusedSimpArgs false

structure Flo where
  r : Bool
  x : Int
  y : Int
  w : Int
  h : Int
def Flo.bot (f : Flo) : Int := f.y + max f.h 1
def hitF (f : Flo) (y h : Int) : Bool := decide (f.y < y + max h 1 ∧ y < f.y + max f.h 1)
theorem hitF_iff (f : Flo) (y h : Int) : hitF f y h = true ↔ (f.y < y + max h 1 ∧ y < f.y + max f.h 1) := by unfold hitF; simp
/-- what floats leave between two heights: left, right, is any there -/
def edL (y h : Int) : List Flo → Int → Int
  | [], l => l
  | f :: L, l => edL y h L (if hitF f y h = true ∧ f.r = false then max l (f.x + f.w) else l)
def edR (y h : Int) : List Flo → Int → Int
  | [], r => r
  | f :: L, r => edR y h L (if hitF f y h = true ∧ f.r = true then min r f.x else r)
def edS (y h : Int) (L : List Flo) : Bool := L.any fun f => hitF f y h
def fitB (L : List Flo) (lo hi w h y : Int) : Bool := decide (edS y h L = false ∨ w ≤ edR y h L hi - edL y h L lo)
theorem fitB_iff (L : List Flo) (lo hi w h y : Int) : fitB L lo hi w h y = true ↔ (edS y h L = false ∨ w ≤ edR y h L hi - edL y h L lo) := by unfold fitB; simp

theorem edL_none {y h : Int} {L : List Flo} {l : Int} (hs : edS y h L = false) : edL y h L l = l := by
  induction L generalizing l with
  | nil => rfl
  | cons f L ih =>
    simp only [edS, List.any_cons, Bool.or_eq_false_iff] at hs
    simp only [edL, hs.1, Bool.false_eq_true, false_and, if_false]
    exact ih hs.2
theorem edR_none {y h : Int} {L : List Flo} {r : Int} (hs : edS y h L = false) : edR y h L r = r := by
  induction L generalizing r with
  | nil => rfl
  | cons f L ih =>
    simp only [edS, List.any_cons, Bool.or_eq_false_iff] at hs
    simp only [edR, hs.1, Bool.false_eq_true, false_and, if_false]
    exact ih hs.2
theorem edL_ge (y h : Int) (L : List Flo) (l : Int) : l ≤ edL y h L l := by
  induction L generalizing l with
  | nil => exact Int.le_refl _
  | cons f L ih => refine Int.le_trans ?_ (ih _); split <;> omega
theorem edR_le (y h : Int) (L : List Flo) (r : Int) : edR y h L r ≤ r := by
  induction L generalizing r with
  | nil => exact Int.le_refl _
  | cons f L ih => refine Int.le_trans (ih _) ?_; split <;> omega
theorem edL_mem {y h : Int} {L : List Flo} {f : Flo} (l : Int) (hf : f ∈ L) (hh : hitF f y h = true) (hr : f.r = false) : f.x + f.w ≤ edL y h L l := by
  induction L generalizing l with
  | nil => cases hf
  | cons g L ih =>
    rcases List.mem_cons.1 hf with e | hm
    · subst e
      simp only [edL, hh, hr, and_self, if_true]
      exact Int.le_trans (by omega) (edL_ge y h L _)
    · exact ih _ hm
theorem edR_mem {y h : Int} {L : List Flo} {f : Flo} (r : Int) (hf : f ∈ L) (hh : hitF f y h = true) (hr : f.r = true) : edR y h L r ≤ f.x := by
  induction L generalizing r with
  | nil => cases hf
  | cons g L ih =>
    rcases List.mem_cons.1 hf with e | hm
    · subst e
      simp only [edR, hh, hr, and_self, if_true]
      exact Int.le_trans (edR_le y h L _) (by omega)
    · exact ih _ hm
theorem edS_mem {y h : Int} {L : List Flo} {f : Flo} (hf : f ∈ L) (hs : edS y h L = false) : hitF f y h = false := by
  unfold edS at hs
  rw [List.any_eq_false] at hs
  have := hs f hf
  simpa using this
theorem edL_snoc (y h : Int) (L : List Flo) (f : Flo) (l : Int) : edL y h (L ++ [f]) l = (if hitF f y h = true ∧ f.r = false then max (edL y h L l) (f.x + f.w) else edL y h L l) := by
  induction L generalizing l with
  | nil => simp [edL]
  | cons g L ih => simp only [List.cons_append, edL]; exact ih _
theorem edR_snoc (y h : Int) (L : List Flo) (f : Flo) (r : Int) : edR y h (L ++ [f]) r = (if hitF f y h = true ∧ f.r = true then min (edR y h L r) f.x else edR y h L r) := by
  induction L generalizing r with
  | nil => simp [edR]
  | cons g L ih => simp only [List.cons_append, edR]; exact ih _
theorem edS_snoc (y h : Int) (L : List Flo) (f : Flo) : edS y h (L ++ [f]) = (edS y h L || hitF f y h) := by simp [edS]

/-- a height at which a float begins or ends -/
def Cand (L : List Flo) (c : Int) : Prop := ∃ f ∈ L, c = f.y ∨ c = f.bot
/-- the least height from one on at which it fits -/
structure IsFit (L : List Flo) (lo hi w h fr y : Int) : Prop where
  at_ : y = fr ∨ Cand L y
  ge : fr ≤ y
  fit : fitB L lo hi w h y = true
  least : ∀ c, c = fr ∨ Cand L c → fr ≤ c → fitB L lo hi w h c = true → y ≤ c
theorem IsFit.uniq {L : List Flo} {lo hi w h fr y z : Int} (a : IsFit L lo hi w h fr y) (b : IsFit L lo hi w h fr z) : y = z := by
  have h1 := a.least z b.at_ b.ge b.fit
  have h2 := b.least y a.at_ a.ge a.fit
  omega
/-- behind all floats there is room -/
theorem fit_some (L : List Flo) (lo hi w h fr : Int) : ∃ c, (c = fr ∨ Cand L c) ∧ fr ≤ c ∧ fitB L lo hi w h c = true := by
  have key : ∀ (M : List Flo), (∃ c, (c = fr ∨ Cand M c) ∧ fr ≤ c ∧ ∀ f ∈ M, f.bot ≤ c) := by
    intro M
    induction M with
    | nil => exact ⟨fr, .inl rfl, Int.le_refl _, by simp⟩
    | cons f M ih =>
      obtain ⟨c, h1, h2, h3⟩ := ih
      by_cases hc : f.bot ≤ c
      · refine ⟨c, ?_, h2, fun g hg => ?_⟩
        · rcases h1 with h1 | ⟨g, hg, h1⟩
          · exact .inl h1
          · exact .inr ⟨g, List.mem_cons_of_mem _ hg, h1⟩
        · rcases List.mem_cons.1 hg with e | hg
          · subst e; exact hc
          · exact h3 g hg
      · refine ⟨f.bot, .inr ⟨f, List.mem_cons_self, .inr rfl⟩, by omega, fun g hg => ?_⟩
        rcases List.mem_cons.1 hg with e | hg
        · subst e; omega
        · have := h3 g hg; omega
  obtain ⟨c, h1, h2, h3⟩ := key L
  refine ⟨c, h1, h2, ?_⟩
  rw [fitB_iff]
  left
  unfold edS
  rw [List.any_eq_false]
  intro f hf
  have := h3 f hf
  rw [hitF_iff]
  unfold Flo.bot at this
  omega

/-- the next height at which a float begins or ends: one step, all -/
def nx1B (y at_ b : Int) (fd : Bool) : Int := if y < at_ ∧ (fd = false ∨ at_ < b) then at_ else b
def nx1F (y at_ b : Int) (fd : Bool) : Bool := if y < at_ ∧ (fd = false ∨ at_ < b) then true else fd
def nxB (y : Int) : List Flo → Int → Bool → Int
  | [], b, _ => b
  | f :: L, b, d => nxB y L (nx1B y f.bot (nx1B y f.y b d) (nx1F y f.y b d)) (nx1F y f.bot (nx1B y f.y b d) (nx1F y f.y b d))
theorem nxB_spec (y : Int) (M L : List Flo) (b : Int) (d : Bool) (hd : d = true → y < b ∧ Cand M b) (hs : ∀ f ∈ L, f ∈ M) (he : d = true ∨ ∃ c, Cand L c ∧ y < c) (hmin : ∀ c, Cand M c → y < c → Cand L c ∨ (d = true ∧ b ≤ c)) :
    y < nxB y L b d ∧ Cand M (nxB y L b d) ∧ ∀ c, Cand M c → y < c → nxB y L b d ≤ c := by
  induction L generalizing b d with
  | nil =>
    have hd' : d = true := by
      rcases he with h | ⟨c, ⟨f, hf, _⟩, _⟩
      · exact h
      · cases hf
    refine ⟨(hd hd').1, (hd hd').2, fun c h1 h2 => ?_⟩
    rcases hmin c h1 h2 with ⟨f, hf, _⟩ | h
    · cases hf
    · exact h.2
  | cons f L ih =>
    have hfM : f ∈ M := hs f List.mem_cons_self
    have c1 : Cand M f.y := ⟨f, hfM, .inl rfl⟩
    have c2 : Cand M f.bot := ⟨f, hfM, .inr rfl⟩
    -- one step keeps what is known
    have step : ∀ (a b : Int) (d : Bool), Cand M a → (d = true → y < b ∧ Cand M b) → (nx1F y a b d = true → y < nx1B y a b d ∧ Cand M (nx1B y a b d)) := by
      intro a b d ha hd
      unfold nx1F nx1B
      split
      · rename_i h; exact fun _ => ⟨h.1, ha⟩
      · exact hd
    have stepF : ∀ (a b : Int) (d : Bool), d = true ∨ y < a → nx1F y a b d = true := by
      intro a b d h
      unfold nx1F
      split
      · rfl
      · rename_i hn
        rcases h with h | h
        · exact h
        · cases d
          · exact absurd ⟨h, .inl rfl⟩ hn
          · rfl
    have stepL : ∀ (a b : Int) (d : Bool) (c : Int), d = true ∧ b ≤ c → nx1F y a b d = true ∧ nx1B y a b d ≤ c := by
      intro a b d c h
      refine ⟨stepF a b d (.inl h.1), ?_⟩
      unfold nx1B
      split
      · rename_i h2
        rcases h2.2 with h3 | h3
        · rw [h.1] at h3; cases h3
        · omega
      · exact h.2
    have stepM : ∀ (a b : Int) (d : Bool), y < a → nx1F y a b d = true ∧ nx1B y a b d ≤ a := by
      intro a b d h
      refine ⟨stepF a b d (.inr h), ?_⟩
      unfold nx1B
      split
      · exact Int.le_refl _
      · rename_i hn
        cases d
        · exact absurd ⟨h, .inl rfl⟩ hn
        · have : ¬ a < b := fun h2 => hn ⟨h, .inr h2⟩
          omega
    refine ih _ _ (step _ _ _ c2 (step _ _ _ c1 hd)) (fun g hg => hs g (List.mem_cons_of_mem _ hg)) ?_ ?_
    · rcases he with h | ⟨c, ⟨g, hg, hc⟩, hy⟩
      · exact .inl (stepF _ _ _ (.inl (stepF _ _ _ (.inl h))))
      · rcases List.mem_cons.1 hg with e | hg
        · subst e
          rcases hc with hc | hc
          · exact .inl (stepF _ _ _ (.inl (stepF _ _ _ (.inr (by omega)))))
          · exact .inl (stepF _ _ _ (.inr (by omega)))
        · exact .inr ⟨c, ⟨g, hg, hc⟩, hy⟩
    · intro c hc hy
      rcases hmin c hc hy with ⟨g, hg, hg2⟩ | h
      · rcases List.mem_cons.1 hg with e | hg
        · subst e
          rcases hg2 with hg2 | hg2
          · subst hg2
            exact .inr (stepL _ _ _ _ (stepM _ _ _ hy))
          · subst hg2
            exact .inr (stepM _ _ _ hy)
        · exact .inl ⟨g, hg, hg2⟩
      · exact .inr (stepL _ _ _ _ (stepL _ _ _ _ h))
/-- how many of these heights lie behind one -/
def above (y : Int) (L : List Flo) : Nat := ((L.flatMap fun f => [f.y, f.bot]).filter fun c => decide (y < c)).length
theorem above_lt {y z : Int} {L : List Flo} (hc : Cand L z) (hy : y < z) : above z L < above y L := by
  unfold above
  have hm : z ∈ L.flatMap fun f => [f.y, f.bot] := by
    obtain ⟨f, hf, h⟩ := hc
    rw [List.mem_flatMap]
    exact ⟨f, hf, by simpa using h⟩
  generalize (L.flatMap fun f => [f.y, f.bot]) = M at hm
  have mono : ∀ (N : List Int), (N.filter fun c => decide (z < c)).length ≤ (N.filter fun c => decide (y < c)).length := by
    intro N
    induction N with
    | nil => simp
    | cons a N ih =>
      simp only [List.filter_cons]
      by_cases h1 : z < a
      · have h2 : y < a := by omega
        simp [h1, h2, ih]
      · by_cases h2 : y < a
        · simp [h1, h2]; omega
        · simp [h1, h2, ih]
  induction M with
  | nil => cases hm
  | cons a M ih =>
    simp only [List.filter_cons]
    rcases List.mem_cons.1 hm with e | hm
    · subst e
      have h1 : ¬ z < z := by omega
      have := mono M
      simp [h1, hy]; omega
    · have := ih hm
      by_cases h1 : z < a
      · have h2 : y < a := by omega
        simp [h1, h2, this]
      · by_cases h2 : y < a
        · simp [h1, h2]; omega
        · simp [h1, h2, this]
/-- the loop of heights: what is known at one of them -/
structure Search (L : List Flo) (lo hi w h fr y : Int) : Prop where
  at_ : y = fr ∨ Cand L y
  ge : fr ≤ y
  least : ∀ c, c = fr ∨ Cand L c → fr ≤ c → fitB L lo hi w h c = true → y ≤ c
theorem Search.start (L : List Flo) (lo hi w h fr : Int) : Search L lo hi w h fr fr := ⟨.inl rfl, Int.le_refl _, fun _ _ h _ => h⟩
theorem Search.done {L : List Flo} {lo hi w h fr y : Int} (s : Search L lo hi w h fr y) (hf : fitB L lo hi w h y = true) : IsFit L lo hi w h fr y := ⟨s.at_, s.ge, hf, s.least⟩
theorem Search.next {L : List Flo} {lo hi w h fr y : Int} (s : Search L lo hi w h fr y) (hf : fitB L lo hi w h y = false) :
    Search L lo hi w h fr (nxB y L 0 false) ∧ above (nxB y L 0 false) L < above y L ∧ Cand L (nxB y L 0 false) := by
  have hex : ∃ c, Cand L c ∧ y < c := by
    have h1 : ¬ (edS y h L = false ∨ w ≤ edR y h L hi - edL y h L lo) := by rw [← fitB_iff, hf]; simp
    have h2 : edS y h L = true := by
      cases h3 : edS y h L
      · exact absurd (.inl h3) h1
      · rfl
    unfold edS at h2
    rw [List.any_eq_true] at h2
    obtain ⟨f, hm, hh⟩ := h2
    rw [hitF_iff] at hh
    exact ⟨f.bot, ⟨f, hm, .inr rfl⟩, hh.2⟩
  obtain ⟨h1, h2, h3⟩ := nxB_spec y L L 0 false (by simp) (fun _ h => h) (.inr hex) (fun c hc _ => .inl hc)
  refine ⟨⟨.inr h2, by have := s.ge; omega, fun c hc hg hfc => ?_⟩, above_lt h2 h1, h2⟩
  have h4 := s.least c hc hg hfc
  have h5 : c ≠ y := fun e => by rw [e, hf] at hfc; cases hfc
  rcases hc with e | hc
  · have := s.ge; omega
  · exact h3 c hc (by omega)
/-- floats within bounds -/
structure GoodF (L : List Flo) : Prop where
  len : L.length ≤ 200
  each : ∀ f ∈ L, -33554432 ≤ f.x ∧ f.x ≤ 33554432 ∧ 0 ≤ f.w ∧ f.w ≤ 16777216 ∧ 0 ≤ f.h ∧ f.h ≤ 16777216 ∧ -16777216 ≤ f.y ∧ f.y ≤ 16777216 * L.length
theorem GoodF.nil : GoodF [] := ⟨by simp, by simp⟩
theorem GoodF.cand {L : List Flo} (g : GoodF L) {c : Int} (hc : Cand L c) : -16777216 ≤ c ∧ c ≤ 16777216 * (L.length + 1) := by
  obtain ⟨f, hf, h⟩ := hc
  have := g.each f hf
  unfold Flo.bot at h
  omega
/-- the height from which on one is put -/
def frF (L : List Flo) (fr : Int) : Int := L.foldl (fun a f => max a f.y) fr
theorem frF_snoc (L : List Flo) (f : Flo) (fr : Int) : frF (L ++ [f]) fr = max (frF L fr) f.y := by simp [frF]
theorem frF_ge (L : List Flo) (fr : Int) : fr ≤ frF L fr ∧ ∀ f ∈ L, f.y ≤ frF L fr := by
  unfold frF
  induction L generalizing fr with
  | nil => simp
  | cons g L ih =>
    have := ih (max fr g.y)
    simp only [List.foldl_cons]
    refine ⟨by omega, fun f hf => ?_⟩
    rcases List.mem_cons.1 hf with e | hf
    · subst e; omega
    · exact this.2 f hf
theorem frF_le (L : List Flo) (fr B : Int) (h0 : fr ≤ B) (h : ∀ f ∈ L, f.y ≤ B) : frF L fr ≤ B := by
  unfold frF
  induction L generalizing fr with
  | nil => exact h0
  | cons g L ih =>
    simp only [List.foldl_cons]
    exact ih _ (by have := h g List.mem_cons_self; omega) (fun f hf => h f (List.mem_cons_of_mem _ hf))
/-- where the one that is added lies -/
def xF (L : List Flo) (lo hi w h y : Int) (rt : Bool) : Int := if rt = true then edR y h L hi - w else edL y h L lo
theorem xF_bd {L : List Flo} {lo hi w h y : Int} (rt : Bool) (hl : -16777216 ≤ lo) (hlo : lo ≤ 16777216) (hl2 : -16777216 ≤ hi) (hh : hi ≤ 16777216) (hw : 0 ≤ w) (hw2 : w ≤ 16777216) (hf : fitB L lo hi w h y = true) :
    -33554432 ≤ xF L lo hi w h y rt ∧ xF L lo hi w h y rt ≤ 33554432 := by
  rw [fitB_iff] at hf
  unfold xF
  rcases hf with hf | hf
  · rw [edL_none hf, edR_none hf]
    split <;> omega
  · have := edL_ge y h L lo
    have := edR_le y h L hi
    split <;> omega
theorem GoodF.snoc {L : List Flo} (g : GoodF L) (hl : L.length < 200) {lo hi w h y fr0 : Int} (rt : Bool) (h1 : -16777216 ≤ lo) (h2 : lo ≤ 16777216) (h3 : -16777216 ≤ hi) (h4 : hi ≤ 16777216) (hw : 0 ≤ w) (hw2 : w ≤ 16777216) (hh : 0 ≤ h) (hh2 : h ≤ 16777216) (hfr : -16777216 ≤ fr0) (hfr2 : fr0 ≤ 16777216)
    (f : IsFit L lo hi w h (frF L fr0) y) : GoodF (L ++ [⟨rt, xF L lo hi w h y rt, y, w, h⟩]) := by
  refine ⟨by simp; omega, fun q hq => ?_⟩
  have hlen : (L ++ [(⟨rt, xF L lo hi w h y rt, y, w, h⟩ : Flo)]).length = L.length + 1 := by simp
  rw [hlen]
  rcases List.mem_append.1 hq with hq | hq
  · have := g.each q hq; omega
  · rw [List.mem_singleton] at hq
    subst hq
    have hx := xF_bd rt h1 h2 h3 h4 hw hw2 f.fit
    have hfb := frF_ge L fr0
    have hge := f.ge
    refine ⟨hx.1, hx.2, hw, hw2, hh, hh2, by show -16777216 ≤ y; omega, ?_⟩
    show y ≤ _
    rcases f.at_ with e | hc
    · have h5 := frF_le L fr0 (16777216 * (L.length + 1)) (by omega) (fun q hq => by have := g.each q hq; omega)
      omega
    · have := g.cand hc; omega
end Go.Cas
