/- plain (no program): a node is copied with all that lies in it -/
import Derived.Test.YtimlmekgapdkiaaGreatDoortree0
namespace Go.Cas
set_option linter.unusedVariables false
set_option linter.unusedSimpArgs false

def cpN (x : Nod) (p : Int) : Nod := { x with pa := p, ki := [] }
def kiS (x : Nod) (l : List Nat) : Nod := { x with ki := l }
/-- the copy: what the tree is behind it; the copy's number is the tree's length ahead of it -/
def cpF : Nat → List Nod → Nat → Int → List Nod
  | 0, T, i, p => T ++ [cpN (ndA T i) p]
  | f + 1, T, i, p =>
    let r := (ndA T i).ki.foldl (fun (s : List Nod × List Nat) c => (cpF f s.1 c (T.length : Int), s.2 ++ [s.1.length])) (T ++ [cpN (ndA T i) p], [])
    r.1.set T.length (kiS (ndA r.1 T.length) r.2)
/-- how far a copy has come behind so many kids -/
def cpS (f : Nat) (T : List Nod) (i : Nat) (p : Int) (l : List Nat) : List Nod × List Nat := l.foldl (fun (s : List Nod × List Nat) c => (cpF f s.1 c (T.length : Int), s.2 ++ [s.1.length])) (T ++ [cpN (ndA T i) p], [])
theorem cpS_nil (f : Nat) (T : List Nod) (i : Nat) (p : Int) : cpS f T i p [] = (T ++ [cpN (ndA T i) p], []) := rfl
theorem cpS_snoc (f : Nat) (T : List Nod) (i : Nat) (p : Int) (l : List Nat) (c : Nat) : cpS f T i p (l ++ [c]) = (cpF f (cpS f T i p l).1 c (T.length : Int), (cpS f T i p l).2 ++ [(cpS f T i p l).1.length]) := by
  unfold cpS; rw [List.foldl_append]; rfl
theorem cpF_succ (f : Nat) (T : List Nod) (i : Nat) (p : Int) : cpF (f + 1) T i p = (cpS f T i p (ndA T i).ki).1.set T.length (kiS (ndA (cpS f T i p (ndA T i).ki).1 T.length) (cpS f T i p (ndA T i).ki).2) := rfl
/-- a tree that goes on behind another one -/
structure Ext (T U : List Nod) : Prop where
  le : T.length ≤ U.length
  eq : ∀ j, j < T.length → ndA U j = ndA T j
theorem Ext.refl (T : List Nod) : Ext T T := ⟨Nat.le_refl _, fun _ _ => rfl⟩
theorem Ext.trans {T U V : List Nod} (h : Ext T U) (h2 : Ext U V) : Ext T V := ⟨Nat.le_trans h.le h2.le, fun j hj => (h2.eq j (Nat.lt_of_lt_of_le hj h.le)).trans (h.eq j hj)⟩
theorem Ext.app (T : List Nod) (x : Nod) : Ext T (T ++ [x]) := ⟨by simp, fun j hj => by rw [ndA_app, if_neg (by omega)]⟩
/-- the new nodes of a copy -/
structure CpOk (k : Nat) (p : Int) (U : List Nod) : Prop where
  lt : k < U.length
  pa : (ndA U k).pa = p
  ki : ∀ j, k ≤ j → j < U.length → (∀ c ∈ (ndA U j).ki, j < c ∧ c < U.length ∧ (ndA U c).pa = (j : Int)) ∧ (ndA U j).ki.Nodup
  up : ∀ j, k < j → j < U.length → ∃ q : Nat, (ndA U j).pa = (q : Int) ∧ k ≤ q ∧ q < j ∧ j ∈ (ndA U q).ki
theorem und_ext {T U : List Nod} {d : Nat → Nat} (hW : WF T d) (he : Ext T U) : ∀ (f i : Nat), i < T.length → und U f i = und T f i := by
  intro f
  induction f with
  | zero => intro i _; rfl
  | succ f ih =>
    intro i hi
    unfold und
    rw [he.eq i hi]
    congr 1
    have : ∀ l : List Nat, (∀ c ∈ l, c < T.length) → l.flatMap (und U f) = l.flatMap (und T f) := by
      intro l
      induction l with
      | nil => intro _; rfl
      | cons a l ih2 => intro h; rw [List.flatMap_cons, List.flatMap_cons, ih a (h a (by simp)), ih2 (fun c hc => h c (by simp [hc]))]
    exact this _ (fun c hc => (hW.ki i hi c hc).1)
structure CpR (T : List Nod) (p : Int) (n : Nat) (U : List Nod) : Prop where
  ext : Ext T U
  len : U.length = T.length + n
  ok : CpOk T.length p U
/-- a copy under way -/
structure CpW (T : List Nod) (p : Int) (S : List Nod) (ks : List Nat) : Prop where
  ext : Ext T S
  lt : T.length < S.length
  root : (ndA S T.length).pa = p ∧ (ndA S T.length).ki = []
  kk : ∀ c ∈ ks, T.length < c ∧ c < S.length ∧ (ndA S c).pa = (T.length : Int)
  nd : ks.Nodup
  ki : ∀ j, T.length < j → j < S.length → (∀ c ∈ (ndA S j).ki, j < c ∧ c < S.length ∧ (ndA S c).pa = (j : Int)) ∧ (ndA S j).ki.Nodup
  up : ∀ j, T.length < j → j < S.length → (j ∈ ks ∧ (ndA S j).pa = (T.length : Int)) ∨ ∃ q : Nat, (ndA S j).pa = (q : Int) ∧ T.length < q ∧ q < j ∧ j ∈ (ndA S q).ki
theorem CpW.start (T : List Nod) (x : Nod) (p : Int) : CpW T p (T ++ [cpN x p]) [] := by
  have hl : (T ++ [cpN x p]).length = T.length + 1 := by simp
  refine ⟨Ext.app _ _, by omega, ?_, by simp, List.nodup_nil, fun j h1 h2 => by omega, fun j h1 h2 => by omega⟩
  rw [ndA_app, if_pos rfl]; exact ⟨rfl, rfl⟩
theorem CpW.step {T S V : List Nod} {p : Int} {ks : List Nat} (h : CpW T p S ks) (he : Ext S V) (hc : CpOk S.length (T.length : Int) V) : CpW T p V (ks ++ [S.length]) := by
  have hlt := h.lt
  have hle := he.le
  have key : ∀ j, j < S.length → ndA V j = ndA S j := he.eq
  refine ⟨h.ext.trans he, by omega, by rw [key _ hlt]; exact h.root, ?_, ?_, ?_, ?_⟩
  · intro c hcm
    rcases List.mem_append.1 hcm with hcm | hcm
    · obtain ⟨h1, h2, h3⟩ := h.kk c hcm
      exact ⟨h1, by omega, by rw [key c h2]; exact h3⟩
    · simp at hcm; subst hcm
      exact ⟨hlt, hc.lt, hc.pa⟩
  · rw [List.nodup_append]
    refine ⟨h.nd, by simp, fun a ha b hb e => ?_⟩
    simp at hb
    have := (h.kk a ha).2.1
    omega
  · intro j h1 h2
    by_cases hj : j < S.length
    · obtain ⟨q1, q2⟩ := h.ki j h1 hj
      rw [key j hj]
      refine ⟨fun c hcm => ?_, q2⟩
      obtain ⟨r1, r2, r3⟩ := q1 c hcm
      exact ⟨r1, by omega, by rw [key c r2]; exact r3⟩
    · exact hc.ki j (by omega) h2
  · intro j h1 h2
    by_cases hj : j < S.length
    · rcases h.up j h1 hj with ⟨r1, r2⟩ | ⟨q, r1, r2, r3, r4⟩
      · exact .inl ⟨by simp [r1], by rw [key j hj]; exact r2⟩
      · exact .inr ⟨q, by rw [key j hj]; exact r1, r2, r3, by rw [key q (by omega)]; exact r4⟩
    · by_cases hj2 : j = S.length
      · subst hj2
        exact .inl ⟨by simp, hc.pa⟩
      · obtain ⟨q, r1, r2, r3, r4⟩ := hc.up j (by omega) h2
        exact .inr ⟨q, r1, by omega, r3, r4⟩
theorem CpW.done {T S : List Nod} {p : Int} {ks : List Nat} (h : CpW T p S ks) : Ext T (S.set T.length (kiS (ndA S T.length) ks)) ∧ CpOk T.length p (S.set T.length (kiS (ndA S T.length) ks)) := by
  have hlt := h.lt
  have hg : ∀ j, ndA (S.set T.length (kiS (ndA S T.length) ks)) j = if j = T.length then kiS (ndA S T.length) ks else ndA S j := fun j => ndA_set hlt j
  refine ⟨⟨by rw [List.length_set]; exact h.ext.le, fun j hj => ?_⟩, ⟨by rw [List.length_set]; exact hlt, ?_, ?_, ?_⟩⟩
  · rw [hg, if_neg (by omega)]; exact h.ext.eq j hj
  · rw [hg, if_pos rfl]; exact h.root.1
  · intro j h1 h2
    rw [List.length_set] at h2
    by_cases hj : j = T.length
    · subst hj
      rw [hg, if_pos rfl, List.length_set]
      refine ⟨fun c hc => ?_, h.nd⟩
      obtain ⟨r1, r2, r3⟩ := h.kk c hc
      rw [hg, if_neg (by omega)]
      exact ⟨r1, r2, r3⟩
    · rw [hg, if_neg hj, List.length_set]
      obtain ⟨q1, q2⟩ := h.ki j (by omega) h2
      refine ⟨fun c hc => ?_, q2⟩
      obtain ⟨r1, r2, r3⟩ := q1 c hc
      rw [hg, if_neg (by omega)]
      exact ⟨r1, r2, r3⟩
  · intro j h1 h2
    rw [List.length_set] at h2
    rw [hg, if_neg (by omega)]
    rcases h.up j h1 h2 with ⟨r1, r2⟩ | ⟨q, r1, r2, r3, r4⟩
    · exact ⟨T.length, r2, Nat.le_refl _, h1, by rw [hg, if_pos rfl]; exact r1⟩
    · exact ⟨q, r1, by omega, r3, by rw [hg, if_neg (by omega)]; exact r4⟩
theorem cpF_ok {T0 : List Nod} {d : Nat → Nat} (hW : WF T0 d) : ∀ (f : Nat) (T : List Nod) (i : Nat) (p : Int), Ext T0 T → i < T0.length → CpR T p (und T0 f i).length (cpF f T i p) := by
  intro f
  induction f with
  | zero =>
    intro T i p he hi
    have hw := CpW.start T (ndA T i) p
    have hl : (T ++ [cpN (ndA T i) p]).length = T.length + 1 := by simp
    refine ⟨hw.ext, by simp [cpF, und], hw.lt, hw.root.1, fun j h1 h2 => ?_, fun j h1 h2 => ?_⟩
    · have h2 : j < (T ++ [cpN (ndA T i) p]).length := h2
      have e : j = T.length := by omega
      subst e
      show (∀ c ∈ (ndA (T ++ [cpN (ndA T i) p]) T.length).ki, _) ∧ (ndA (T ++ [cpN (ndA T i) p]) T.length).ki.Nodup
      rw [hw.root.2]
      exact ⟨by simp, List.nodup_nil⟩
    · have h2 : j < (T ++ [cpN (ndA T i) p]).length := h2
      omega
  | succ f ih =>
    intro T i p he hi
    have key : ∀ l : List Nat, (∀ c ∈ l, c < T0.length) → CpW T p (cpS f T i p l).1 (cpS f T i p l).2 ∧ (cpS f T i p l).1.length = T.length + 1 + (l.flatMap (und T0 f)).length := by
      intro l
      obtain ⟨n, hn⟩ : ∃ n, n = l.length := ⟨_, rfl⟩
      induction n generalizing l with
      | zero =>
        intro _
        obtain rfl := List.eq_nil_of_length_eq_zero hn.symm
        rw [cpS_nil]
        exact ⟨CpW.start _ _ _, by simp⟩
      | succ n ihn =>
        intro hl
        obtain ⟨l', c, rfl⟩ : ∃ l' c, l = l' ++ [c] := ⟨l.dropLast, l.getLast (by intro e; subst e; simp at hn), (List.dropLast_concat_getLast _).symm⟩
        obtain ⟨h1, h2⟩ := ihn l' (by simpa using hn) (fun c hc => hl c (by simp [hc]))
        have hc := ih (cpS f T i p l').1 c (T.length : Int) (he.trans h1.ext) (hl c (by simp))
        rw [cpS_snoc]
        refine ⟨h1.step hc.ext hc.ok, ?_⟩
        rw [hc.len, h2, List.flatMap_append, List.length_append]
        simp; omega
    have hki : (ndA T i).ki = (ndA T0 i).ki := by rw [he.eq i hi]
    obtain ⟨h1, h2⟩ := key (ndA T i).ki (fun c hc => (hW.ki i hi c (by rw [← hki]; exact hc)).1)
    obtain ⟨h3, h4⟩ := h1.done
    rw [cpF_succ]
    refine ⟨h3, ?_, h4⟩
    rw [List.length_set, h2, hki]
    simp only [und, List.length_cons]
    omega
theorem wf_of_cp {T U : List Nod} {d : Nat → Nat} {n : Nat} (hW : WF T d) (h : CpR T (-1) n U) : ∃ d', WF U d' := by
  refine ⟨fun j => if j < T.length then d j else j, ?_⟩
  have he := h.ext
  have hk := h.ok
  have old : ∀ j, j < T.length → ndA U j = ndA T j := he.eq
  constructor
  · intro i hi
    by_cases h0 : i < T.length
    · rw [old i h0]
      rcases hW.pa i h0 with e | ⟨e1, e2⟩
      · exact .inl e
      · exact .inr ⟨e1, by have := he.le; omega⟩
    · by_cases h1 : i = T.length
      · subst h1; exact .inl hk.pa
      · obtain ⟨q, r1, r2, r3, _⟩ := hk.up i (by omega) hi
        rw [r1]
        exact .inr ⟨by omega, by omega⟩
  · intro p hp k hk2
    by_cases h0 : p < T.length
    · rw [old p h0] at hk2
      obtain ⟨h1, h2⟩ := hW.ki p h0 k hk2
      exact ⟨by have := he.le; omega, by rw [old k h1]; exact h2⟩
    · obtain ⟨_, r2, r3⟩ := (hk.ki p (by omega) hp).1 k hk2
      exact ⟨r2, r3⟩
  · intro p hp
    by_cases h0 : p < T.length
    · rw [old p h0]; exact hW.nd p h0
    · exact (hk.ki p (by omega) hp).2
  · intro i hi h0
    by_cases h1 : i < T.length
    · rw [old i h1] at h0 ⊢
      have hq : (ndA T i).pa.toNat < T.length := by
        rcases hW.pa i h1 with e | ⟨_, e⟩
        · omega
        · exact e
      rw [old _ hq]
      exact hW.up i h1 h0
    · by_cases h2 : i = T.length
      · subst h2; rw [hk.pa] at h0; omega
      · obtain ⟨q, r1, r2, r3, r4⟩ := hk.up i (by omega) hi
        rw [r1]
        exact r4
  · intro i hi h0
    by_cases h1 : i < T.length
    · rw [old i h1] at h0 ⊢
      have hq : (ndA T i).pa.toNat < T.length := by
        rcases hW.pa i h1 with e | ⟨_, e⟩
        · omega
        · exact e
      simp only [if_pos hq, if_pos h1]
      exact hW.ac i h1 h0
    · by_cases h2 : i = T.length
      · subst h2; rw [hk.pa] at h0; omega
      · obtain ⟨q, r1, r2, r3, r4⟩ := hk.up i (by omega) hi
        rw [r1]
        have e : ((q : Int)).toNat = q := rfl
        simp only [e]
        rw [if_neg (by omega), if_neg (by omega)]
        exact r3
/-- what holds of all attributes holds of the copy's -/
theorem cpF_at (P : List (ByteArray × ByteArray) → Prop) : ∀ (f : Nat) (T : List Nod) (i : Nat) (p : Int), (∀ j, P (ndA T j).at_) → ∀ j, P (ndA (cpF f T i p) j).at_ := by
  have h0 : ∀ (T : List Nod) (x : Nod), (∀ j, P (ndA T j).at_) → P x.at_ → ∀ j, P (ndA (T ++ [x]) j).at_ := fun T x h hx j => by
    rw [ndA_app]
    split
    · exact hx
    · exact h j
  intro f
  induction f with
  | zero => intro T i p h; exact h0 T _ h (h i)
  | succ f ih =>
    intro T i p h
    have key : ∀ l : List Nat, ∀ j, P (ndA (cpS f T i p l).1 j).at_ := by
      intro l
      obtain ⟨n, hn⟩ : ∃ n, n = l.length := ⟨_, rfl⟩
      induction n generalizing l with
      | zero =>
        obtain rfl := List.eq_nil_of_length_eq_zero hn.symm
        rw [cpS_nil]
        exact h0 T _ h (h i)
      | succ n ihn =>
        obtain ⟨l', c, rfl⟩ : ∃ l' c, l = l' ++ [c] := ⟨l.dropLast, l.getLast (by intro e; subst e; simp at hn), (List.dropLast_concat_getLast _).symm⟩
        rw [cpS_snoc]
        exact ih _ _ _ (ihn l' (by simpa using hn))
    rw [cpF_succ]
    intro j
    by_cases hlt : T.length < (cpS f T i p (ndA T i).ki).1.length
    · rw [ndA_set hlt]
      split
      · exact key _ _
      · exact key _ _
    · rw [List.set_eq_of_length_le (by omega)]
      exact key _ _
end Go.Cas
