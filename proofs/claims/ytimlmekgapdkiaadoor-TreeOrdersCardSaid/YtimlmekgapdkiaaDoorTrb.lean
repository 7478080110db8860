/- plain (no program): what lies in a node; trees that grow -/
import Derived.Test.YtimlmekgapdkiaaDoorTra
namespace Go.Cas
set_option linter.unusedVariables false
set_option linter.unusedSimpArgs false

theorem nodup_lt : ∀ (n : Nat) (l : List Nat), l.Nodup → (∀ x ∈ l, x < n) → l.length ≤ n := by
  intro n
  induction n with
  | zero =>
    intro l _ h
    cases l with
    | nil => simp
    | cons x l => have := h x (by simp); omega
  | succ n ih =>
    intro l hd h
    by_cases hm : n ∈ l
    · have h1 := ih (l.erase n) (hd.erase n) (fun x hx => by
        rw [hd.mem_erase_iff] at hx
        have := h x hx.2
        have := hx.1
        omega)
      rw [List.length_erase_of_mem hm] at h1
      omega
    · have := ih l hd (fun x hx => by
        have := h x hx
        have : x ≠ n := fun e => hm (e ▸ hx)
        omega)
      omega
/-- is one above another, or the same? -/
inductive Anc (T : List Nod) (i : Nat) : Nat → Prop
  | refl : Anc T i i
  | step {x p : Nat} : (ndA T x).pa = (p : Int) → Anc T i p → Anc T i x
theorem Anc.cmp {T : List Nod} {i j x : Nat} (h : Anc T i x) (k : Anc T j x) : Anc T i j ∨ Anc T j i := by
  induction h with
  | refl => exact .inr k
  | step e hp ih =>
    cases k with
    | refl => exact .inl (.step e hp)
    | step e' hp' =>
      obtain rfl := Int.ofNat.inj (e.symm.trans e')
      exact ih hp'
theorem Anc.le {T : List Nod} {d : Nat → Nat} (h : WF T d) {i x : Nat} (ha : Anc T i x) (hx : x < T.length) : i < T.length ∧ d i ≤ d x := by
  induction ha with
  | refl => exact ⟨hx, Nat.le_refl _⟩
  | @step x p e hp ih =>
    have hp2 : p < T.length := by
      rcases h.pa x hx with e1 | ⟨_, e2⟩
      · omega
      · rw [e] at e2; exact e2
    have h1 := ih hp2
    have h2 := h.ac x hx (by omega)
    rw [e] at h2
    have : ((p : Int)).toNat = p := rfl
    rw [this] at h2
    omega
theorem Anc.trans {T : List Nod} {i j x : Nat} (h : Anc T i j) (k : Anc T j x) : Anc T i x := by
  induction k with
  | refl => exact h
  | step e _ ih => exact .step e ih
/-- what lies in a node, itself first -/
def und (T : List Nod) : Nat → Nat → List Nat
  | 0, i => [i]
  | f + 1, i => i :: (ndA T i).ki.flatMap (und T f)
theorem und_mem {T : List Nod} {d : Nat → Nat} (h : WF T d) : ∀ (f i : Nat), i < T.length → ∀ x ∈ und T f i, x < T.length ∧ Anc T i x := by
  intro f
  induction f with
  | zero => intro i hi x hx; simp [und] at hx; subst hx; exact ⟨hi, .refl⟩
  | succ f ih =>
    intro i hi x hx
    simp only [und, List.mem_cons, List.mem_flatMap] at hx
    rcases hx with rfl | ⟨k, hk, hx⟩
    · exact ⟨hi, .refl⟩
    · obtain ⟨h1, h2⟩ := h.ki i hi k hk
      obtain ⟨h3, h4⟩ := ih k h1 x hx
      exact ⟨h3, Anc.trans (.step h2 .refl) h4⟩
theorem und_nodup {T : List Nod} {d : Nat → Nat} (h : WF T d) : ∀ (f i : Nat), i < T.length → (und T f i).Nodup := by
  intro f
  induction f with
  | zero => intro i _; simp [und]
  | succ f ih =>
    intro i hi
    have hkd : ∀ k ∈ (ndA T i).ki, d i < d k := fun k hk => by
      obtain ⟨h1, h2⟩ := h.ki i hi k hk
      have := h.ac k h1 (by omega)
      rw [h2] at this
      exact this
    unfold und
    rw [List.nodup_cons]
    constructor
    · intro hm
      obtain ⟨k, hk, hx⟩ := List.mem_flatMap.1 hm
      obtain ⟨h1, h2⟩ := h.ki i hi k hk
      have h3 := (und_mem h f k h1 i hx).2.le h hi
      have := hkd k hk
      omega
    · unfold List.Nodup
      rw [List.pairwise_flatMap]
      refine ⟨fun k hk => ih k (h.ki i hi k hk).1, ?_⟩
      refine List.Pairwise.imp_of_mem ?_ (h.nd i hi)
      intro a b ha hb hab x hx y hy e
      subst e
      obtain ⟨a1, a2⟩ := h.ki i hi a ha
      obtain ⟨b1, b2⟩ := h.ki i hi b hb
      have c1 := (und_mem h f a a1 x hx).2
      have c2 := (und_mem h f b b1 x hy).2
      rcases c1.cmp c2 with c | c
      · cases c with
        | refl => exact hab rfl
        | step e' c' =>
          obtain rfl := Int.ofNat.inj (b2.symm.trans e')
          have := (c'.le h hi).2
          have := hkd a ha
          omega
      · cases c with
        | refl => exact hab rfl
        | step e' c' =>
          obtain rfl := Int.ofNat.inj (a2.symm.trans e')
          have := (c'.le h hi).2
          have := hkd b hb
          omega
theorem und_len {T : List Nod} {d : Nat → Nat} (h : WF T d) (f i : Nat) (hi : i < T.length) : (und T f i).length ≤ T.length :=
  nodup_lt _ _ (und_nodup h f i hi) (fun x hx => (und_mem h f i hi x hx).1)
theorem und_more {T : List Nod} {d : Nat → Nat} (h : WF T d) {D : Nat} (hD : ∀ k, k < T.length → d k ≤ D) : ∀ (f i : Nat), i < T.length → D - d i ≤ f → und T (f + 1) i = und T f i := by
  intro f
  induction f with
  | zero =>
    intro i hi hf
    have : (ndA T i).ki = [] := by
      cases hk : (ndA T i).ki with
      | nil => rfl
      | cons k l =>
        exfalso
        obtain ⟨h1, h2⟩ := h.ki i hi k (by rw [hk]; simp)
        have h3 := h.ac k h1 (by omega)
        rw [h2] at h3
        have : ((i : Int)).toNat = i := rfl
        rw [this] at h3
        have := hD k h1
        omega
    simp [und, this]
  | succ f ih =>
    intro i hi hf
    show i :: (ndA T i).ki.flatMap (und T (f + 1)) = i :: (ndA T i).ki.flatMap (und T f)
    congr 1
    rw [List.flatMap_def, List.flatMap_def]
    congr 1
    refine List.map_congr_left (fun k hk => ?_)
    obtain ⟨h1, h2⟩ := h.ki i hi k hk
    have h3 := h.ac k h1 (by omega)
    rw [h2] at h3
    have : ((i : Int)).toNat = i := rfl
    rw [this] at h3
    exact ih k h1 (by omega)
/-- a new node -/
theorem ndA_app {T : List Nod} {x : Nod} (i : Nat) : ndA (T ++ [x]) i = if i = T.length then x else ndA T i := by
  unfold ndA
  rw [List.getD_eq_getElem?_getD, List.getD_eq_getElem?_getD]
  split
  · rename_i h; subst h; simp
  · rename_i h
    by_cases hi : i < T.length
    · rw [List.getElem?_append_left hi]
    · rw [List.getElem?_append_right (by omega), List.getElem?_eq_none (by simp; omega), List.getElem?_eq_none (by omega)]
theorem WF.add {T : List Nod} {d : Nat → Nat} (h : WF T d) {x : Nod} (hp : x.pa = -1) (hk : x.ki = []) : WF (T ++ [x]) d := by
  have hl : (T ++ [x]).length = T.length + 1 := by simp
  constructor
  · intro i hi
    rw [ndA_app]
    split
    · exact .inl hp
    · rcases h.pa i (by omega) with e | ⟨e1, e2⟩
      · exact .inl e
      · exact .inr ⟨e1, by omega⟩
  · intro p hp2 k hk2
    rw [ndA_app] at hk2
    split at hk2
    · rw [hk] at hk2; simp at hk2
    · obtain ⟨h1, h2⟩ := h.ki p (by omega) k hk2
      rw [ndA_app, if_neg (by omega)]
      exact ⟨by omega, h2⟩
  · intro p hp2
    rw [ndA_app]
    split
    · rw [hk]; simp
    · exact h.nd p (by omega)
  · intro i hi h0
    rw [ndA_app] at h0
    split at h0
    · omega
    · rename_i hne
      have h1 := h.up i (by omega) h0
      rcases h.pa i (by omega) with e | ⟨e1, e2⟩
      · omega
      · have e3 : ndA (T ++ [x]) i = ndA T i := by rw [ndA_app, if_neg hne]
        rw [e3, ndA_app, if_neg (by omega)]
        exact h1
  · intro i hi h0
    rw [ndA_app] at h0 ⊢
    split at h0
    · omega
    · rename_i hne
      rw [if_neg hne]
      exact h.ac i (by omega) h0
theorem ndA_set {T : List Nod} {j : Nat} {x : Nod} (hj : j < T.length) (i : Nat) : ndA (T.set j x) i = if i = j then x else ndA T i := by
  unfold ndA
  rw [List.getD_eq_getElem?_getD, List.getD_eq_getElem?_getD]
  split
  · rename_i h; subst h; rw [List.getElem?_set_self hj]; rfl
  · rename_i h; rw [List.getElem?_set_ne (Ne.symm h)]
/-- what is said of a node alone does not turn the tree -/
theorem WF.same {T T' : List Nod} {d : Nat → Nat} (h : WF T d) (hl : T'.length = T.length) (hp : ∀ i, i < T.length → (ndA T' i).pa = (ndA T i).pa) (hk : ∀ i, i < T.length → (ndA T' i).ki = (ndA T i).ki) : WF T' d := by
  constructor
  · intro i hi; rw [hl] at hi ⊢; rw [hp i hi]; exact h.pa i hi
  · intro p hp2 k hk2
    rw [hl] at hp2 ⊢
    rw [hk p hp2] at hk2
    obtain ⟨h1, h2⟩ := h.ki p hp2 k hk2
    exact ⟨h1, by rw [hp k h1]; exact h2⟩
  · intro p hp2; rw [hl] at hp2; rw [hk p hp2]; exact h.nd p hp2
  · intro i hi h0
    rw [hl] at hi
    rw [hp i hi] at h0 ⊢
    have h1 := h.up i hi h0
    rcases h.pa i hi with e | ⟨e1, e2⟩
    · omega
    · rw [hk _ e2]; exact h1
  · intro i hi h0
    rw [hl] at hi
    rw [hp i hi] at h0 ⊢
    exact h.ac i hi h0
/-- a node without a parent is put among the kids of another one -/
def putE (T : List Nod) (p i : Nat) (ks : List Nat) : List Nod := (T.set p { ndA T p with ki := ks }).set i { ndA (T.set p { ndA T p with ki := ks }) i with pa := p }
theorem putE_nd {T : List Nod} {p i : Nat} {ks : List Nat} (hp : p < T.length) (hi : i < T.length) (hpi : p ≠ i) (k : Nat) : ndA (putE T p i ks) k = if k = i then { ndA T i with pa := p } else if k = p then { ndA T p with ki := ks } else ndA T k := by
  unfold putE
  rw [ndA_set (by rw [List.length_set]; exact hi), ndA_set hp, ndA_set hp, if_neg (Ne.symm hpi)]
theorem putE_len (T : List Nod) (p i : Nat) (ks : List Nat) : (putE T p i ks).length = T.length := by unfold putE; simp
theorem anc_dec (T : List Nod) (i x : Nat) : Anc T i x ∨ ¬ Anc T i x := Classical.em _
open Classical in
theorem WF.put {T : List Nod} {d : Nat → Nat} (h : WF T d) {p i : Nat} {ks : List Nat} (hp : p < T.length) (hi : i < T.length) (hpa : (ndA T i).pa < 0) (hw : ¬ Anc T i p) (hks : ∀ k, k ∈ ks ↔ k = i ∨ k ∈ (ndA T p).ki) (hnd : ks.Nodup) : WF (putE T p i ks) (fun k => if Anc T i k then d k + d p + 1 else d k) := by
  have hpi : p ≠ i := fun e => hw (e ▸ .refl)
  have hl := putE_len T p i ks
  have hnp : ∀ k, (ndA (putE T p i ks) k).pa = if k = i then (p : Int) else (ndA T k).pa := fun k => by
    rw [putE_nd hp hi hpi]
    split
    · rfl
    · split
      · rename_i e; rw [e]
      · rfl
  have hnk : ∀ k, (ndA (putE T p i ks) k).ki = if k = p then ks else (ndA T k).ki := fun k => by
    rw [putE_nd hp hi hpi]
    by_cases e : k = i
    · subst e; rw [if_pos rfl, if_neg (Ne.symm hpi)]
    · rw [if_neg e]; split <;> rfl
  constructor
  · intro k hk
    rw [hl] at hk ⊢
    rw [hnp]
    split
    · exact .inr ⟨by omega, hp⟩
    · exact h.pa k hk
  · intro q hq k hk
    rw [hl] at hq ⊢
    rw [hnk] at hk
    rw [hnp]
    by_cases e : q = p
    · subst e
      rw [if_pos rfl] at hk
      rcases (hks k).1 hk with rfl | hk
      · exact ⟨hi, by rw [if_pos rfl]⟩
      · obtain ⟨h1, h2⟩ := h.ki q hq k hk
        refine ⟨h1, ?_⟩
        split
        · rfl
        · exact h2
    · rw [if_neg e] at hk
      obtain ⟨h1, h2⟩ := h.ki q hq k hk
      refine ⟨h1, ?_⟩
      rw [if_neg (fun e => by subst e; omega)]
      exact h2
  · intro q hq
    rw [hl] at hq
    rw [hnk]
    split
    · exact hnd
    · exact h.nd q hq
  · intro k hk h0
    rw [hl] at hk
    rw [hnp] at h0 ⊢
    by_cases e : k = i
    · subst e
      rw [if_pos rfl, hnk, if_pos (show ((p : Int)).toNat = p from rfl)]
      exact (hks k).2 (.inl rfl)
    · rw [if_neg e] at h0 ⊢
      have h1 := h.up k hk h0
      rw [hnk]
      split
      · rename_i e2
        refine (hks k).2 (.inr ?_)
        rw [← e2]; exact h1
      · exact h1
  · intro k hk h0
    rw [hl] at hk
    rw [hnp] at h0 ⊢
    by_cases e : k = i
    · subst e
      rw [if_pos rfl, if_pos Anc.refl]
      have : ((p : Int)).toNat = p := rfl
      rw [this, if_neg hw]
      omega
    · rw [if_neg e] at h0 ⊢
      have h1 := h.ac k hk h0
      obtain ⟨q, hq⟩ : ∃ q : Nat, (ndA T k).pa = (q : Int) := ⟨(ndA T k).pa.toNat, by omega⟩
      rw [hq] at h1 ⊢
      have e3 : ((q : Int)).toNat = q := rfl
      rw [e3] at h1 ⊢
      have hiff : Anc T i k ↔ Anc T i q := by
        constructor
        · intro ha
          cases ha with
          | refl => exact absurd rfl e
          | step e' c => obtain rfl := Int.ofNat.inj (hq.symm.trans e'); exact c
        · intro ha; exact .step hq ha
      by_cases ha : Anc T i k
      · rw [if_pos ha, if_pos (hiff.1 ha)]; omega
      · rw [if_neg ha, if_neg (fun h => ha (hiff.2 h))]; exact h1
end Go.Cas
