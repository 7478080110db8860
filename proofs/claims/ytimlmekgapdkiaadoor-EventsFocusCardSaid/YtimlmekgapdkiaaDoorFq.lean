/- the document's order of focus, plainly -/
import Derived.Test.YtimlmekgapdkiaaDoorFl
namespace Go.Proofs.YtimlmekgapdkiaaDoor
set_option linter.unusedVariables false
set_option linter.unusedSimpArgs false
open Go.RowKit Go.Cas

/-- a node's turn as the document tells it; -1: none -/
def tuN (x : Nod) : Int := if (ixN x).2 then (ixN x).1 else -1
theorem tuN_ge (x : Nod) : -1 ≤ tuN x := by
  unfold tuN
  have := (ixN_bd x).1
  split <;> omega
theorem tuN_lt (x : Nod) : tuN x < 1000000000 := by
  unfold tuN
  have := (ixN_bd x).2
  split <;> omega
theorem tu_isF (T : List Nod) (i : Nat) : isF T i = decide (0 < tuN (ndA T i)) := by
  unfold isF ixA tuN
  cases (ixN (ndA T i)).2 <;> simp
theorem tu_isR (T : List Nod) (i : Nat) : isR T i = decide (tuN (ndA T i) = 0) := by
  have := (ixN_bd (ndA T i)).1
  unfold isR ixA tuN
  cases (ixN (ndA T i)).2
  · simp
  · simp only [Bool.true_and, if_true]
    rw [Bool.eq_iff_iff]
    simp only [Bool.not_eq_true', decide_eq_false_iff_not, decide_eq_true_eq]
    omega
theorem tu_ix {T : List Nod} {i : Nat} (h : isF T i = true) : tuN (ndA T i) = (ixA T i).1 := by
  unfold isF at h
  rw [Bool.and_eq_true] at h
  unfold tuN
  have : (ixN (ndA T i)).2 = true := h.1
  rw [if_pos this]; rfl
/-- sorted, and of the same buckets as a list -/
structure FoS (f : Nat → Int) (u O : List Nat) : Prop where
  srt : O.Pairwise (fun a b => f a ≤ f b)
  stb : ∀ s : Int, O.filter (fun y => decide (f y = s)) = u.filter (fun y => decide (f y = s))
theorem FoS.nil (f : Nat → Int) : FoS f [] [] := ⟨List.Pairwise.nil, fun _ => rfl⟩
theorem FoS.mem {f : Nat → Int} {u O : List Nat} (h : FoS f u O) {x : Nat} (hx : x ∈ O) : x ∈ u := by
  have h1 : x ∈ O.filter (fun y => decide (f y = f x)) := List.mem_filter.2 ⟨hx, by simp⟩
  rw [h.stb (f x)] at h1
  exact (List.mem_filter.1 h1).1
theorem FoS.ins {f : Nat → Int} {u O : List Nat} (h : FoS f u O) {x j : Nat} (hd : ∀ y ∈ O.drop j, f x < f y) (ht : ∀ y ∈ O.take j, f y ≤ f x) : FoS f (u ++ [x]) (O.take j ++ [x] ++ O.drop j) := by
  have hs := h.srt
  rw [← List.take_append_drop j O, List.pairwise_append] at hs
  obtain ⟨h1, h2, h3⟩ := hs
  refine ⟨?_, fun s => ?_⟩
  · rw [List.pairwise_append, List.pairwise_append]
    refine ⟨⟨h1, List.pairwise_singleton _ _, fun a ha b hb => ?_⟩, h2, fun a ha b hb => ?_⟩
    · simp at hb; subst hb; exact ht a ha
    · rcases List.mem_append.1 ha with ha | ha
      · exact h3 a ha b hb
      · simp at ha; subst ha; exact Int.le_of_lt (hd b hb)
  · rw [List.filter_append, List.filter_append, List.filter_append, ← h.stb s]
    conv => rhs; rw [← List.take_append_drop j O, List.filter_append]
    by_cases e : f x = s
    · have e0 : (O.drop j).filter (fun y => decide (f y = s)) = [] := by
        rw [List.filter_eq_nil_iff]
        intro y hy
        have := hd y hy
        simp; omega
      rw [e0]; simp
    · simp [e]
theorem FoS.pos {f : Nat → Int} {u O : List Nat} (h : FoS f u O) {x : Int} {j y : Nat} (hy : O[j]? = some y) (hle : f y ≤ x) : ∀ z ∈ O.take (j + 1), f z ≤ x := by
  intro z hz
  obtain ⟨k, hk, rfl⟩ := List.getElem_of_mem hz
  have hk' : k < j + 1 ∧ k < O.length := by rw [List.length_take] at hk; omega
  rw [List.getElem_take]
  have hj := (List.getElem?_eq_some_iff.1 hy)
  obtain ⟨hj, e⟩ := hj
  by_cases ekj : k = j
  · subst ekj; rw [e]; exact hle
  · have := List.pairwise_iff_getElem.1 h.srt k j hk'.2 hj (by omega)
    rw [e] at this; exact Int.le_trans this hle
theorem FoS.ord {T : List Nod} {u O : List Nat} (h : FoS (fun i => (ixA T i).1) (u.filter (isF T)) O) : O ++ u.filter (isR T) = ordL T u := by
  unfold ordL
  congr 1
  exact srt_uniq _ _ _ h.srt (isrt_srt _ _) (fun s => (h.stb s).trans (isrt_filter _ s _).symm)
theorem nx_bwd {O : List Nat} (h : O.Nodup) {i x y : Nat} (hi : O[i]? = some x) (hy : O[(i + O.length - 1) % O.length]? = some y) : nxB O (x : Int) true = (y : Int) := by
  have hl := (List.getElem?_eq_some_iff.1 hi).1
  refine nx_back h hy ?_
  rw [← hi]
  congr 1
  by_cases h0 : i = 0
  · subst h0
    rw [Nat.zero_add, Nat.mod_eq_of_lt (by omega : O.length - 1 < O.length), Nat.sub_add_cancel (by omega), Nat.mod_self]
  · have e : i + O.length - 1 = (i - 1) + O.length := by omega
    rw [e, Nat.add_mod_right, Nat.mod_eq_of_lt (by omega : i - 1 < O.length), Nat.sub_add_cancel (by omega), Nat.mod_eq_of_lt hl]
theorem nx_no {O : List Nat} {z : Int} {x : Nat} (hn : ∀ (j q : Nat), O[j]? = some q → (q : Int) ≠ z) (h0 : O[0]? = some x) : nxB O z false = (x : Int) := by
  have h1 : fnI O z = -1 := fnI_none O z hn
  have hl := (List.getElem?_eq_some_iff.1 h0).1
  unfold nxB nxL
  simp only [Bool.false_eq_true, if_false]
  rw [if_neg (by intro h; rw [h] at hl; simp at hl), h1]
  have e : ((-1 + 1 : Int) % (O.length : Int)).toNat = 0 := by simp
  rw [e, List.getD_eq_getElem?_getD, h0]; rfl
theorem nx_nob {O : List Nat} {z : Int} {x : Nat} (hn : ∀ (j q : Nat), O[j]? = some q → (q : Int) ≠ z) (h0 : O[O.length - 1]? = some x) : nxB O z true = (x : Int) := by
  have hl := (List.getElem?_eq_some_iff.1 h0).1
  have h0' : O.reverse[0]? = some x := by
    rw [List.getElem?_reverse (by omega), ← h0]
    congr 1
  have hn' : ∀ (j q : Nat), O.reverse[j]? = some q → (q : Int) ≠ z := fun j q hq => by
    have hm := List.mem_of_getElem? hq
    rw [List.mem_reverse] at hm
    obtain ⟨k, hk⟩ := List.mem_iff_getElem?.1 hm
    exact hn k q hk
  exact nx_no hn' h0'
end Go.Proofs.YtimlmekgapdkiaaDoor
