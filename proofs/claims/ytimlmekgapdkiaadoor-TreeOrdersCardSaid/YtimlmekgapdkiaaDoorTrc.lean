/- plain (no program): a node cut out of where it is; one that is put somewhere -/
import Derived.Test.YtimlmekgapdkiaaDoorTrb
namespace Go.Cas
set_option linter.unusedVariables false
set_option linter.unusedSimpArgs false

/-- a node cut out of where it is -/
def cutE (T : List Nod) (i : Nat) : List Nod :=
  if 0 ≤ (ndA T i).pa then (T.set (ndA T i).pa.toNat { ndA T (ndA T i).pa.toNat with ki := (ndA T (ndA T i).pa.toNat).ki.erase i }).set i { ndA T i with pa := -1 } else T
theorem cutE_len (T : List Nod) (i : Nat) : (cutE T i).length = T.length := by unfold cutE; split <;> simp
theorem cutE_none {T : List Nod} {i : Nat} (h : (ndA T i).pa < 0) : cutE T i = T := by unfold cutE; rw [if_neg (by omega)]
theorem cutE_nd {T : List Nod} {d : Nat → Nat} (h : WF T d) {i p : Nat} (hi : i < T.length) (hp : (ndA T i).pa = (p : Int)) (k : Nat) : ndA (cutE T i) k = if k = i then { ndA T i with pa := -1 } else if k = p then { ndA T p with ki := (ndA T p).ki.erase i } else ndA T k := by
  have h0 : 0 ≤ (ndA T i).pa := by omega
  have hac := h.ac i hi h0
  have hpl : p < T.length := by rcases h.pa i hi with e | ⟨_, e⟩ <;> omega
  rw [hp] at hac
  have ep : ((p : Int)).toNat = p := rfl
  rw [ep] at hac
  have hne : p ≠ i := fun e => by subst e; omega
  unfold cutE
  rw [if_pos h0, hp, ep, ndA_set (by rw [List.length_set]; exact hi), ndA_set hpl]
theorem cutE_pa {T : List Nod} {d : Nat → Nat} (h : WF T d) {i : Nat} (hi : i < T.length) (k : Nat) : (ndA (cutE T i) k).pa = if k = i then -1 else (ndA T k).pa := by
  by_cases h0 : 0 ≤ (ndA T i).pa
  · obtain ⟨p, hp⟩ := Int.eq_ofNat_of_zero_le h0
    rw [cutE_nd h hi hp]
    split
    · rfl
    · split
      · rename_i e; rw [e]
      · rfl
  · rw [cutE_none (by omega)]
    split
    · rename_i e; subst e; rcases h.pa k hi with e | ⟨e, _⟩ <;> omega
    · rfl
theorem WF.cut {T : List Nod} {d : Nat → Nat} (h : WF T d) {i : Nat} (hi : i < T.length) : WF (cutE T i) d := by
  by_cases h0 : 0 ≤ (ndA T i).pa
  case neg => rw [cutE_none (by omega)]; exact h
  obtain ⟨p, hp⟩ := Int.eq_ofNat_of_zero_le h0
  have hl := cutE_len T i
  have hpl : p < T.length := by rcases h.pa i hi with e | ⟨_, e⟩ <;> omega
  have hpa := cutE_pa h hi
  have hne : p ≠ i := fun e => by
    have hac := h.ac i hi h0
    rw [hp] at hac
    have ep : ((p : Int)).toNat = p := rfl
    rw [ep] at hac
    subst e; omega
  have hki : ∀ k, (ndA (cutE T i) k).ki = if k = p then (ndA T p).ki.erase i else (ndA T k).ki := fun k => by
    rw [cutE_nd h hi hp]
    by_cases e : k = i
    · subst e; rw [if_pos rfl, if_neg (Ne.symm hne)]
    · rw [if_neg e]; split <;> rfl
  constructor
  · intro k hk
    rw [hl] at hk ⊢
    rw [hpa]
    split
    · exact .inl rfl
    · exact h.pa k hk
  · intro q hq k hk
    rw [hl] at hq ⊢
    rw [hki] at hk
    rw [hpa]
    by_cases e : q = p
    · subst e
      rw [if_pos rfl] at hk
      have hk2 := ((h.nd q hq).mem_erase_iff).1 hk
      obtain ⟨h1, h2⟩ := h.ki q hq k hk2.2
      exact ⟨h1, by rw [if_neg hk2.1]; exact h2⟩
    · rw [if_neg e] at hk
      obtain ⟨h1, h2⟩ := h.ki q hq k hk
      refine ⟨h1, ?_⟩
      rw [if_neg (fun e2 => by subst e2; omega)]
      exact h2
  · intro q hq
    rw [hl] at hq
    rw [hki]
    split
    · exact (h.nd p hpl).erase _
    · exact h.nd q hq
  · intro k hk h1
    rw [hl] at hk
    rw [hpa] at h1 ⊢
    by_cases e : k = i
    · rw [if_pos e] at h1; omega
    · rw [if_neg e] at h1 ⊢
      have h2 := h.up k hk h1
      rw [hki]
      split
      · rename_i e2
        rw [e2] at h2
        exact ((h.nd p hpl).mem_erase_iff).2 ⟨e, h2⟩
      · exact h2
  · intro k hk h1
    rw [hl] at hk
    rw [hpa] at h1 ⊢
    by_cases e : k = i
    · rw [if_pos e] at h1; omega
    · rw [if_neg e] at h1 ⊢
      exact h.ac k hk h1
theorem Anc.cut {T : List Nod} {d : Nat → Nat} (h : WF T d) {i j x : Nat} (hi : i < T.length) (ha : Anc (cutE T i) j x) : Anc T j x := by
  induction ha with
  | refl => exact .refl
  | step e _ ih =>
    rw [cutE_pa h hi] at e
    split at e
    · omega
    · exact .step e ih
/-- put at a place -/
def insA (l : List Nat) (n x : Nat) : List Nat := l.take n ++ x :: l.drop n
theorem insA_mem {l : List Nat} {n x k : Nat} : k ∈ insA l n x ↔ k = x ∨ k ∈ l := by
  unfold insA
  rw [List.mem_append, List.mem_cons]
  have : k ∈ l ↔ k ∈ l.take n ∨ k ∈ l.drop n := by rw [← List.mem_append, List.take_append_drop]
  rw [this]
  constructor
  · rintro (h | h | h)
    · exact .inr (.inl h)
    · exact .inl h
    · exact .inr (.inr h)
  · rintro (h | h | h)
    · exact .inr (.inl h)
    · exact .inl h
    · exact .inr (.inr h)
theorem insA_nodup {l : List Nat} {n x : Nat} (h : l.Nodup) (hx : x ∉ l) : (insA l n x).Nodup := by
  have hp : (insA l n x).Perm (x :: l) := by
    unfold insA
    have := List.perm_middle (a := x) (l₁ := l.take n) (l₂ := l.drop n)
    rw [List.take_append_drop] at this
    exact this
  exact hp.nodup_iff.2 (List.nodup_cons.2 ⟨hx, h⟩)
theorem insA_end (l : List Nat) (x : Nat) : insA l l.length x = l ++ [x] := by unfold insA; simp
def putG (T : List Nod) (p i n : Nat) : List Nod := putE (cutE T i) p i (insA (ndA (cutE T i) p).ki n i)
theorem putG_len (T : List Nod) (p i n : Nat) : (putG T p i n).length = T.length := by unfold putG; rw [putE_len, cutE_len]
theorem putG_none {T : List Nod} {p i n : Nat} (h : (ndA T i).pa < 0) : putG T p i n = putE T p i (insA (ndA T p).ki n i) := by unfold putG; rw [cutE_none h]
theorem WF.putG {T : List Nod} {d : Nat → Nat} (h : WF T d) {p i : Nat} (n : Nat) (hp : p < T.length) (hi : i < T.length) (hw : ¬ Anc T i p) : ∃ d', WF (putG T p i n) d' := by
  have h1 := h.cut hi
  have hpa : (ndA (cutE T i) i).pa < 0 := by rw [cutE_pa h hi, if_pos rfl]; omega
  have hni : i ∉ (ndA (cutE T i) p).ki := fun hm => by
    have := (h1.ki p (by rw [cutE_len]; exact hp) i hm).2
    omega
  exact ⟨_, h1.put (by rw [cutE_len]; exact hp) (by rw [cutE_len]; exact hi) hpa (fun ha => hw (ha.cut h hi)) (fun k => insA_mem) (insA_nodup (h1.nd p (by rw [cutE_len]; exact hp)) hni)⟩
/-- what is on the way up -/
theorem anc_up {T : List Nod} {i x p : Nat} (hp : (ndA T x).pa = (p : Int)) (hne : x ≠ i) : Anc T i x ↔ Anc T i p := by
  constructor
  · intro h
    cases h with
    | refl => exact absurd rfl hne
    | step e h => obtain rfl := Int.ofNat.inj (hp.symm.trans e); exact h
  · intro h; exact .step hp h
theorem anc_root {T : List Nod} {i x : Nat} (hp : (ndA T x).pa < 0) (hne : x ≠ i) : ¬ Anc T i x := by
  intro h
  cases h with
  | refl => exact hne rfl
  | step e h => omega
open Classical in
/-- does a node lie in another one? -/
noncomputable def ancB (T : List Nod) (i x : Nat) : Bool := decide (Anc T i x)
theorem ancB_true {T : List Nod} {i x : Nat} : ancB T i x = true ↔ Anc T i x := by unfold ancB; simp
theorem ancB_false {T : List Nod} {i x : Nat} : ancB T i x = false ↔ ¬ Anc T i x := by unfold ancB; simp
end Go.Cas
