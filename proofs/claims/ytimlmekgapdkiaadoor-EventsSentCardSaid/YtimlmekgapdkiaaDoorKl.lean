/- plain facts of a list's tree: what stands in it; a way has no doubles -/
import Derived.Test.YtimlmekgapdkiaaDoorTmw
namespace Go.Proofs.YtimlmekgapdkiaaDoor
set_option linter.unusedVariables false
set_option linter.unusedSimpArgs false
open Go.RowKit Go.Cas

def KV (T : List Nod) : Prop := ∀ j, j < T.length → (ndA T j).k ≠ 0
theorem KV.same {T T' : List Nod} (h : KV T) (hl : T'.length = T.length) (he : ∀ j, (ndA T' j).k = (ndA T j).k) : KV T' := fun j hj => by rw [he j]; exact h j (hl ▸ hj)
theorem k_set {T : List Nod} {p : Nat} {y : Nod} (h : y.k = (ndA T p).k) (j : Nat) : (ndA (T.set p y) j).k = (ndA T j).k := by
  by_cases hp : p < T.length
  · rw [ndA_set hp]
    split
    · rename_i e; rw [h, e]
    · rfl
  · rw [List.set_eq_of_length_le (by omega)]
theorem k_putE (T : List Nod) (p i : Nat) (ks : List Nat) (j : Nat) : (ndA (putE T p i ks) j).k = (ndA T j).k := by
  unfold putE
  rw [k_set (by rfl), k_set (by rfl)]
theorem k_cutE (T : List Nod) (i : Nat) (j : Nat) : (ndA (cutE T i) j).k = (ndA T j).k := by
  unfold cutE
  split
  · rw [k_set (by rw [k_set (by rfl)]), k_set (by rfl)]
  · rfl
theorem k_putG (T : List Nod) (p i n : Nat) (j : Nat) : (ndA (putG T p i n) j).k = (ndA T j).k := by
  unfold putG
  rw [k_putE, k_cutE]
theorem len_putG (T : List Nod) (p i n : Nat) : (putG T p i n).length = T.length := by
  unfold putG putE cutE
  split <;> simp
theorem KV.atW {T : List Nod} {i : Nat} {q : ByteArray × ByteArray} (h : KV T) : KV (atW isNm setA i T q) := by
  unfold Go.Cas.atW
  split
  · exact h.same (by simp) (k_set (by rfl))
  · exact h
theorem KV.atWs {i : Nat} : ∀ (l : List (ByteArray × ByteArray)) (T : List Nod), KV T → KV (l.foldl (Go.Cas.atW isNm setA i) T) := by
  intro l
  induction l with
  | nil => intro T h; exact h
  | cons q l ih => intro T h; exact ih _ h.atW
theorem KV.kiWs {i : Nat} : ∀ (l : List Int) (T : List Nod), KV T → KV (l.foldl (kiW i) T) := by
  intro l
  induction l with
  | nil => intro T h; exact h
  | cons k l ih =>
    intro T h
    refine ih _ ?_
    unfold kiW
    split
    · exact h.same (len_putG _ _ _ _) (k_putG _ _ _ _)
    · exact h
theorem KV.twW {T : List Nod} {i : Nat} {x : Twg} (h : KV T) : KV (twW isNm setA T i x) := by
  unfold Go.Cas.twW
  refine KV.kiWs _ _ (KV.atWs _ _ fun j hj => ?_)
  rw [ndA_app]
  split
  · unfold ndW
    split
    · simp
    · split <;> simp
  · rename_i hne
    exact h j (by simp at hj; omega)
theorem KV.twsW : ∀ (l : List Twg) (T : List Nod) (i : Nat), KV T → KV (twsW isNm setA T i l) := by
  intro l
  induction l with
  | nil => intro T i h; exact h
  | cons x l ih =>
    intro T i h
    unfold Go.Cas.twsW
    exact ih _ _ h.twW
theorem KV.topsW {T : List Nod} {n : Nat} (h : KV T) : KV (topsW T n) := by
  unfold Go.Cas.topsW
  generalize (List.range n).map (· + 1) = l
  induction l generalizing T with
  | nil => exact h
  | cons i l ih =>
    refine ih ?_
    unfold topW
    split
    · exact h.same (len_putG _ _ _ _) (k_putG _ _ _ _)
    · exact h
theorem plainT_KV (l : List Twg) : KV (plainT l) := by
  refine (KV.twsW l [root0] 0 fun j hj => ?_).topsW
  simp at hj
  subst hj
  show (1 : Int) ≠ 0
  decide
theorem Way.falls {T : List Nod} {d : Nat → Nat} (hW : WF T d) {i : Nat} {l : List Nat} (h : Go.Cas.Way T i l) (hi : i < T.length) : l.Nodup ∧ ∀ x ∈ l, d x ≤ d i := by
  induction h with
  | root h => exact ⟨by simp, fun x hx => by simp at hx; rw [hx]; exact Nat.le_refl _⟩
  | @step i p l hp _ ih =>
    have hpl : p < T.length := by
      rcases hW.pa i hi with e | ⟨_, e⟩
      · omega
      · rw [hp] at e; simpa using e
    have hd : d p < d i := by
      have := hW.ac i hi (by omega)
      rw [hp] at this; simpa using this
    obtain ⟨h1, h2⟩ := ih hpl
    refine ⟨?_, fun x hx => ?_⟩
    · rw [List.nodup_append]
      refine ⟨h1, by simp, fun a ha b hb e => ?_⟩
      simp at hb
      have := h2 a ha
      rw [e, hb] at this
      omega
    · rcases List.mem_append.1 hx with hx | hx
      · have := h2 x hx; omega
      · simp at hx; rw [hx]; exact Nat.le_refl _
theorem Way.nodupT {T : List Nod} {d : Nat → Nat} (hW : WF T d) {i : Nat} {l : List Nat} (h : Go.Cas.Way T i l) (hi : i < T.length) : l.dropLast.Nodup := (Way.falls hW h hi).1.sublist (List.dropLast_sublist l)
end Go.Proofs.YtimlmekgapdkiaaDoor
