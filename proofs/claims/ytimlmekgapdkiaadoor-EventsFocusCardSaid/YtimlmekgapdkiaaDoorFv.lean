/- plainly: how great a tree's attributes can be -/
import Derived.Test.YtimlmekgapdkiaaDoorFo
import Derived.Test.YtimlmekgapdkiaaDoorTmw
namespace Go.Proofs.YtimlmekgapdkiaaDoor
set_option linter.unusedVariables false
set_option linter.unusedSimpArgs false
open Go.RowKit Go.Cas

def VB (T : List Nod) (N : Nat) : Prop := ∀ j, (ndA T j).at_.length ≤ N ∧ ∀ q ∈ (ndA T j).at_, q.2.size ≤ 20000
theorem VB.same {T T' : List Nod} {N : Nat} (h : VB T N) (he : ∀ j, (ndA T' j).at_ = (ndA T j).at_) : VB T' N := fun j => by rw [he j]; exact h j
theorem at_set {T : List Nod} {p : Nat} {y : Nod} (h : y.at_ = (ndA T p).at_) (j : Nat) : (ndA (T.set p y) j).at_ = (ndA T j).at_ := by
  by_cases hp : p < T.length
  · rw [ndA_set hp]
    split
    · rename_i e; rw [h, e]
    · rfl
  · rw [List.set_eq_of_length_le (by omega)]
theorem at_putE (T : List Nod) (p i : Nat) (ks : List Nat) (j : Nat) : (ndA (putE T p i ks) j).at_ = (ndA T j).at_ := by
  unfold putE
  rw [at_set (by rfl), at_set (by rfl)]
theorem at_cutE (T : List Nod) (i : Nat) (j : Nat) : (ndA (cutE T i) j).at_ = (ndA T j).at_ := by
  unfold cutE
  split
  · rw [at_set (by rw [at_set (by rfl)]), at_set (by rfl)]
  · rfl
theorem at_putG (T : List Nod) (p i n : Nat) (j : Nat) : (ndA (putG T p i n) j).at_ = (ndA T j).at_ := by
  unfold putG
  rw [at_putE, at_cutE]
theorem VB.mono {T : List Nod} {N M : Nat} (h : VB T N) (hm : N ≤ M) : VB T M := fun j => ⟨Nat.le_trans (h j).1 hm, (h j).2⟩
theorem VB.atW {T : List Nod} {N i : Nat} {q : ByteArray × ByteArray} (h : VB T N) : VB (atW isNm setA i T q) (N + 1) := by
  unfold Go.Cas.atW
  split
  · rename_i hc
    intro j
    by_cases hi : i < T.length
    · rw [ndA_set hi]
      split
      · refine ⟨?_, fun p hp => ?_⟩
        · show (setA (ndA T i).at_ q.1 q.2).length ≤ _
          have := (h i).1
          unfold setA
          split
          · simp; omega
          · simp; omega
        · have hp' : p ∈ setA (ndA T i).at_ q.1 q.2 := hp
          unfold setA at hp'
          split at hp'
          · rcases List.mem_append.1 hp' with h1 | h1
            · exact (h i).2 p h1
            · simp at h1; rw [h1]; exact hc.2.2
          · rcases List.mem_or_eq_of_mem_set hp' with h1 | h1
            · exact (h i).2 p h1
            · rw [h1]; exact hc.2.2
      · exact ⟨Nat.le_trans (h j).1 (by omega), (h j).2⟩
    · rw [List.set_eq_of_length_le (by omega)]
      exact ⟨Nat.le_trans (h j).1 (by omega), (h j).2⟩
  · exact h.mono (by omega)
theorem VB.atWs {i : Nat} : ∀ (l : List (ByteArray × ByteArray)) (T : List Nod) (N : Nat), VB T N → VB (l.foldl (Go.Cas.atW isNm setA i) T) (N + l.length) := by
  intro l
  induction l with
  | nil => intro T N h; exact h
  | cons q l ih =>
    intro T N h
    exact (ih _ (N + 1) h.atW).mono (by simp; omega)
theorem VB.kiWs {i N : Nat} : ∀ (l : List Int) (T : List Nod), VB T N → VB (l.foldl (kiW i) T) N := by
  intro l
  induction l with
  | nil => intro T h; exact h
  | cons k l ih =>
    intro T h
    refine ih _ ?_
    unfold kiW
    split
    · exact h.same (at_putG _ _ _ _)
    · exact h
theorem VB.twW {T : List Nod} {N i : Nat} {x : Twg} (h : VB T N) : VB (twW isNm setA T i x) (N + x.at_.length) := by
  unfold Go.Cas.twW
  refine VB.kiWs _ _ (VB.atWs _ _ _ fun j => ?_)
  rw [ndA_app]
  split
  · have e : (ndW isNm x).at_ = [] := by
      unfold ndW
      split
      · rfl
      · split <;> rfl
    rw [e]; exact ⟨by simp, fun q hq => by cases hq⟩
  · exact h j
theorem VB.twsW : ∀ (l : List Twg) (T : List Nod) (i N : Nat), (∀ x ∈ l, x.at_.length ≤ 8) → VB T N → VB (twsW isNm setA T i l) (N + 8 * l.length) := by
  intro l
  induction l with
  | nil => intro T i N _ h; exact h
  | cons x l ih =>
    intro T i N hl h
    unfold Go.Cas.twsW
    have h1 := hl x (by simp)
    exact (ih _ (i + 1) (N + 8) (fun y hy => hl y (by simp [hy])) (h.twW.mono (by omega))).mono (by simp; omega)
theorem VB.topsW {T : List Nod} {N n : Nat} (h : VB T N) : VB (topsW T n) N := by
  unfold Go.Cas.topsW
  generalize (List.range n).map (· + 1) = l
  induction l generalizing T with
  | nil => exact h
  | cons i l ih =>
    refine ih ?_
    unfold topW
    split
    · exact h.same (at_putG _ _ _ _)
    · exact h
theorem atv_mem : ∀ (l : List (ByteArray × ByteArray)) (s v : ByteArray), atv l s = some v → ∃ p ∈ l, p.2 = v := by
  intro l s v h
  obtain ⟨k, _, p, hp, e⟩ := atv_hit l s v h
  exact ⟨p, List.mem_of_getElem? hp, e⟩
theorem plainT_IxB {l : List Twg} (h : FewP l) : IxB (plainT l) := by
  have h0 : VB [root0] 0 := fun j => by
    have : ∀ j, (ndA [root0] j).at_ = [] := fun j => by
      cases j with
      | zero => rfl
      | succ j => rfl
    rw [this j]; exact ⟨by simp, fun q hq => by cases hq⟩
  have h1 : VB (plainT l) (0 + 8 * l.length) := (VB.twsW l [root0] 0 0 (fun x hx => (h.2 x hx).2.2.1) h0).topsW
  have h60 := h.1
  intro i x hx
  have e := ndA_eq hx
  have := h1 i
  rw [e] at this
  refine ⟨by omega, fun nm v hv => ?_⟩
  obtain ⟨p, hp, rfl⟩ := atv_mem _ _ _ hv
  exact this.2 p hp
end Go.Proofs.YtimlmekgapdkiaaDoor
