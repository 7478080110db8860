/- the document's tree: plain facts of Put -/
import Derived.Test.YtimlmekgapdkiaaDoorUn
namespace Go.Proofs.YtimlmekgapdkiaaDoor
set_option linter.unusedVariables false
set_option linter.unusedSimpArgs false
open Go.RowKit Go.Cas

theorem nd_ext {T T' : List Nod} (hl : T.length = T'.length) (h : ∀ k, k < T.length → ndA T k = ndA T' k) : T = T' := by
  refine List.ext_getElem hl fun k h1 h2 => ?_
  have := h k h1
  unfold ndA at this
  rw [List.getD_eq_getElem?_getD, List.getD_eq_getElem?_getD, List.getElem?_eq_getElem h1, List.getElem?_eq_getElem h2] at this
  exact this
theorem wo_self {l : List Nat} {x : Nat} (h : x ∉ l) : wo l x = l := by
  unfold wo
  rw [List.filter_eq_self]
  intro a ha
  exact decide_eq_true (fun e => h (e ▸ ha))
theorem wo_erase {l : List Nat} {x : Nat} (h : l.Nodup) : wo l x = l.erase x := by
  rw [h.erase_eq_filter]
  unfold wo
  congr 1
  funext k
  by_cases e : k = x <;> simp [e]
theorem wo_le (l : List Nat) (x : Nat) : (wo l x).length ≤ l.length := List.length_filter_le _ _
/-- the kids of a node, of which another one was cut -/
theorem cut_ki {T : List Nod} {d : Nat → Nat} (h : WF T d) {i p : Nat} (hi : i < T.length) (hp : p < T.length) (hne : p ≠ i) : (ndA (cutE T i) p).ki = wo (ndA T p).ki i := by
  by_cases h0 : 0 ≤ (ndA T i).pa
  · obtain ⟨q, hq⟩ := Int.eq_ofNat_of_zero_le h0
    rw [cutE_nd h hi hq, if_neg hne]
    by_cases e : p = q
    · subst e
      rw [if_pos rfl]
      exact (wo_erase (h.nd p hp)).symm
    · rw [if_neg e]
      refine (wo_self fun hm => ?_).symm
      have := (h.ki p hp i hm).2
      omega
  · rw [cutE_none (by omega)]
    refine (wo_self fun hm => ?_).symm
    have := (h.ki p hp i hm).2
    omega
def kiN (x : Nod) (l : List Nat) : Nod := { x with ki := l }
def paN (x : Nod) (p : Int) : Nod := { x with pa := p }
theorem rput_free {T : List Nod} {p i n : Nat} (h : (ndA T i).pa < 0) (hno : i ∉ (ndA T p).ki) : (T.set p (kiN (ndA T p) (insA (wo (ndA T p).ki i) n i))).set i (paN (ndA (T.set p (kiN (ndA T p) (insA (wo (ndA T p).ki i) n i))) i) p) = putG T p i n := by
  rw [putG_none h, wo_self hno]; rfl
theorem rput_held {T : List Nod} {d : Nat → Nat} (h : WF T d) {p i q n : Nat} (hi : i < T.length) (hp : p < T.length) (hne : p ≠ i) (hq : (ndA T i).pa = (q : Int)) :
    ((T.set q (kiN (ndA T q) (wo (ndA T q).ki i))).set p (kiN (ndA (T.set q (kiN (ndA T q) (wo (ndA T q).ki i))) p) (insA (wo (ndA T p).ki i) n i))).set i
      (paN (ndA ((T.set q (kiN (ndA T q) (wo (ndA T q).ki i))).set p (kiN (ndA (T.set q (kiN (ndA T q) (wo (ndA T q).ki i))) p) (insA (wo (ndA T p).ki i) n i))) i) p) = putG T p i n := by
  have hql : q < T.length := by rcases h.pa i hi with e | ⟨_, e⟩ <;> omega
  have hac := h.ac i hi (by omega)
  rw [hq] at hac
  have ep : ((q : Int)).toNat = q := rfl
  rw [ep] at hac
  have hqi : q ≠ i := fun e => by subst e; omega
  obtain ⟨T1, hT1⟩ : ∃ T1, T1 = T.set q (kiN (ndA T q) (wo (ndA T q).ki i)) := ⟨_, rfl⟩
  rw [← hT1]
  obtain ⟨T2, hT2⟩ : ∃ T2, T2 = T1.set p (kiN (ndA T1 p) (insA (wo (ndA T p).ki i) n i)) := ⟨_, rfl⟩
  rw [← hT2]
  have e1 : T1.length = T.length := by rw [hT1]; simp
  have e2 : T2.length = T.length := by rw [hT2]; simp [e1]
  have l1 : ∀ k, ndA T1 k = if k = q then kiN (ndA T q) (wo (ndA T q).ki i) else ndA T k := fun k => by rw [hT1]; exact ndA_set hql k
  have l2 : ∀ k, ndA T2 k = if k = p then kiN (ndA T1 p) (insA (wo (ndA T p).ki i) n i) else ndA T1 k := fun k => by rw [hT2]; exact ndA_set (by omega) k
  have l3 : ∀ k, ndA (T2.set i (paN (ndA T2 i) p)) k = if k = i then paN (ndA T2 i) p else ndA T2 k := fun k => ndA_set (by omega) k
  have c := cutE_nd h hi hq
  have ck := cut_ki h hi hp hne
  have r : ∀ k, ndA (putG T p i n) k = if k = i then paN (ndA (cutE T i) i) p else if k = p then kiN (ndA (cutE T i) p) (insA (ndA (cutE T i) p).ki n i) else ndA (cutE T i) k := fun k => putE_nd (by rw [cutE_len]; exact hp) (by rw [cutE_len]; exact hi) hne k
  refine nd_ext (by rw [putG_len]; simp [e2]) fun k hk => ?_
  rw [l3, r]
  by_cases h1 : k = i
  · rw [if_pos h1, if_pos h1, l2, if_neg (Ne.symm hne), l1, if_neg (Ne.symm hqi), c, if_pos rfl]; rfl
  · rw [if_neg h1, if_neg h1, l2, ck]
    by_cases h2 : k = p
    · rw [if_pos h2, if_pos h2, l1, c, if_neg hne]
      by_cases h3 : p = q
      · rw [if_pos h3, if_pos h3, h3]; rfl
      · rw [if_neg h3, if_neg h3]
    · rw [if_neg h2, if_neg h2, l1, c, if_neg h1]
      by_cases h3 : k = q
      · rw [if_pos h3, if_pos h3]
        unfold kiN
        rw [wo_erase (h.nd q hql)]
      · rw [if_neg h3, if_neg h3]
end Go.Proofs.YtimlmekgapdkiaaDoor
