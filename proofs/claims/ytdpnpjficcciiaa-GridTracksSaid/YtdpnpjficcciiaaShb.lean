/- plain (no program): one step of sharing; that it comes to an end -/
import Derived.Test.YtdpnpjficcciiaaSha
namespace Go.Cas
set_option linter.unusedVariables false
set_option linter.unusedSimpArgs false
open Go.RowKit

def oA (st : List Bool) (n j : Nat) : Nat := (opn st n).getD j 0
theorem oA_mem {st : List Bool} {n j : Nat} (h : j < (opn st n).length) : oA st n j ∈ opn st n := by
  unfold oA; rw [List.getD_eq_getElem?_getD, List.getElem?_eq_getElem h]; exact List.getElem_mem h
theorem oA_lt {st : List Bool} {n j : Nat} (h : j < (opn st n).length) : oA st n j < n ∧ stA st (oA st n j) = false := opn_lt (oA_mem h)
theorem opn_get {st : List Bool} {n j : Nat} (h : j < (opn st n).length) : (opn st n)[j]? = some (oA st n j) := by
  unfold oA; rw [List.getD_eq_getElem?_getD, List.getElem?_eq_getElem h]; rfl
theorem opn_nodup (st : List Bool) (n : Nat) : (opn st n).Nodup := List.Pairwise.filter _ List.nodup_range
/-- one step's numbers -/
structure Stp where
  L : List FI
  gr : Bool
  n : Nat
  sz : List Int
  st : List Bool
  a : Int
namespace Stp
variable (P : Stp)
def m : Nat := (opn P.st P.n).length
def by_ : List Int := bys P.gr P.L P.st P.n
def d (j : Nat) : Int := shrD P.a P.by_ j
def nn (j : Nat) : Int := (itA P.L (oA P.st P.n j)).b + P.d j
def zz (j : Nat) : Int := bnd (itA P.L (oA P.st P.n j)) (P.nn j)
def mo (j : Nat) : Int := P.zz j - P.nn j
def szT : Nat → List Int
  | 0 => P.sz
  | j + 1 => (szT j).set (oA P.st P.n j) (P.zz j)
def gain : Int := sumTo P.mo P.m
end Stp
def nwB (gain m : Int) : Bool := decide (gain = 0 ∨ (0 < gain ∧ 0 < m) ∨ (gain < 0 ∧ m < 0))
namespace Stp
variable (P : Stp)
def stT : Nat → List Bool
  | 0 => P.st
  | j + 1 => (stT j).set (oA P.st P.n j) (nwB P.gain (P.mo j))
theorem by_len : P.by_.length = P.m := by simp [by_, m, bys]
theorem by_pos (hf : ∀ x ∈ P.L, FB x) : ∀ x ∈ P.by_, 0 ≤ x ∧ x ≤ 16777216000000000 := by
  intro x hx
  unfold by_ bys at hx
  obtain ⟨i, _, rfl⟩ := List.mem_map.1 hx
  exact wtI_bd (itA_fb hf i) P.gr
variable {P} in
theorem d_bd (hf : ∀ x ∈ P.L, FB x) {j : Nat} (hj : j < P.m) : -(max P.a (-P.a)) ≤ P.d j ∧ P.d j ≤ max P.a (-P.a) :=
  shrD_bd (fun x hx => (P.by_pos hf x hx).1) (by rw [P.by_len]; exact hj)
variable {P} in
theorem nn_bd (hf : ∀ x ∈ P.L, FB x) {j : Nat} (hj : j < P.m) : -(max P.a (-P.a)) ≤ P.nn j ∧ P.nn j ≤ 16777216 + max P.a (-P.a) := by
  have h1 := d_bd hf hj
  have h2 := (itA_fb hf (oA P.st P.n j)).b
  unfold nn; omega
variable {P} in
theorem zz_bd (hf : ∀ x ∈ P.L, FB x) {j : Nat} (hj : j < P.m) : 0 ≤ P.zz j ∧ P.zz j ≤ 16777216 + max P.a (-P.a) := by
  have h1 := nn_bd hf hj
  have h2 := bnd_bd (itA_fb hf (oA P.st P.n j)) (P.nn j)
  unfold zz; omega
variable {P} in
theorem mo_bd (hf : ∀ x ∈ P.L, FB x) {j : Nat} (hj : j < P.m) : -(33554432 + 2 * max P.a (-P.a)) ≤ P.mo j ∧ P.mo j ≤ 33554432 + 2 * max P.a (-P.a) := by
  have h1 := nn_bd hf hj
  have h2 := zz_bd hf hj
  unfold mo; omega
theorem szT_len (j : Nat) : (P.szT j).length = P.sz.length := by
  induction j with
  | zero => rfl
  | succ j ih => simp [szT, ih]
theorem stT_len (j : Nat) : (P.stT j).length = P.st.length := by
  induction j with
  | zero => rfl
  | succ j ih => simp [stT, ih]
/-- what a settled one holds stays; an open one that is past has its new size -/
theorem szT_keep {i : Nat} (h : stA P.st i = true) (j : Nat) (hj : j ≤ P.m) : szA (P.szT j) i = szA P.sz i := by
  induction j with
  | zero => rfl
  | succ j ih =>
    have hne : oA P.st P.n j ≠ i := fun e => by have := (oA_lt (st := P.st) (n := P.n) (j := j) (by unfold m at hj; omega)).2; rw [e, h] at this; cases this
    rw [← ih (by omega)]
    unfold szA
    simp only [szT, List.getD_eq_getElem?_getD, List.getElem?_set_ne hne]
theorem stT_keep {i : Nat} (h : stA P.st i = true) (j : Nat) (hj : j ≤ P.m) : stA (P.stT j) i = true := by
  induction j with
  | zero => exact h
  | succ j ih =>
    have hne : oA P.st P.n j ≠ i := fun e => by have := (oA_lt (st := P.st) (n := P.n) (j := j) (by unfold m at hj; omega)).2; rw [e, h] at this; cases this
    have h2 := ih (by omega)
    unfold stA at *
    simp only [stT, List.getD_eq_getElem?_getD, List.getElem?_set_ne hne] at *
    exact h2
theorem oA_inj {i j : Nat} (hi : i < P.m) (hj : j < P.m) (h : oA P.st P.n i = oA P.st P.n j) : i = j := by
  have h1 := opn_get (st := P.st) (n := P.n) hi
  have h2 := opn_get (st := P.st) (n := P.n) hj
  rw [h] at h1
  have hp := List.pairwise_iff_getElem.1 (opn_nodup P.st P.n)
  obtain ⟨a1, a2⟩ := List.getElem?_eq_some_iff.1 h1
  obtain ⟨b1, b2⟩ := List.getElem?_eq_some_iff.1 h2
  rcases Nat.lt_trichotomy i j with e | e | e
  · exact absurd (a2.trans b2.symm) (hp i j a1 b1 e)
  · exact e
  · exact absurd (b2.trans a2.symm) (hp j i b1 a1 e)
theorem szT_at (hl : P.sz.length = P.n) {q : Nat} (hq : q < P.m) (j : Nat) (hj : j ≤ P.m) (hqj : q < j) : szA (P.szT j) (oA P.st P.n q) = P.zz q := by
  induction j with
  | zero => omega
  | succ j ih =>
    have hlt := (oA_lt (st := P.st) (n := P.n) (j := j) (by unfold m at hj; omega)).1
    by_cases e : q = j
    · subst e
      unfold szA
      simp only [szT, List.getD_eq_getElem?_getD]
      rw [List.getElem?_set_self (by rw [szT_len, hl]; exact hlt)]
      rfl
    · have hne : oA P.st P.n j ≠ oA P.st P.n q := fun h => e (P.oA_inj (by omega) (by omega) h.symm)
      rw [← ih (by omega) (by omega)]
      unfold szA
      simp only [szT, List.getD_eq_getElem?_getD, List.getElem?_set_ne hne]
theorem stT_at (hl : P.st.length = P.n) {q : Nat} (hq : q < P.m) (j : Nat) (hj : j ≤ P.m) (hqj : q < j) : stA (P.stT j) (oA P.st P.n q) = nwB P.gain (P.mo q) := by
  induction j with
  | zero => omega
  | succ j ih =>
    have hlt := (oA_lt (st := P.st) (n := P.n) (j := j) (by unfold m at hj; omega)).1
    by_cases e : q = j
    · subst e
      unfold stA
      simp only [stT, List.getD_eq_getElem?_getD]
      rw [List.getElem?_set_self (by rw [stT_len, hl]; exact hlt)]
      rfl
    · have hne : oA P.st P.n j ≠ oA P.st P.n q := fun h => e (P.oA_inj (by omega) (by omega) h.symm)
      rw [← ih (by omega) (by omega)]
      unfold stA
      simp only [stT, List.getD_eq_getElem?_getD, List.getElem?_set_ne hne]
end Stp
theorem opn_mem {st : List Bool} {n i : Nat} (h : i < n) (hs : stA st i = false) : ∃ q, q < (opn st n).length ∧ oA st n q = i := by
  have hm : i ∈ opn st n := by unfold opn; rw [List.mem_filter]; simp [h, hs]
  obtain ⟨q, hq⟩ := List.getElem?_of_mem hm
  have hl := (List.getElem?_eq_some_iff.1 hq).1
  refine ⟨q, hl, ?_⟩
  have h2 := opn_get (st := st) (n := n) hl
  rw [hq] at h2
  injection h2 with h2
  exact h2.symm
/-- what is settled lies within bounds, or all is settled -/
def Good (n : Nat) (sz : List Int) (st : List Bool) : Prop := (∀ i, i < n → stA st i = true) ∨ ∀ i, i < n → stA st i = true → 0 ≤ szA sz i ∧ szA sz i ≤ 16777216
theorem Good.val {n : Nat} {L : List FI} {sz : List Int} {st : List Bool} (g : Good n sz st) (hf : ∀ x ∈ L, FB x) (ho : opn st n ≠ []) : ∀ i, i < n → 0 ≤ valI L sz st i ∧ valI L sz st i ≤ 16777216 := by
  intro i hi
  rcases g with g | g
  · exfalso
    obtain ⟨q, hq⟩ := List.exists_mem_of_ne_nil _ ho
    have := opn_lt hq
    rw [g q this.1] at this
    cases this.2
  · unfold valI
    split
    · rename_i h; exact g i hi h
    · exact (itA_fb hf i).b
theorem sumTo_pos {f : Nat → Int} {n : Nat} (h : 0 < sumTo f n) : ∃ i, i < n ∧ 0 < f i := by
  induction n with
  | zero => simp [sumTo] at h
  | succ n ih =>
    by_cases h2 : 0 < f n
    · exact ⟨n, by omega, h2⟩
    · simp only [sumTo] at h
      obtain ⟨i, hi, h3⟩ := ih (by omega)
      exact ⟨i, by omega, h3⟩
theorem sumTo_neg {f : Nat → Int} {n : Nat} (h : sumTo f n < 0) : ∃ i, i < n ∧ f i < 0 := by
  induction n with
  | zero => simp [sumTo] at h
  | succ n ih =>
    by_cases h2 : f n < 0
    · exact ⟨n, by omega, h2⟩
    · simp only [sumTo] at h
      obtain ⟨i, hi, h3⟩ := ih (by omega)
      exact ⟨i, by omega, h3⟩
namespace Stp
variable {P : Stp}
/-- one at least is settled -/
theorem some_ (hm : 0 < P.m) : ∃ q, q < P.m ∧ nwB P.gain (P.mo q) = true := by
  rcases Int.lt_trichotomy P.gain 0 with h | h | h
  · obtain ⟨q, h1, h2⟩ := sumTo_neg h
    exact ⟨q, h1, by unfold nwB; exact decide_eq_true (.inr (.inr ⟨h, h2⟩))⟩
  · exact ⟨0, hm, by unfold nwB; exact decide_eq_true (.inl h)⟩
  · obtain ⟨q, h1, h2⟩ := sumTo_pos h
    exact ⟨q, h1, by unfold nwB; exact decide_eq_true (.inr (.inl ⟨h, h2⟩))⟩
theorem stT_true (hl : P.st.length = P.n) {i : Nat} (hi : i < P.n) (h : stA (P.stT P.m) i = true) : stA P.st i = true ∨ ∃ q, q < P.m ∧ oA P.st P.n q = i ∧ nwB P.gain (P.mo q) = true := by
  rcases hs : stA P.st i
  · obtain ⟨q, hq, rfl⟩ := opn_mem hi hs
    exact .inr ⟨q, hq, rfl, by rw [← P.stT_at hl hq P.m (Nat.le_refl _) hq]; exact h⟩
  · exact .inl rfl
theorem good (hf : ∀ x ∈ P.L, FB x) (hz : P.sz.length = P.n) (hl : P.st.length = P.n) (g : Good P.n P.sz P.st) (hm : 0 < P.m) : Good P.n (P.szT P.m) (P.stT P.m) := by
  have ho : opn P.st P.n ≠ [] := fun e => by unfold m at hm; rw [e] at hm; simp at hm
  by_cases hg0 : P.gain = 0
  · left
    intro i hi
    rcases hs : stA P.st i
    · obtain ⟨q, hq, rfl⟩ := opn_mem hi hs
      rw [P.stT_at hl hq P.m (Nat.le_refl _) hq]
      unfold nwB; exact decide_eq_true (.inl hg0)
    · exact P.stT_keep hs P.m (Nat.le_refl _)
  · right
    intro i hi h
    rcases stT_true hl hi h with hs | ⟨q, hq, rfl, hn⟩
    · rw [P.szT_keep hs P.m (Nat.le_refl _)]
      rcases g with g | g
      · exfalso
        obtain ⟨q, hq⟩ := List.exists_mem_of_ne_nil _ ho
        have := opn_lt hq
        rw [g q this.1] at this
        cases this.2
      · exact g i hi hs
    · rw [P.szT_at hz hq P.m (Nat.le_refl _) hq]
      have hfb := itA_fb hf (oA P.st P.n q)
      have h1 := bnd_bd hfb (P.nn q)
      unfold nwB at hn
      have hn := of_decide_eq_true hn
      unfold mo zz at hn
      unfold zz
      refine ⟨h1.1, ?_⟩
      rcases hn with hn | ⟨_, hn⟩ | ⟨_, hn⟩
      · exact absurd hn hg0
      · exact bnd_up hfb (by omega)
      · exact bnd_down hfb (by omega)
end Stp
/-- how many are open -/
def opc (st : List Bool) (n : Nat) : Nat := (opn st n).length
theorem opc_le {st st' : List Bool} {n : Nat} (h : ∀ i, i < n → stA st i = true → stA st' i = true) : opc st' n ≤ opc st n := by
  unfold opc
  induction n with
  | zero => simp [opn]
  | succ n ih =>
    have h1 := ih (fun i hi => h i (by omega))
    rw [opn_succ, opn_succ]
    cases hs : stA st n
    · cases hs' : stA st' n <;> simp <;> omega
    · rw [h n (by omega) hs]; simpa using h1
theorem opc_lt {st st' : List Bool} {n : Nat} (h : ∀ i, i < n → stA st i = true → stA st' i = true) {q : Nat} (hq : q < n) (h1 : stA st q = false) (h2 : stA st' q = true) : opc st' n < opc st n := by
  unfold opc
  induction n with
  | zero => omega
  | succ n ih =>
    have hle := opc_le (n := n) (fun i hi => h i (by omega))
    unfold opc at hle
    rw [opn_succ, opn_succ]
    by_cases e : q = n
    · subst e
      rw [h1, h2]
      simp; omega
    · have h3 := ih (fun i hi => h i (by omega)) (by omega)
      cases hs : stA st n
      · cases hs' : stA st' n <;> simp <;> omega
      · rw [h n (by omega) hs]; simpa using h3
theorem Stp.less {P : Stp} (hl : P.st.length = P.n) (hm : 0 < P.m) : opc (P.stT P.m) P.n < opc P.st P.n := by
  obtain ⟨q, hq, hn⟩ := P.some_ hm
  have h1 := oA_lt (st := P.st) (n := P.n) (j := q) hq
  exact opc_lt (fun i _ hi => P.stT_keep hi P.m (Nat.le_refl _)) h1.1 h1.2 (by rw [P.stT_at hl hq P.m (Nat.le_refl _) hq]; exact hn)
end Go.Cas
