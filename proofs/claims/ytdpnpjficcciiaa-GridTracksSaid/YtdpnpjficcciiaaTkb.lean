/- plain: what filling does to the numbers -/
import Derived.Test.YtdpnpjficcciiaaTka
namespace Go.Cas
set_option linter.unusedVariables false
set_option linter.unusedSimpArgs false
open Go.RowKit Go.Proofs.Ytdpnpjficcciiaa
theorem any3_mono {l : List Tr} {p k m : Nat} (h : k ≤ m) (h3 : any3 l p k = true) : any3 l p m = true := by
  induction m with
  | zero => obtain rfl : k = 0 := by omega
            exact h3
  | succ m ih =>
    rcases Nat.lt_or_ge m k with h1 | h1
    · obtain rfl : k = m + 1 := by omega
      exact h3
    · simp only [any3, ih h1, Bool.true_or]
theorem any3_hit {l : List Tr} {p k m : Nat} (h : k < m) (h3 : (trA l (p + k)).k = 3) : any3 l p m = true :=
  any3_mono (show k + 1 ≤ m by omega) (by simp [any3, h3])
theorem any3_step {l : List Tr} {p k : Nat} (h : any3 l p k = false) (h3 : ¬ (trA l (p + k)).k = 3) : any3 l p (k + 1) = false := by simp [any3, h, h3]
theorem prt_bd {miss : Int} {m k : Nat} (h0 : 0 ≤ miss) (hk : k < m) : 0 ≤ prt miss m k ∧ prt miss m k ≤ miss := by
  have a0 := Int.mul_nonneg h0 (show (0 : Int) ≤ (k : Int) by omega)
  have a1 := Int.mul_nonneg h0 (show (0 : Int) ≤ (k : Int) + 1 by omega)
  have e : miss * ((k : Int) + 1) = miss * k + miss := by rw [Int.mul_add, Int.mul_one]
  unfold prt
  rw [Int.tdiv_eq_ediv_of_nonneg a1, Int.tdiv_eq_ediv_of_nonneg a0, e]
  have hm : (0 : Int) < (m : Int) := by omega
  have h1 : miss * (k : Int) / m ≤ (miss * k + miss) / m := Int.ediv_le_ediv hm (by omega)
  have h2 : (miss * (k : Int) + miss) / m ≤ (miss * k + miss * m) / m := Int.ediv_le_ediv hm (by
    have : miss * 1 ≤ miss * (m : Int) := Int.mul_le_mul_of_nonneg_left (by omega) h0
    omega)
  rw [Int.add_mul_ediv_right _ _ (by omega)] at h2
  omega
theorem opT_nodup (l : List Tr) (p k : Nat) : (opT l p k).Nodup := by
  unfold opT
  refine List.Pairwise.filter _ ?_
  rw [List.pairwise_map]
  exact List.Pairwise.imp (fun h e => h (by omega)) List.nodup_range
theorem addT_at (l : List Tr) (out : List Int) (p sp : Nat) (miss : Int) : ∀ k, k ≤ (opT l p sp).length → ∀ i, (∀ j, j < k → (opT l p sp).getD j 0 ≠ i) → szA (addT l out p sp miss k) i = szA out i := by
  intro k
  induction k with
  | zero => intro _ i _; rfl
  | succ k ih =>
    intro hk i hi
    have h1 := hi k (by omega)
    unfold addT
    unfold szA
    rw [List.getD_eq_getElem?_getD, List.getElem?_set_ne h1, ← List.getD_eq_getElem?_getD]
    exact ih (by omega) i (fun j hj => hi j (by omega))
theorem opT_get {l : List Tr} {p sp k : Nat} (h : k < (opT l p sp).length) : (opT l p sp)[k]? = some ((opT l p sp).getD k 0) ∧ (opT l p sp).getD k 0 ∈ opT l p sp := by
  have e : (opT l p sp)[k]? = some ((opT l p sp).getD k 0) := by rw [List.getElem?_eq_getElem h, List.getD_eq_getElem?_getD, List.getElem?_eq_getElem h]; rfl
  exact ⟨e, List.mem_of_getElem? e⟩
theorem opT_inj {l : List Tr} {p sp i j : Nat} (hi : i < (opT l p sp).length) (hj : j < (opT l p sp).length) (h : (opT l p sp).getD i 0 = (opT l p sp).getD j 0) : i = j := by
  have h1 := (opT_get hi).1
  have h2 := (opT_get hj).1
  rw [h] at h1
  have hp := List.pairwise_iff_getElem.1 (opT_nodup l p sp)
  obtain ⟨a1, a2⟩ := List.getElem?_eq_some_iff.1 h1
  obtain ⟨b1, b2⟩ := List.getElem?_eq_some_iff.1 h2
  rcases Nat.lt_trichotomy i j with e | e | e
  · exact absurd (a2.trans b2.symm) (hp i j a1 b1 e)
  · exact e
  · exact absurd (b2.trans a2.symm) (hp j i b1 a1 e)
/-- what the next one holds still is what it held -/
theorem addT_next {l : List Tr} {out : List Int} {p sp : Nat} {miss : Int} {k : Nat} (hk : k < (opT l p sp).length) : szA (addT l out p sp miss k) ((opT l p sp).getD k 0) = szA out ((opT l p sp).getD k 0) :=
  addT_at l out p sp miss k (by omega) _ (fun j hj e => by have := opT_inj (by omega) hk e; omega)
theorem addT_succ {l : List Tr} {out : List Int} {p sp : Nat} {miss : Int} {k : Nat} (hk : k < (opT l p sp).length) : addT l out p sp miss (k + 1) = (addT l out p sp miss k).set ((opT l p sp).getD k 0) (szA out ((opT l p sp).getD k 0) + prt miss (opT l p sp).length k) := by
  show (addT l out p sp miss k).set _ _ = _
  rw [addT_next hk]
theorem set_szA {l : List Int} {i : Nat} {u : Int} (h : i < l.length) (j : Nat) : szA (l.set i u) j = if j = i then u else szA l j := by
  unfold szA
  rw [List.getD_eq_getElem?_getD]
  by_cases e : j = i
  · subst e
    rw [List.getElem?_set_self h, if_pos rfl]; rfl
  · rw [List.getElem?_set_ne (Ne.symm e), if_neg e, ← List.getD_eq_getElem?_getD]
theorem sumO_ge {out : List Int} {p sp : Nat} (h0 : ∀ i, i < p + sp → 0 ≤ szA out i) {i : Nat} (h1 : p ≤ i) (h2 : i < p + sp) : szA out i ≤ sumO out p sp := by
  unfold sumO
  have m1 := sumTo_mono (f := fun i => szA out (p + i)) (n := sp) (fun j hj => h0 (p + j) (by omega)) 0 (i - p) (by omega) (by omega)
  have m2 := sumTo_mono (f := fun i => szA out (p + i)) (n := sp) (fun j hj => h0 (p + j) (by omega)) (i - p + 1) sp (by omega) (Nat.le_refl _)
  have e : sumTo (fun i => szA out (p + i)) (i - p + 1) = sumTo (fun i => szA out (p + i)) (i - p) + szA out i := by
    show _ + szA out (p + (i - p)) = _
    rw [show p + (i - p) = i by omega]
  simp only [sumTo] at m1
  omega
theorem sumO_bd {out : List Int} {p sp : Nat} {hi : Int} (h0 : ∀ i, i < p + sp → 0 ≤ szA out i ∧ szA out i ≤ hi) (k : Nat) (hk : k ≤ sp) : 0 ≤ sumO out p k ∧ sumO out p k ≤ hi * k := by
  have := sumTo_bd (f := fun i => szA out (p + i)) (lo := 0) (hi := hi) (n := sp) (fun j hj => h0 (p + j) (by omega)) k hk
  unfold sumO
  omega
/-- bounds of what tracks have -/
def OB (out : List Int) : Prop := ∀ i, i < out.length → 0 ≤ szA out i ∧ szA out i ≤ 167772160000
theorem addT_bd {l : List Tr} {out : List Int} {p sp : Nat} {miss hi : Int} (hm : 0 ≤ miss) (hp : p + sp ≤ out.length) (ho : ∀ i, i < out.length → 0 ≤ szA out i ∧ szA out i ≤ hi) (hh : ∀ i, p ≤ i → i < p + sp → szA out i + miss ≤ hi) : ∀ k, k ≤ (opT l p sp).length → ∀ i, i < out.length → 0 ≤ szA (addT l out p sp miss k) i ∧ szA (addT l out p sp miss k) i ≤ hi := by
  intro k
  induction k with
  | zero => intro _ i hi; exact ho i hi
  | succ k ih =>
    intro hk i hil
    obtain ⟨g1, g2⟩ := opT_get (l := l) (p := p) (sp := sp) (k := k) (by omega)
    have g3 := opT_mem g2
    rw [addT_succ (by omega), set_szA (by rw [addT_len]; omega)]
    split
    · have h1 := ho ((opT l p sp).getD k 0) (by omega)
      have h2 := prt_bd (miss := miss) (m := (opT l p sp).length) (k := k) hm (by omega)
      have h3 := hh ((opT l p sp).getD k 0) g3.1 g3.2.1
      omega
    · exact ih (by omega) i hil
/-- what is missing, within bounds -/
def missT (gap : Int) (out : List Int) (x : Nd) (k : Nat) : Int := x.sz - gap * (x.sp - 1) - sumO out (x.fr - 1).toNat k
structure NB (x : Nd) (m : Nat) : Prop where
  fr : 1 ≤ x.fr ∧ x.fr ≤ 200
  sp : 1 ≤ x.sp ∧ x.sp ≤ 20
  sz : -16777216 ≤ x.sz ∧ x.sz ≤ 16777216
  fit : (x.fr - 1).toNat + x.sp.toNat ≤ m
theorem gap_sp {gap : Int} (hg : -16777216 ≤ gap ∧ gap ≤ 16777216) {s : Int} (hs : 0 ≤ s ∧ s ≤ 19) : -318767104 ≤ gap * s ∧ gap * s ≤ 318767104 := by
  have a := Int.mul_le_mul_of_nonneg_right hg.1 hs.1
  have b := Int.mul_le_mul_of_nonneg_right hg.2 hs.1
  omega
theorem missT_bd {gap : Int} (hg : -16777216 ≤ gap ∧ gap ≤ 16777216) {out : List Int} (ho : OB out) {x : Nd} (hx : NB x out.length) {k : Nat} (hk : k ≤ x.sp.toNat) : -4000000000000 ≤ missT gap out x k ∧ missT gap out x k ≤ 335544320 := by
  have h1 := gap_sp hg (s := x.sp - 1) (by have := hx.sp; omega)
  have h2 := sumO_bd (p := (x.fr - 1).toNat) (sp := x.sp.toNat) (hi := 167772160000) (out := out) (fun i hi => ho i (by have := hx.fit; omega)) k hk
  have h3 := hx.sz; have h4 := hx.sp
  have : (k : Int) ≤ 20 := by omega
  unfold missT
  omega
theorem fillT_bd {l : List Tr} {gap : Int} (hg : -16777216 ≤ gap ∧ gap ≤ 16777216) {out : List Int} (ho : OB out) {x : Nd} (hx : NB x out.length) : OB (fillT l gap out x) := by
  unfold fillT
  split
  · exact ho
  · split
    · exact ho
    · rename_i h1 h2
      intro i hi
      rw [addT_len] at hi
      have hf := hx.fit
      refine addT_bd (hi := 167772160000) (by omega) hf ho (fun j j1 j2 => ?_) _ (Nat.le_refl _) i hi
      have h3 := sumO_ge (out := out) (p := (x.fr - 1).toNat) (sp := x.sp.toNat) (fun i hi => (ho i (by omega)).1) j1 j2
      have h4 := gap_sp hg (s := x.sp - 1) (by have := hx.sp; omega)
      have h5 := hx.sz
      omega
theorem mul_bd2 {miss : Int} {k : Nat} (h0 : 0 ≤ miss ∧ miss ≤ 335544320) (hk : k ≤ 20) : 0 ≤ miss * (k : Int) ∧ miss * (k : Int) ≤ 6710886400 := by
  have a := Int.mul_nonneg h0.1 (show (0 : Int) ≤ (k : Int) by omega)
  have b := Int.mul_le_mul h0.2 (show (k : Int) ≤ 20 by omega) (by omega) (by omega : (0 : Int) ≤ 335544320)
  omega
end Go.Cas
