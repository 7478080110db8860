/- FlexSums: the plain law: what is shared is shared to the last part -/
import Derived.Test.YtdpnpjficcciiaaCf
namespace Go.Proofs.Ytdpnpjficcciiaa
set_option linter.unusedVariables false
set_option linter.unusedSimpArgs false
open Go.RowKit Go.Cas

theorem sumTo_add (f g : Nat → Int) (n : Nat) : sumTo (fun i => f i + g i) n = sumTo f n + sumTo g n := by
  induction n with
  | zero => rfl
  | succ n ih => simp only [sumTo]; rw [ih]; omega
theorem sumTo_zero {f : Nat → Int} {n : Nat} (h : ∀ i, i < n → f i = 0) : sumTo f n = 0 := by
  induction n with
  | zero => rfl
  | succ n ih => simp only [sumTo]; rw [ih (fun i hi => h i (by omega)), h n (by omega)]; rfl
theorem tele (a W : Int) (l : List Int) (k : Nat) : sumTo (fun j => a * preF l (j + 1) / W - a * preF l j / W) k = a * preF l k / W := by
  induction k with
  | zero => simp [sumTo, preF]
  | succ k ih => simp only [sumTo]; rw [ih]; omega
theorem opn_all {st : List Bool} {n : Nat} (h : ∀ i, i < n → stA st i = false) : opn st n = List.range n := by
  unfold opn
  rw [List.filter_eq_self]
  intro i hi
  rw [h i (by simpa using hi)]; rfl
theorem opn_none {st : List Bool} {n : Nat} (h : ∀ i, i < n → stA st i = true) : opn st n = [] := by
  unfold opn
  rw [List.filter_eq_nil_iff]
  intro i hi
  rw [h i (by simpa using hi)]; simp
theorem floor_mono {a p q W : Int} (ha : 0 ≤ a) (h : p ≤ q) (hW : 0 < W) : a * p / W ≤ a * q / W := Int.ediv_le_ediv hW (Int.mul_le_mul_of_nonneg_left h ha)
/-- items that may be as wide as they like, with factors of one and more -/
structure Wide (x : FI) : Prop where
  fb : FB x
  mn : x.mn = 0
  mx : x.mx = -1
  g : 1000 ≤ x.g
theorem sums {L : List FI} {n : Nat} (hl : L.length = n) (hL : ∀ x ∈ L, Wide x) (hn : 0 < n) {room start : Int} (hs : start = freeF L (iniZ true L n n) (iniT true L n n) room n) (hpos : 0 ≤ start) {r : List Int} (hrun : ShRun L true n room start (iniZ true L n n) (iniT true L n n) r) :
    (∀ i, i < n → (itA L i).b ≤ szA r i) ∧ sumTo (szA r) n = sumTo (fun i => (itA L i).b) n + start := by
  have hw : ∀ i, i < n → Wide (itA L i) := fun i hi => by
    rw [itA_eq (List.getElem?_eq_getElem (by omega))]; exact hL _ (List.getElem_mem (by omega))
  have hf : ∀ x ∈ L, FB x := fun x hx => (hL x hx).fb
  have hbnd : ∀ i, i < n → ∀ m, 0 ≤ m → bnd (itA L i) m = m := fun i hi m hm => by
    have h := hw i hi
    unfold bnd
    rw [if_neg (by have := h.mx; omega), h.mn]; omega
  have hst : ∀ i, i < n → stA (iniT true L n n) i = false := fun i hi => by
    have h := hw i hi
    have e : (iniT true L n n)[i]? = some false := by
      rw [List.getElem?_eq_getElem (by rw [iniT_len]; exact hi)]
      have hb : iniB true (itA L i) = false := by
        unfold iniB
        refine decide_eq_false (fun hh => ?_)
        rw [hbnd i hi _ h.fb.b.1] at hh
        rcases hh with hh | hh | hh
        · have := h.g; unfold fcI at hh; simp at hh; omega
        · omega
        · cases hh.1
      simp [iniT, hb]
    exact stA_eq e
  have hopn := opn_all hst
  cases hrun with
  | done ho => rw [hopn] at ho; simp at ho; omega
  | step ho hnext =>
    generalize hP : (⟨L, true, n, iniZ true L n n, iniT true L n n, aF start (freeF L (iniZ true L n n) (iniT true L n n) room n) (facs true L (iniT true L n n) n)⟩ : Stp) = P at hnext
    have hPL : P.L = L := by rw [← hP]
    have hPn : P.n = n := by rw [← hP]
    have hPst : P.st = iniT true L n n := by rw [← hP]
    have hPsz : P.sz = iniZ true L n n := by rw [← hP]
    have hPgr : P.gr = true := by rw [← hP]
    have hm : P.m = n := by unfold Stp.m; rw [hPst, hPn, hopn]; simp
    have hoA : ∀ j, j < n → oA P.st P.n j = j := fun j hj => by unfold oA; rw [hPst, hPn, hopn]; simp [List.getD_eq_getElem?_getD, hj]
    have hby : P.by_ = (List.range n).map fun i => (itA L i).g := by
      unfold Stp.by_ bys
      rw [hPst, hPn, hopn, hPL, hPgr]; rfl
    have hlen : P.by_.length = n := by rw [P.by_len, hm]
    have hszb : ∀ j, j < n → szA P.by_ j = (itA L j).g := fun j hj => szA_eq (by rw [hby, List.getElem?_map, List.getElem?_range hj]; rfl)
    have hWpos : 0 < preF P.by_ n := by
      unfold preF
      have h1 : sumTo (szA P.by_) 1 ≤ sumTo (szA P.by_) n := sumTo_mono (n := n) (fun i hi => by rw [hszb i hi]; have := (hw i hi).g; omega) 1 n (by omega) (Nat.le_refl _)
      have h2 : sumTo (szA P.by_) 1 = (itA L 0).g := by simp [sumTo, hszb 0 hn]
      have := (hw 0 hn).g
      omega
    have hpm : ∀ j, j < n → preF P.by_ j ≤ preF P.by_ (j + 1) := fun j hj => by
      unfold preF; simp only [sumTo]; rw [hszb j hj]; have := (hw j hj).g; omega
    have hfc : ¬ facs true L (iniT true L n n) n < 1000 := by
      unfold facs
      have h1 := sumTo_mono (f := fun i => if stA (iniT true L n n) i = true then 0 else fcI true (itA L i)) (n := n) (fun i hi => by have := (fcI_bd (itA_fb hf i) true).1; split <;> omega) 1 n (by omega) (Nat.le_refl _)
      have h2 : sumTo (fun i => if stA (iniT true L n n) i = true then 0 else fcI true (itA L i)) 1 = (itA L 0).g := by simp [sumTo, hst 0 hn, fcI]
      have := (hw 0 hn).g
      omega
    have hPa : P.a = start := by
      rw [← hP]
      show aF _ _ _ = _
      unfold aF
      rw [if_neg (fun h => hfc h.1), hs]
    have hd : ∀ j, P.d j = start * preF P.by_ (j + 1) / preF P.by_ n - start * preF P.by_ j / preF P.by_ n := fun j => by
      unfold Stp.d shrD
      rw [hlen, if_neg (by omega), hPa]
    have hd0 : ∀ j, j < n → 0 ≤ P.d j := fun j hj => by
      rw [hd]
      have := floor_mono hpos (hpm j hj) hWpos
      omega
    have hnn : ∀ j, j < n → P.nn j = (itA L j).b + P.d j := fun j hj => by unfold Stp.nn; rw [hoA j hj, hPL]
    have hzz : ∀ j, j < n → P.zz j = (itA L j).b + P.d j := fun j hj => by
      unfold Stp.zz
      rw [hoA j hj, hPL, hnn j hj]
      exact hbnd j hj _ (by have := (hw j hj).fb.b; have := hd0 j hj; omega)
    have hmo : ∀ j, j < n → P.mo j = 0 := fun j hj => by unfold Stp.mo; rw [hzz j hj, hnn j hj]; omega
    have hgain : P.gain = 0 := by unfold Stp.gain; rw [hm]; exact sumTo_zero hmo
    have hstl : P.st.length = P.n := by rw [hPst, hPn, iniT_len]
    have hszl : P.sz.length = P.n := by rw [hPsz, hPn, iniZ_len]
    have hall : opn (P.stT P.m) n = [] := opn_none (fun i hi => by
      have := P.stT_at hstl (q := i) (by rw [hm]; exact hi) P.m (Nat.le_refl _) (by rw [hm]; exact hi)
      rw [hoA i hi] at this
      rw [this]
      unfold nwB
      exact decide_eq_true (.inl hgain))
    cases hnext with
    | step hno _ => exact absurd hall hno
    | done _ =>
      have hr : ∀ j, j < n → szA (P.szT P.m) j = (itA L j).b + P.d j := fun j hj => by
        have := P.szT_at hszl (q := j) (by rw [hm]; exact hj) P.m (Nat.le_refl _) (by rw [hm]; exact hj)
        rw [hoA j hj] at this
        rw [this, hzz j hj]
      refine ⟨fun i hi => by rw [hr i hi]; have := hd0 i hi; omega, ?_⟩
      rw [sumTo_congr hr, sumTo_add]
      congr 1
      have : sumTo P.d n = sumTo (fun j => start * preF P.by_ (j + 1) / preF P.by_ n - start * preF P.by_ j / preF P.by_ n) n := sumTo_congr (fun j _ => hd j)
      rw [this, tele]
      exact Int.mul_ediv_cancel _ (by omega)
end Go.Proofs.Ytdpnpjficcciiaa
