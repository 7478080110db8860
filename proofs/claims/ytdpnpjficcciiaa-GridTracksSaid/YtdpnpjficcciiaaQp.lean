/- plain: the reference's row goes by index; the step goes by who is open -/
import Derived.Test.YtdpnpjficcciiaaShb
import Derived.Test.YtdpnpjficcciiaaPa
namespace Go.Cas
set_option linter.unusedVariables false
set_option linter.unusedSimpArgs false
open Go.RowKit

theorem opc_succ (st : List Bool) (i : Nat) : opc st (i + 1) = if stA st i = true then opc st i else opc st i + 1 := by
  unfold opc
  rw [opn_succ]
  split <;> simp
theorem opn_pre (st : List Bool) (i : Nat) : ∀ n, i ≤ n → ∃ t, opn st n = opn st i ++ t := by
  intro n
  induction n with
  | zero => intro h; obtain rfl : i = 0 := by omega
            exact ⟨[], by simp⟩
  | succ n ih =>
    intro h
    rcases Nat.lt_or_ge n i with h1 | h1
    · obtain rfl : i = n + 1 := by omega
      exact ⟨[], by simp⟩
    · obtain ⟨t, ht⟩ := ih h1
      rw [opn_succ, ht]
      split
      · exact ⟨t, rfl⟩
      · exact ⟨t ++ [n], by rw [List.append_assoc]⟩
theorem opc_lt_n {st : List Bool} {i n : Nat} (h : i < n) (hs : stA st i = false) : opc st i < opc st n ∧ oA st n (opc st i) = i := by
  obtain ⟨t, ht⟩ := opn_pre st (i + 1) n (by omega)
  have h1 : opn st (i + 1) = opn st i ++ [i] := by rw [opn_succ, if_neg (by rw [hs]; simp)]
  rw [h1, List.append_assoc] at ht
  unfold opc oA
  rw [ht]
  constructor
  · simp
  · rw [List.getD_eq_getElem?_getD, List.getElem?_append_right (Nat.le_refl _)]; simp
theorem opc_mono {st : List Bool} {i n : Nat} (h : i ≤ n) : opc st i ≤ opc st n := by
  obtain ⟨t, ht⟩ := opn_pre st i n h
  unfold opc
  rw [ht]; simp
theorem bys_at {gr : Bool} {L : List FI} {st : List Bool} {i n : Nat} (h : i < n) (hs : stA st i = false) : szA (bys gr L st n) (opc st i) = wtI gr (itA L i) := by
  obtain ⟨h1, h2⟩ := opc_lt_n h hs
  have e := opn_get (st := st) (n := n) h1
  apply szA_eq
  unfold bys
  rw [List.getElem?_map, e, h2]; rfl
namespace Stp
variable (P : Stp)
theorem pre_succ {i : Nat} (h : i < P.n) : preF P.by_ (opc P.st (i + 1)) = if stA P.st i = true then preF P.by_ (opc P.st i) else preF P.by_ (opc P.st i) + wtI P.gr (itA P.L i) := by
  rw [opc_succ]
  split
  · rfl
  · rename_i hs
    show sumTo _ _ + szA _ _ = _
    unfold by_
    rw [bys_at h (by simpa using hs)]; rfl
theorem mos_succ (i : Nat) : sumTo P.mo (opc P.st (i + 1)) = if stA P.st i = true then sumTo P.mo (opc P.st i) else sumTo P.mo (opc P.st i) + P.mo (opc P.st i) := by
  rw [opc_succ]
  split <;> rfl
theorem szT_succ {i : Nat} (h : i < P.n) : P.szT (opc P.st (i + 1)) = if stA P.st i = true then P.szT (opc P.st i) else (P.szT (opc P.st i)).set i (P.zz (opc P.st i)) := by
  rw [opc_succ]
  split
  · rfl
  · rename_i hs
    show (P.szT _).set _ _ = _
    rw [(opc_lt_n h (by simpa using hs)).2]
theorem stT_succ {i : Nat} (h : i < P.n) : P.stT (opc P.st (i + 1)) = if stA P.st i = true then P.stT (opc P.st i) else (P.stT (opc P.st i)).set i (nwB P.gain (P.mo (opc P.st i))) := by
  rw [opc_succ]
  split
  · rfl
  · rename_i hs
    show (P.stT _).set _ _ = _
    rw [(opc_lt_n h (by simpa using hs)).2]
theorem stT_now {i : Nat} (h : i < P.n) : stA (P.stT (opc P.st i)) i = stA P.st i := by
  rcases hs : stA P.st i with _ | _
  · have key : ∀ j, j ≤ opc P.st i → stA (P.stT j) i = stA P.st i := by
      intro j
      induction j with
      | zero => intro _; rfl
      | succ j ih =>
        intro hj
        have hne : oA P.st P.n j ≠ i := by
          have hjm : j < opc P.st P.n := Nat.lt_of_lt_of_le hj (opc_mono (by omega))
          intro e
          have h2 := opc_lt_n h hs
          have := P.oA_inj (i := j) (j := opc P.st i) hjm h2.1 (e.trans h2.2.symm)
          omega
        rw [← ih (by omega)]
        unfold stA
        simp only [stT, List.getD_eq_getElem?_getD, List.getElem?_set_ne hne]
    rw [key _ (Nat.le_refl _), hs]
  · exact P.stT_keep hs _ (opc_mono (by omega))
variable {P} in
theorem vals_next (hf : ∀ x ∈ P.L, FB x) (hz : P.sz.length = P.n) (hl : P.st.length = P.n) (ha : -150000000000 ≤ P.a ∧ P.a ≤ 150000000000) (hv : ∀ i, i < P.n → 0 ≤ valI P.L P.sz P.st i ∧ valI P.L P.sz P.st i ≤ 200000000000) :
    ∀ i, i < P.n → 0 ≤ valI P.L (P.szT P.m) (P.stT P.m) i ∧ valI P.L (P.szT P.m) (P.stT P.m) i ≤ 200000000000 := by
  intro i hi
  have hfb := itA_fb hf i
  rcases hs : stA (P.stT P.m) i with _ | _
  · unfold valI
    rw [hs]
    have := hfb.b
    simp only [Bool.false_eq_true, if_false]
    omega
  · have hv2 := hv i hi
    unfold valI at hv2 ⊢
    rw [if_pos hs]
    rcases stT_true hl hi hs with h | ⟨q, hq, rfl, _⟩
    · rw [if_pos h] at hv2
      rw [P.szT_keep h P.m (Nat.le_refl _)]; exact hv2
    · rw [P.szT_at hz hq P.m (Nat.le_refl _) hq]
      have := zz_bd hf hq
      omega
theorem nn_at {i : Nat} (h : i < P.n) (hs : stA P.st i = false) : P.nn (opc P.st i) = (itA P.L i).b + P.d (opc P.st i) ∧ P.zz (opc P.st i) = bnd (itA P.L i) (P.nn (opc P.st i)) ∧ P.mo (opc P.st i) = P.zz (opc P.st i) - P.nn (opc P.st i) := by
  have e := (opc_lt_n h hs).2
  refine ⟨by unfold nn; rw [e], by unfold zz; rw [e], rfl⟩
theorem d_at (i : Nat) : P.d (opc P.st i) = if preF P.by_ P.m = 0 then 0 else P.a * preF P.by_ (opc P.st i + 1) / preF P.by_ P.m - P.a * preF P.by_ (opc P.st i) / preF P.by_ P.m := by
  unfold d shrD
  rw [P.by_len]
def gnA (i : Nat) : Int := if stA P.st i = true then 0 else P.mo (opc P.st i)
def gnR (k : Nat) : List Int := (List.range P.n).map fun i => if i < k then P.gnA i else 0
theorem gnR_len (k : Nat) : (P.gnR k).length = P.n := by simp [gnR]
theorem gnR_at {k i : Nat} (h : i < P.n) : szA (P.gnR k) i = if i < k then P.gnA i else 0 := by
  apply szA_eq
  unfold gnR
  rw [List.getElem?_map, List.getElem?_range h]; rfl
theorem gnR_next {k : Nat} : P.gnR (k + 1) = (P.gnR k).set k (P.gnA k) := by
  apply List.ext_getElem (by simp [gnR])
  intro i h1 h2
  rw [List.getElem_set]
  simp only [gnR, List.getElem_map, List.getElem_range]
  by_cases e : k = i
  · subst e; simp
  · rw [if_neg e]
    by_cases h : i < k
    · rw [if_pos h, if_pos (by omega)]
    · rw [if_neg h, if_neg (by omega)]
theorem gnR_keep {k : Nat} (hs : stA P.st k = true) : P.gnR (k + 1) = P.gnR k := by
  apply List.ext_getElem (by simp [gnR])
  intro i h1 h2
  simp only [gnR, List.getElem_map, List.getElem_range]
  by_cases e : k = i
  · subst e; simp [gnA, hs]
  · by_cases h : i < k
    · rw [if_pos h, if_pos (by omega)]
    · rw [if_neg h, if_neg (by omega)]
theorem gnR0 : ((P.gnR 0).map (Value.int .i64)).toArray = rowV P.n (fun _ => .int .i64 0) := by
  unfold rowV gnR; congr 1; rw [List.map_map]; apply List.map_congr_left; intro i _; simp
end Stp
theorem set_get {l : List Int} {i : Nat} {u : Int} (h : i < l.length) : szA (l.set i u) i = u := by
  apply szA_eq
  rw [List.getElem?_set_self h]
/-- the factors laid out -/
def fcR (gr : Bool) (L : List FI) (n k : Nat) : List Int := (List.range n).map fun i => if i < k then fcI gr (itA L i) else 0
theorem fcR_len (gr : Bool) (L : List FI) (n k : Nat) : (fcR gr L n k).length = n := by simp [fcR]
theorem fcR_at {gr : Bool} {L : List FI} {n k i : Nat} (h : i < n) : szA (fcR gr L n k) i = if i < k then fcI gr (itA L i) else 0 := by
  apply szA_eq
  unfold fcR
  rw [List.getElem?_map, List.getElem?_range h]; rfl
theorem fcR_next {gr : Bool} {L : List FI} {n k : Nat} : fcR gr L n (k + 1) = (fcR gr L n k).set k (fcI gr (itA L k)) := by
  apply List.ext_getElem (by simp [fcR])
  intro i h1 h2
  rw [List.getElem_set]
  simp only [fcR, List.getElem_map, List.getElem_range]
  by_cases e : k = i
  · subst e; simp
  · rw [if_neg e]
    by_cases h : i < k
    · rw [if_pos h, if_pos (by omega)]
    · rw [if_neg h, if_neg (by omega)]
theorem fcR0 (gr : Bool) (L : List FI) (n : Nat) : ((fcR gr L n 0).map (Value.int .i64)).toArray = rowV n (fun _ => .int .i64 0) := by
  unfold rowV fcR; congr 1; rw [List.map_map]; apply List.map_congr_left; intro i _; simp
/-- the gaps ahead of the k-th -/
def gpS (gap : Int) (k : Nat) : Int := gap * ((k - 1 : Nat) : Int)
theorem gpS_succ (gap : Int) (k : Nat) : gpS gap (k + 1) = if 0 < k then gpS gap k + gap else 0 := by
  unfold gpS
  cases k with
  | zero => simp
  | succ k =>
    rw [if_pos (by omega)]
    show gap * (((k + 1 : Nat)) : Int) = gap * ((k : Nat) : Int) + gap
    rw [Int.natCast_succ, Int.mul_add, Int.mul_one]
end Go.Cas
