/- plain (no program): a number's text and its thousandths -/
import Derived.Test.YtmhejppfjngbhaaDoorYd
import Derived.Test.YtmhejppfjngbhaaDoorYo
import Derived.Lib.IndexMore
import Derived.Lib.SlTrimSet
namespace Go.Cas
set_option linter.unusedVariables false
set_option linter.unusedSimpArgs false

/-- what digits say -/
def dvl (l : List UInt8) : Nat := l.foldl (fun n c => n * 10 + (c.toNat - 48)) 0
theorem dvl_snoc (l : List UInt8) (c : UInt8) : dvl (l ++ [c]) = dvl l * 10 + (c.toNat - 48) := by simp [dvl]
theorem dvl_f : ∀ (b : List UInt8) (n : Nat), b.foldl (fun n c => n * 10 + (c.toNat - 48)) n = n * 10 ^ b.length + dvl b := by
  intro b
  induction b with
  | nil => intro n; simp [dvl]
  | cons c b ih =>
    intro n
    unfold dvl
    rw [List.foldl_cons, List.foldl_cons, ih, ih (0 * 10 + (c.toNat - 48)), List.length_cons, Nat.pow_succ, Nat.add_mul, Nat.add_mul, Nat.mul_assoc, Nat.zero_mul, Nat.mul_comm 10]
    omega
theorem dvl_app (a b : List UInt8) : dvl (a ++ b) = dvl a * 10 ^ b.length + dvl b := by
  rw [← dvl_f, dvl, List.foldl_append]; rfl
theorem dvl_ge (a b : List UInt8) : dvl a ≤ dvl (a ++ b) := by
  rw [dvl_app]
  have : 0 < 10 ^ b.length := Nat.pow_pos (by decide)
  have := Nat.le_mul_of_pos_right (dvl a) this
  omega
theorem dvl_ge3 (a b : List UInt8) (n : Nat) (h : b.length ≤ n) : dvl a * 10 ^ n ≤ dvl (a ++ b) * 10 ^ (n - b.length) := by
  rw [dvl_app, Nat.add_mul, Nat.mul_assoc, ← Nat.pow_add, show b.length + (n - b.length) = n by omega]
  omega
/-- thousandths of digits ahead of the point and behind it; whether they can be had -/
def thouV (ng : Bool) (W P : List UInt8) : Int × Bool :=
  if 3 < P.length ∨ 1000000000 < dvl (W ++ P) * 10 ^ (3 - P.length) then (0, false) else ((if ng = true then -((dvl (W ++ P) * 10 ^ (3 - P.length) : Nat) : Int) else ((dvl (W ++ P) * 10 ^ (3 - P.length) : Nat) : Int)), true)
def dgs (l : List UInt8) : Prop := ∀ c ∈ l, dgC c = true
theorem dgC_b {c : UInt8} (h : dgC c = true) : 48 ≤ c.toNat ∧ c.toNat ≤ 57 := by unfold dgC at h; simpa using h
/-- a number's text -/
structure Num (s : List UInt8) (sg W P : List UInt8) (dot : Bool) : Prop where
  eq : s = sg ++ (W ++ (if dot = true then 46 :: P else []))
  sg_ : sg = [] ∨ sg = [43] ∨ sg = [45]
  w : dgs W
  p : dgs P
  no : dot = false → P = []
theorem dg_ne {c : UInt8} (h : dgC c = true) : c ≠ 43 ∧ c ≠ 45 ∧ c ≠ 46 := by
  refine ⟨?_, ?_, ?_⟩ <;> (intro e; subst e; exact absurd h (by decide))
theorem Num.head {s sg W P : List UInt8} {dot : Bool} (h : Num s sg W P dot) : ∀ c, (W ++ (if dot = true then 46 :: P else []))[0]? = some c → c ≠ 43 ∧ c ≠ 45 := by
  intro c hc
  cases W with
  | cons a W => simp at hc; subst hc; exact ⟨(dg_ne (h.w a (by simp))).1, (dg_ne (h.w a (by simp))).2.1⟩
  | nil =>
    cases dot with
    | true => simp at hc; subst hc; decide
    | false => simp at hc
theorem Num.trim {s sg W P : List UInt8} {dot : Bool} (h : Num s sg W P dot) : Lib.trimLeftS s [43, 45] = W ++ (if dot = true then 46 :: P else []) := by
  have hh := h.head
  rw [h.eq]
  generalize W ++ (if dot = true then 46 :: P else []) = R at hh
  have h0 : R.dropWhile (fun c => [43, 45].contains c) = R := by
    cases R with
    | nil => rfl
    | cons a R => rw [List.dropWhile_cons_of_neg]; have := hh a rfl; simp [this.1, this.2]
  unfold Lib.trimLeftS
  rcases h.sg_ with rfl | rfl | rfl
  · exact h0
  · show List.dropWhile _ (43 :: R) = _
    rw [List.dropWhile_cons_of_pos (by decide)]; exact h0
  · show List.dropWhile _ (45 :: R) = _
    rw [List.dropWhile_cons_of_pos (by decide)]; exact h0
theorem Num.neg {s sg W P : List UInt8} {dot : Bool} (h : Num s sg W P dot) : Lib.hasPrefix s [45] = decide (sg = [45]) := by
  have hh := h.head
  rw [h.eq]
  generalize W ++ (if dot = true then 46 :: P else []) = R at hh
  unfold Lib.hasPrefix
  rcases h.sg_ with rfl | rfl | rfl
  · cases R with
    | nil => rfl
    | cons a R => have := hh a rfl; simp [List.isPrefixOf, this.2.symm]
  · rfl
  · simp [List.isPrefixOf]
theorem occ1 {l : List UInt8} {i : Nat} : Lib.occAt l [46] i = decide (l[i]? = some 46) := by
  unfold Lib.occAt
  rw [show l[i]? = (l.drop i)[0]? by rw [List.getElem?_drop]; rfl]
  cases l.drop i with
  | nil => rfl
  | cons a r => 
    rw [Bool.eq_iff_iff]
    simp [List.isPrefixOf]
    exact eq_comm
theorem Num.cut {s sg W P : List UInt8} {dot : Bool} (h : Num s sg W P dot) : (Lib.cut (W ++ (if dot = true then 46 :: P else [])) [46]).1 = W ∧ (Lib.cut (W ++ (if dot = true then 46 :: P else [])) [46]).2.1 = P := by
  have hW : ∀ (R : List UInt8) j, j < W.length → Lib.occAt (W ++ R) [46] j = false := fun R j hj => by
    rw [occ1, decide_eq_false_iff_not, List.getElem?_append_left hj]
    intro e
    obtain ⟨_, e2⟩ := List.getElem?_eq_some_iff.1 e
    exact (dg_ne (h.w 46 (by rw [← e2]; exact List.getElem_mem _))).2.2 rfl
  cases dot with
  | true =>
    rw [if_pos rfl]
    have e : Lib.index (W ++ 46 :: P) [46] = W.length := Lib.index_first (by simp) (by rw [occ1]; simp) (hW _)
    unfold Lib.cut
    rw [if_pos (by rw [e]; omega), e]
    refine ⟨by simp, ?_⟩
    show List.drop ((W.length : Int).toNat + 1) (W ++ 46 :: P) = P
    rw [Int.toNat_natCast, List.drop_append]
    simp
  | false =>
    rw [if_neg (by simp), List.append_nil]
    have e : Lib.index W [46] = -1 := Lib.index_none fun j hj => by
      by_cases hlt : j < W.length
      · have := hW [] j hlt
        rwa [List.append_nil] at this
      · rw [occ1, decide_eq_false_iff_not, List.getElem?_eq_none (by omega)]; simp
    unfold Lib.cut
    rw [if_neg (by rw [e]; decide)]
    exact ⟨rfl, (h.no rfl).symm⟩
theorem take_run (p : UInt8 → Bool) (s : ByteArray) (i : Nat) : (s.data.toList.drop i).take (runE p s i - i) = (s.data.toList.drop i).takeWhile p := by
  unfold runE
  rw [show i + ((s.data.toList.drop i).takeWhile p).length - i = ((s.data.toList.drop i).takeWhile p).length by omega]
  exact (List.prefix_iff_eq_take.1 (List.takeWhile_prefix p)).symm
theorem ext_lst (s : ByteArray) (i n : Nat) : (s.extract i n).data.toList = (s.data.toList.drop i).take (n - i) := by
  rw [ByteArray.data_extract, Array.toList_extract]
theorem take_two (l : List UInt8) (a b : Nat) : l.take (a + b) = l.take a ++ (l.drop a).take b := List.take_add
theorem tw_dgs (l : List UInt8) : dgs (l.takeWhile dgC) := by
  induction l with
  | nil => intro c hc; simp at hc
  | cons a l ih =>
    intro c hc
    by_cases h : dgC a = true
    · rw [List.takeWhile_cons_of_pos h] at hc
      rcases List.mem_cons.1 hc with rfl | hc
      · exact h
      · exact ih c hc
    · rw [List.takeWhile_cons_of_neg h] at hc; simp at hc
/-- what is read as a number is one -/
theorem num_of {s : ByteArray} {i : Nat} (hi : i < s.size) (h : i < nuE s i) : ∃ sg W P dot, Num (s.extract i (nuE s i)).data.toList sg W P dot := by
  obtain ⟨j, hj⟩ : ∃ j, j = (if sgC (bt s i) = true then i + 1 else i) := ⟨_, rfl⟩
  obtain ⟨k, hk⟩ : ∃ k, k = runE dgC s j := ⟨_, rfl⟩
  have hji : i ≤ j ∧ j ≤ s.size := by rw [hj]; split <;> omega
  have hjk := runE_le dgC s j hji.2
  rw [← hk] at hjk
  have hn : nuE s i = if bt s k = 46 ∧ dgC (bt s (k + 1)) = true then runE dgC s (k + 1) else if j < k then k else i := by
    rw [hk, hj]; rfl
  have hsg : ∃ sg, (s.data.toList.drop i).take (j - i) = sg ∧ (sg = [] ∨ sg = [43] ∨ sg = [45]) := by
    refine ⟨_, rfl, ?_⟩
    by_cases hs : sgC (bt s i) = true
    · rw [if_pos hs] at hj
      rw [hj, show i + 1 - i = 1 by omega, List.drop_eq_getElem_cons (by simpa using hi)]
      unfold sgC at hs
      rw [bt_eq hi] at hs
      rcases (by simpa using hs : s[i] = 43 ∨ s[i] = 45) with e | e
      · right; left; show [s[i]] = _; rw [e]
      · right; right; show [s[i]] = _; rw [e]
    · rw [if_neg hs] at hj
      rw [hj]; left; simp
  obtain ⟨sg, hsg, hsg2⟩ := hsg
  have hW := take_run dgC s j
  rw [← hk] at hW
  have hik : (s.data.toList.drop i).take (k - i) = sg ++ (s.data.toList.drop j).takeWhile dgC := by
    rw [show k - i = (j - i) + (k - j) by omega, take_two, hsg, List.drop_drop, show i + (j - i) = j by omega, hW]
  rw [ext_lst]
  by_cases hd : bt s k = 46 ∧ dgC (bt s (k + 1)) = true
  · rw [if_pos hd] at hn
    have hks : k < s.size := Decidable.byContradiction fun e => by rw [bt_out (by omega)] at hd; exact absurd hd.1 (by decide)
    have hr := runE_le dgC s (k + 1) (by omega)
    have hP := take_run dgC s (k + 1)
    refine ⟨sg, (s.data.toList.drop j).takeWhile dgC, (s.data.toList.drop (k + 1)).takeWhile dgC, true, ?_, hsg2, tw_dgs _, tw_dgs _, by simp⟩
    rw [hn, show runE dgC s (k + 1) - i = (k - i) + (1 + (runE dgC s (k + 1) - (k + 1))) by omega, take_two, hik, List.drop_drop, show i + (k - i) = k by omega, take_two, List.drop_drop, hP]
    rw [List.append_assoc]
    congr 1
    rw [if_pos rfl]
    congr 1
    rw [List.drop_eq_getElem_cons (by simpa using hks)]
    show [s[k]] ++ _ = _
    rw [← bt_eq hks, hd.1]; rfl
  · rw [if_neg hd] at hn
    have hjk2 : j < k := Decidable.byContradiction fun e => by rw [if_neg e] at hn; omega
    rw [if_pos hjk2] at hn
    exact ⟨sg, (s.data.toList.drop j).takeWhile dgC, [], false, by rw [hn, hik]; simp, hsg2, tw_dgs _, by intro c hc; simp at hc, fun _ => rfl⟩
/-- a token with a unit: a number and its unit -/
def DimOk (t : Tk) : Prop := t.k = 5 → ∃ num sg W P dot, Num num sg W P dot ∧ t.t.data.toList = num ++ t.u.data.toList
theorem tokA_dim {s : ByteArray} {i : Nat} (hi : i < s.size) : DimOk (tokA s i) := by
  intro h5
  have key : ∀ t : Tk, t = tokA s i → t.k = 5 → ∃ num sg W P dot, Num num sg W P dot ∧ t.t.data.toList = num ++ t.u.data.toList := by
    intro t ht h5
    unfold tokA at ht
    by_cases hb : blC (bt s i) = true
    · rw [if_pos hb] at ht; subst ht; exact absurd h5 (by simp)
    · rw [if_neg hb] at ht
      by_cases hq : bt s i = 34 ∨ bt s i = 39
      · rw [if_pos hq] at ht
        unfold strT at ht
        split at ht <;> (subst ht; exact absurd h5 (by simp))
      · rw [if_neg hq] at ht
        by_cases hn : i < nuE s i
        · rw [if_pos hn] at ht
          by_cases hu : nuE s i < nmE s (nuE s i)
          · rw [if_pos hu] at ht
            obtain ⟨sg, W, P, dot, h⟩ := num_of hi hn
            subst ht
            exact ⟨_, sg, W, P, dot, h, by simp⟩
          · rw [if_neg hu] at ht
            split at ht <;> (subst ht; exact absurd h5 (by simp))
        · rw [if_neg hn] at ht
          by_cases hm : i < nmE s i
          · rw [if_pos hm] at ht
            split at ht <;> (subst ht; exact absurd h5 (by simp))
          · rw [if_neg hm] at ht
            split at ht
            · subst ht; exact absurd h5 (by simp)
            · split at ht <;> (subst ht; exact absurd h5 (by simp))
  exact key _ rfl h5
theorem addT_all {Q : Tk → Prop} (hQ : ∀ z : Tk, z.k = 0 → Q z) {o : List Tk} {t : Tk} (ho : ∀ x ∈ o, Q x) (ht : Q t) : ∀ x ∈ addT o t, Q x := by
  intro x hx
  rcases List.eq_nil_or_concat o with rfl | ⟨a, z, rfl⟩
  · rw [addT_nil] at hx; rw [List.mem_singleton.1 hx]; exact ht
  · rw [List.concat_eq_append] at *
    by_cases h : t.k = 0 ∧ z.k = 0
    · rw [addT_bl h.1 h.2] at hx
      rcases List.mem_append.1 hx with hx | hx
      · exact ho x (List.mem_append_left _ hx)
      · rw [List.mem_singleton.1 hx]; exact hQ _ h.2
    · rw [addT_no h] at hx
      rcases List.mem_append.1 hx with hx | hx
      · exact ho x hx
      · rw [List.mem_singleton.1 hx]; exact ht
theorem tokF_all {Q : Tk → Prop} (hQ : ∀ z : Tk, z.k = 0 → Q z) (s : ByteArray) (hA : ∀ i, i < s.size → Q (tokA s i)) : ∀ f k o, (∀ x ∈ o, Q x) → ∀ x ∈ tokF f s k o, Q x := by
  intro f
  induction f with
  | zero => intro k o ho; exact ho
  | succ f ih =>
    intro k o ho
    rw [tokF]
    split
    · rename_i hk
      split
      · exact ih _ _ ho
      · exact ih _ _ (addT_all hQ ho (hA k hk))
    · exact ho
theorem toks_dim (s : ByteArray) : ∀ x ∈ toks s, DimOk x := tokF_all (fun z h h5 => by omega) s (fun _ hi => tokA_dim hi) _ _ _ (by simp)
end Go.Cas
