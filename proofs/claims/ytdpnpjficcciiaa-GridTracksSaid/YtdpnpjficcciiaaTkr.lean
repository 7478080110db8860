/- plain: tracks: the reference's way gives the same -/
import Derived.Test.YtdpnpjficcciiaaTkp
namespace Go.Cas
set_option linter.unusedVariables false
set_option linter.unusedSimpArgs false
open Go.RowKit Go.Proofs.Ytdpnpjficcciiaa

/-- as the reference counts: tracks from 0 on -/
def decN (x : Nd) : Nd := ⟨x.fr - 1, x.sp, x.sz⟩
def hitN (x : Nd) (i : Nat) : Bool := decide (x.fr - 1 = (i : Int) ∧ x.sp = 1)
def m1 (D : List Nd) (i : Nat) : Nat → Int
  | 0 => 0
  | k + 1 => match D[k]? with
    | some x => if hitN x i = true then max (m1 D i k) x.sz else m1 D i k
    | none => m1 D i k
theorem m1_succ {D : List Nd} {i k : Nat} {x : Nd} (h : D[k]? = some x) : m1 D i (k + 1) = if hitN x i = true then max (m1 D i k) x.sz else m1 D i k := by simp [m1, h]
theorem m1_bd {D : List Nd} (h : ∀ x ∈ D, x.sz ≤ 16777216) (i k : Nat) : 0 ≤ m1 D i k ∧ m1 D i k ≤ 16777216 := by
  induction k with
  | zero => simp [m1]
  | succ k ih =>
    unfold m1
    split
    · rename_i x hx
      have := h x (List.mem_of_getElem? hx)
      split <;> omega
    · exact ih
def o4 (T : List Tr) (R : Int) (D : List Nd) (k : Nat) (i : Nat) : Int := if (trA T i).k = 0 then m1 D i k else ownT R (trA T i)
def O4 (T : List Tr) (R : Int) (D : List Nd) (k : Nat) : List Int := (List.range T.length).map (o4 T R D k)
theorem O4_szA {T : List Tr} {R : Int} {D : List Nd} {k i : Nat} (h : i < T.length) : szA (O4 T R D k) i = o4 T R D k i := by
  refine szA_eq ?_
  unfold O4
  rw [List.getElem?_map, List.getElem?_range h]; rfl
theorem fill1 {T : List Tr} {G : Int} {out : List Int} {x : Nd} (hx : NB x T.length) (hl : out.length = T.length) (h1 : x.sp = 1) : ∀ i, i < T.length → szA (fillT T G out x) i = if (trA T i).k = 0 ∧ hitN x i = true then max (szA out i) x.sz else szA out i := by
  intro i hi
  have hf := hx.fr; have hfit := hx.fit
  rw [h1] at hfit
  have hp : (x.fr - 1).toNat < T.length := by have : (1 : Int).toNat = 1 := rfl; omega
  have hh : hitN x i = decide ((x.fr - 1).toNat = i) := by
    unfold hitN
    rw [Bool.eq_iff_iff]
    simp only [decide_eq_true_eq, h1, and_true]
    omega
  unfold fillT
  rw [h1, hh]
  obtain ⟨p, hpe⟩ : ∃ p, p = (x.fr - 1).toNat := ⟨_, rfl⟩
  rw [← hpe] at hp ⊢
  have e1 : (1 : Int).toNat = 1 := rfl
  have e2 : x.sz - G * (1 - 1) - sumO out p 1 = x.sz - szA out p := by unfold sumO; simp [sumTo]
  rw [e1, e2]
  by_cases h3 : (trA T p).k = 3
  · rw [if_pos (by simp [any3, h3])]
    rw [if_neg]
    rintro ⟨a, b⟩
    have b := of_decide_eq_true b
    rw [← b] at a; omega
  · rw [if_neg (by simp [any3, h3])]
    by_cases hm : x.sz - szA out p ≤ 0
    · rw [if_pos hm]
      by_cases hc : (trA T i).k = 0 ∧ decide (p = i) = true
      · rw [if_pos hc]
        have b := of_decide_eq_true hc.2
        rw [← b]; omega
      · rw [if_neg hc]
    · rw [if_neg hm]
      by_cases h0 : (trA T p).k = 0
      · have ho : opT T p 1 = [p] := by rw [opT_succ]; simp [h0, opT]
        have ha : addT T out p 1 (x.sz - szA out p) (opT T p 1).length = out.set p x.sz := by
          rw [ho]
          show addT T out p 1 (x.sz - szA out p) 1 = _
          unfold addT
          rw [ho]
          have : prt (x.sz - szA out p) [p].length 0 = x.sz - szA out p := by unfold prt; simp
          rw [this]
          show (addT T out p 1 _ 0).set p (szA (addT T out p 1 _ 0) p + _) = _
          unfold addT
          congr 1; omega
        rw [ha, set_szA (by omega)]
        by_cases hc : i = p
        · subst hc
          rw [if_pos rfl, if_pos ⟨h0, by simp⟩]; omega
        · rw [if_neg hc, if_neg (by simp; omega)]
      · have ho : opT T p 1 = [] := by rw [opT_succ]; simp [h0, opT]
        rw [ho]
        show szA (addT T out p 1 _ 0) i = _
        unfold addT
        rw [if_neg]
        rintro ⟨a, b⟩
        have b := of_decide_eq_true b
        rw [← b] at a; exact h0 a
theorem ext_szA {a b : List Int} (hl : a.length = b.length) (h : ∀ i, i < a.length → szA a i = szA b i) : a = b := by
  apply List.ext_getElem?
  intro i
  by_cases hi : i < a.length
  · have := h i hi
    have hb : i < b.length := by omega
    rw [List.getElem?_eq_getElem hi, List.getElem?_eq_getElem hb]
    rw [szA_eq (List.getElem?_eq_getElem hi), szA_eq (List.getElem?_eq_getElem hb)] at this
    rw [this]
  · rw [List.getElem?_eq_none (by omega), List.getElem?_eq_none (by omega)]
theorem O4_fold {T : List Tr} {R G : Int} {D : List Nd} (hD : ∀ x ∈ D, NB x T.length) (hR : ∀ x ∈ T, x.k = 0 → ownT R x = 0) : ∀ k, k ≤ D.length → ((D.take k).filter fun x => decide (x.sp = 1)).foldl (fillT T G) (T.map (ownT R)) = O4 T R D k := by
  intro k
  induction k with
  | zero =>
    intro _
    refine ext_szA (by simp [O4]) (fun i hi => ?_)
    have hi2 : i < T.length := by simpa using hi
    rw [O4_szA hi2]
    unfold o4
    have e : (T.map (ownT R))[i]? = some (ownT R (trA T i)) := by rw [List.getElem?_map, trA_get hi2]; rfl
    show szA (T.map (ownT R)) i = _
    rw [szA_eq e]
    split
    · rename_i h; exact hR _ (List.mem_of_getElem? (trA_get hi2)) h
    · rfl
  | succ k ih =>
    intro hk
    have ih := ih (by omega)
    have hx : D[k]? = some D[k] := List.getElem?_eq_getElem (by omega)
    have hnb := hD _ (List.mem_of_getElem? hx)
    rw [List.take_succ_eq_append_getElem (by omega), List.filter_append]
    by_cases h1 : D[k].sp = 1
    · have e : ([D[k]].filter fun x => decide (x.sp = 1)) = [D[k]] := by simp [h1]
      rw [e, List.foldl_append, ih]
      show fillT T G (O4 T R D k) D[k] = _
      refine ext_szA (by rw [fillT_len]; simp [O4]) (fun i hi => ?_)
      rw [fillT_len] at hi
      have hi2 : i < T.length := by simpa [O4] using hi
      rw [fill1 hnb (by simp [O4]) h1 i hi2, O4_szA hi2, O4_szA hi2]
      unfold o4
      rw [m1_succ hx]
      by_cases h0 : (trA T i).k = 0
      · by_cases hh : hitN D[k] i = true <;> simp [h0, hh]
      · simp [h0]
    · have e : ([D[k]].filter fun x => decide (x.sp = 1)) = [] := by simp [h1]
      rw [e, List.append_nil, ih]
      refine ext_szA (by simp [O4]) (fun i hi => ?_)
      have hi2 : i < T.length := by simpa [O4] using hi
      rw [O4_szA hi2, O4_szA hi2]
      unfold o4
      rw [m1_succ hx]
      have hh : hitN D[k] i = false := by unfold hitN; simp [h1]
      simp [hh]
/-- the rest of the needs, by spans from 2 on -/
def sp2 (D : List Nd) (s : Nat) : List Nd := (List.range s).flatMap fun j => D.filter fun x => decide (x.sp = ((j + 2 : Nat) : Int))
theorem sp2_succ (D : List Nd) (s : Nat) : sp2 D (s + 1) = sp2 D s ++ D.filter fun x => decide (x.sp = ((s + 2 : Nat) : Int)) := by
  unfold sp2
  rw [List.range_succ, List.flatMap_append, List.flatMap_singleton]
theorem srtN_sp2 {D : List Nd} (h : ∀ x ∈ D, 1 ≤ x.sp) : srtN D = (D.filter fun x => decide (x.sp = 1)) ++ sp2 D 19 := by
  have key : ∀ s, ((List.range (s + 2)).flatMap fun s => D.filter fun x => decide (x.sp = ((s : Nat) : Int))) = (D.filter fun x => decide (x.sp = 1)) ++ sp2 D s := by
    intro s
    induction s with
    | zero =>
      have e0 : (D.filter fun x => decide (x.sp = ((0 : Nat) : Int))) = [] := by
        rw [List.filter_eq_nil_iff]
        intro x hx
        have := h x hx
        simp; omega
      show (D.filter fun x => decide (x.sp = ((0 : Nat) : Int))) ++ ((D.filter fun x => decide (x.sp = ((1 : Nat) : Int))) ++ []) = _
      rw [e0, List.nil_append]; rfl
    | succ s ih =>
      rw [show s + 1 + 2 = (s + 2) + 1 by omega, List.range_succ, List.flatMap_append, List.flatMap_singleton, ih, sp2_succ, List.append_assoc]
  exact key 19
theorem sp2_mem {D : List Nd} {s : Nat} {x : Nd} (h : x ∈ sp2 D s) : x ∈ D := by
  unfold sp2 at h
  obtain ⟨j, _, hj⟩ := List.mem_flatMap.1 h
  exact (List.mem_filter.1 hj).1
/-- what the reference has made of them -/
def OS (T : List Tr) (R G : Int) (D : List Nd) (s k : Nat) : List Int := (sp2 D s ++ (D.take k).filter fun x => decide (x.sp = ((s + 2 : Nat) : Int))).foldl (fillT T G) (O4 T R D D.length)
theorem OS_succ {T : List Tr} {R G : Int} {D : List Nd} {s k : Nat} {x : Nd} (h : D[k]? = some x) : OS T R G D s (k + 1) = if x.sp = ((s + 2 : Nat) : Int) then fillT T G (OS T R G D s k) x else OS T R G D s k := by
  obtain ⟨h1, h2⟩ := List.getElem?_eq_some_iff.1 h
  unfold OS
  rw [List.take_succ_eq_append_getElem h1, h2, List.filter_append]
  by_cases hx : x.sp = ((s + 2 : Nat) : Int)
  · have e : ([x].filter fun x => decide (x.sp = ((s + 2 : Nat) : Int))) = [x] := by simp [hx]
    rw [e, if_pos hx, ← List.append_assoc, List.foldl_append]; rfl
  · have e : ([x].filter fun x => decide (x.sp = ((s + 2 : Nat) : Int))) = [] := by simp; omega
    rw [e, if_neg hx, List.append_nil]
theorem OS_next (T : List Tr) (R G : Int) (D : List Nd) (s : Nat) : OS T R G D s D.length = OS T R G D (s + 1) 0 := by
  unfold OS
  rw [List.take_length, sp2_succ, List.take_zero, List.filter_nil, List.append_nil]
theorem OS_start (T : List Tr) (R G : Int) (D : List Nd) : OS T R G D 0 0 = O4 T R D D.length := rfl
theorem OS_end {T : List Tr} {R G : Int} {D : List Nd} (hD : ∀ x ∈ D, NB x T.length) (hR : ∀ x ∈ T, x.k = 0 → ownT R x = 0) : OS T R G D 19 0 = trkO T R G D := by
  unfold OS trkO
  rw [srtN_sp2 (fun x hx => (hD x hx).sp.1), List.take_zero, List.filter_nil, List.append_nil]
  have := O4_fold (G := G) hD hR D.length (Nat.le_refl _)
  rw [List.take_length] at this
  conv => rhs; rw [List.foldl_append]
  rw [this]
theorem OS_len (T : List Tr) (R G : Int) (D : List Nd) (s k : Nat) : (OS T R G D s k).length = T.length := by
  unfold OS
  rw [foldF_len]; simp [O4]
theorem OS_OB {T : List Tr} {R G : Int} (hG : -16777216 ≤ G ∧ G ≤ 16777216) (hR : -16777216 ≤ R ∧ R ≤ 16777216) {D : List Nd} (hD : ∀ x ∈ D, NB x T.length) (hT : ∀ x ∈ T, R < 0 → x.k ≤ 1) (s k : Nat) : OB (OS T R G D s k) := by
  unfold OS
  refine foldF_OB hG _ _ ?_ (fun x hx => ?_)
  · intro i hi
    have hi2 : i < T.length := by simpa [O4] using hi
    rw [O4_szA hi2]
    have h1 := m1_bd (fun x hx => (hD x hx).sz.2) i D.length
    have h2 := ownT_bd hR (trA T i) (hT _ (List.mem_of_getElem? (trA_get hi2)))
    unfold o4
    split <;> omega
  · have e : (O4 T R D D.length).length = T.length := by simp [O4]
    rw [e]
    rcases List.mem_append.1 hx with h | h
    · exact hD x (sp2_mem h)
    · exact hD x (List.mem_of_mem_take (List.mem_filter.1 h).1)
/-- whoever shares what is left has nothing of its own -/
theorem fill3 {T : List Tr} {G : Int} {out : List Int} {x : Nd} {i : Nat} (h3 : (trA T i).k = 3) : szA (fillT T G out x) i = szA out i := by
  unfold fillT
  split
  · rfl
  · split
    · rfl
    · refine addT_at _ _ _ _ _ _ (Nat.le_refl _) i (fun j hj e => ?_)
      have := opT_mem (opT_get hj).2
      rw [e] at this
      omega
theorem trkO3 {T : List Tr} {R G : Int} {D : List Nd} {i : Nat} (hi : i < T.length) (h3 : (trA T i).k = 3) : szA (trkO T R G D) i = 0 := by
  unfold trkO
  have key : ∀ (d : List Nd) (out : List Int), szA (d.foldl (fillT T G) out) i = szA out i := by
    intro d
    induction d with
    | nil => intro out; rfl
    | cons x d ih => intro out; rw [List.foldl_cons, ih, fill3 h3]
  rw [key]
  have e : (T.map (ownT R))[i]? = some (ownT R (trA T i)) := by rw [List.getElem?_map, trA_get hi]; rfl
  rw [szA_eq e]
  unfold ownT
  rw [if_neg (by omega), if_neg (by omega)]
/-- the end of the reference's way -/
def finT (T : List Tr) (O : List Int) (rest : Int) (i : Nat) : Int := if (trA T i).k = 3 then porT T rest (i + 1) - porT T rest i else szA O i
theorem trkO_len (T : List Tr) (R G : Int) (D : List Nd) : (trkO T R G D).length = T.length := by unfold trkO; rw [foldF_len, List.length_map]
theorem fin_eq {T : List Tr} {R G : Int} {D : List Nd} (hT : ∀ x ∈ T, R < 0 → x.k ≤ 1) : (List.range T.length).map (finT T (trkO T R G D) (max 0 (leftT T R G (trkO T R G D)))) = trkR T R G D := by
  obtain ⟨O, hO⟩ : ∃ O, O = trkO T R G D := ⟨_, rfl⟩
  have hOl := trkO_len T R G D
  have hO3 : ∀ i, i < T.length → (trA T i).k = 3 → szA O i = 0 := fun i hi h3 => by rw [hO]; exact trkO3 hi h3
  unfold trkR
  rw [← hO] at hOl ⊢
  obtain ⟨LF, hLF⟩ : ∃ LF, LF = leftT T R G O := ⟨_, rfl⟩
  rw [← hLF]
  by_cases h : R < 0 ∨ LF ≤ 0 ∨ trkS T T.length = 0
  · rw [if_pos h]
    refine ext_szA (by simp [hOl]) (fun i hi => ?_)
    have hi2 : i < T.length := by simpa using hi
    have e : ((List.range T.length).map (finT T O (max 0 LF)))[i]? = some (finT T O (max 0 LF) i) := by rw [List.getElem?_map, List.getElem?_range hi2]; rfl
    rw [szA_eq e]
    unfold finT
    split
    · rename_i h3
      rw [hO3 i hi2 h3]
      rcases h with h | h | h
      · have := hT _ (List.mem_of_getElem? (trA_get hi2)) h; omega
      · have : max 0 LF = 0 := by omega
        rw [this]; simp [porT]
      · have s1 := trkS_bd T (i + 1); have s2 := trkS_bd T i
        have m1 := trkS_mono T (show i + 1 ≤ T.length from hi2); have m2 := trkS_mono T (show i ≤ T.length by omega)
        have e1 : trkS T (i + 1) = 0 := by omega
        have e2 : trkS T i = 0 := by omega
        simp [porT, e1, e2]
    · rfl
  · rw [if_neg h]
    have hl : max 0 LF = LF := by omega
    rw [hl]
    refine List.map_congr_left (fun i hi => ?_)
    have hi2 : i < T.length := List.mem_range.1 hi
    unfold finT
    split
    · rename_i h3
      rw [hO3 i hi2 h3]; omega
    · rename_i h3
      have e : porT T LF (i + 1) = porT T LF i := by
        unfold porT
        rw [trkS_succ]
        have : facT (trA T i) = 0 := by unfold facT; rw [if_neg h3]
        rw [this, Int.add_zero]
      rw [e]; omega
end Go.Cas
