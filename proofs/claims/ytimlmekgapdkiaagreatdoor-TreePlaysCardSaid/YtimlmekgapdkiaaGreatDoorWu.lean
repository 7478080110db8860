/- plain: the document's copy of a node, in the order of what lies in it, is the program's; the document's tree while nodes are copied: the new ones have kids in blocks of their own -/
import Derived.Test.YtimlmekgapdkiaaGreatDoorVm
import Derived.Test.YtimlmekgapdkiaaGreatDoorWi
namespace Go.Proofs.YtimlmekgapdkiaaGreatDoor
set_option linter.unusedVariables false
set_option linter.unusedSimpArgs false
open Go.RowKit Go.Cas

/-- a new node m is hung into the q-th of the new nodes -/
def att (N q m : Nat) (S : List Nod) : List Nod := S.set (N + q) (kiS (ndA S (N + q)) ((ndA S (N + q)).ki ++ [m]))
theorem att_len (N q m : Nat) (S : List Nod) : (att N q m S).length = S.length := by simp [att]
/-- the inner loop: whose kid is the a-th -/
def rcI (N : Nat) (l : List Nat) (pa : Int) (a : Nat) : Nat → List Nod → List Nod × Int
  | 0, S => (S, -1)
  | k + 1, S => if ((l.getD k 0 : Nat) : Int) = pa then (att N k (N + a) (rcI N l pa a k S).1, ((N + k : Nat) : Int)) else rcI N l pa a k S
/-- the tree behind a of the new nodes -/
def rcA (T : List Nod) (l : List Nat) : Nat → List Nod
  | 0 => T
  | a + 1 => (rcI T.length l (ndA T (l.getD a 0)).pa a a (rcA T l a)).1 ++ [cpN (ndA T (l.getD a 0)) (rcI T.length l (ndA T (l.getD a 0)).pa a a (rcA T l a)).2]
theorem rcI_len (N : Nat) (l : List Nat) (pa : Int) (a : Nat) : ∀ (k : Nat) (S : List Nod), (rcI N l pa a k S).1.length = S.length := by
  intro k
  induction k with
  | zero => intro S; rfl
  | succ k ih =>
    intro S
    unfold rcI
    split
    · rw [att_len]; exact ih S
    · exact ih S
theorem rcA_len (T : List Nod) (l : List Nat) : ∀ a, (rcA T l a).length = T.length + a := by
  intro a
  induction a with
  | zero => rfl
  | succ a ih => unfold rcA; rw [List.length_append, rcI_len, ih]; simp; omega
theorem att_ext {T S : List Nod} (h : Ext T S) (q m : Nat) (hq : T.length + q < S.length) : Ext T (att T.length q m S) := by
  refine ⟨by rw [att_len]; exact h.le, fun j hj => ?_⟩
  unfold att
  rw [ndA_set hq, if_neg (by omega)]
  exact h.eq j hj
theorem rcI_ext {T : List Nod} {l : List Nat} {pa : Int} {a : Nat} : ∀ (k : Nat) (S : List Nod), Ext T S → T.length + k ≤ S.length → Ext T (rcI T.length l pa a k S).1 := by
  intro k
  induction k with
  | zero => intro S h _; exact h
  | succ k ih =>
    intro S h hk
    unfold rcI
    split
    · exact att_ext (ih S h (by omega)) _ _ (by rw [rcI_len]; omega)
    · exact ih S h (by omega)
theorem rcA_ext (T : List Nod) (l : List Nat) : ∀ a, Ext T (rcA T l a) := by
  intro a
  induction a with
  | zero => exact Ext.refl T
  | succ a ih =>
    unfold rcA
    exact (rcI_ext _ _ ih (by rw [rcA_len]; omega)).trans (Ext.app _ _)
theorem rcI_none {N : Nat} {l : List Nat} {pa : Int} {a : Nat} : ∀ (k : Nat) (S : List Nod), (∀ j, j < k → ((l.getD j 0 : Nat) : Int) ≠ pa) → rcI N l pa a k S = (S, -1) := by
  intro k
  induction k with
  | zero => intro S _; rfl
  | succ k ih => intro S h; unfold rcI; rw [if_neg (h k (by omega))]; exact ih S (fun j hj => h j (by omega))
theorem rcI_one {N : Nat} {l : List Nat} {pa : Int} {a q : Nat} (hq : ((l.getD q 0 : Nat) : Int) = pa) : ∀ (k : Nat) (S : List Nod), q < k → (∀ j, j < k → j ≠ q → ((l.getD j 0 : Nat) : Int) ≠ pa) → rcI N l pa a k S = (att N q (N + a) S, ((N + q : Nat) : Int)) := by
  intro k
  induction k with
  | zero => intro S h _; omega
  | succ k ih =>
    intro S h1 h2
    unfold rcI
    by_cases e : k = q
    · subst e
      rw [if_pos hq, rcI_none k S (fun j hj => h2 j (by omega) (by omega))]
    · rw [if_neg (h2 k (by omega) e)]
      exact ih S (by omega) (fun j hj hn => h2 j (by omega) hn)
theorem snocCases {α : Type} (l : List α) (n : Nat) (h : l.length = n + 1) : ∃ l' c, l = l' ++ [c] := ⟨l.dropLast, l.getLast (by intro e; subst e; simp at h), (List.dropLast_concat_getLast _).symm⟩
/-- what a copy appends does not hang on the nodes that it does not read -/
theorem cpF_new {T : List Nod} {d : Nat → Nat} (hW : WF T d) : ∀ (f i : Nat) (p : Int) (m : Nat), i < T.length → T.length ≤ m → ∃ Y, 0 < Y.length ∧ ∀ X, Ext T X → X.length = m → cpF f X i p = X ++ Y := by
  intro f
  induction f with
  | zero =>
    intro i p m hi hm
    refine ⟨[cpN (ndA T i) p], by simp, fun X hX _ => ?_⟩
    show X ++ [cpN (ndA X i) p] = _
    rw [hX.eq i hi]
  | succ f ih =>
    intro i p m hi hm
    have key : ∀ (n : Nat) (l : List Nat), l.length = n → (∀ c ∈ l, c < T.length) → ∃ Y ks, 0 < Y.length ∧ ∀ X, Ext T X → X.length = m → cpS f X i p l = (X ++ Y, ks) := by
      intro n
      induction n with
      | zero =>
        intro l hl _
        obtain rfl := List.eq_nil_of_length_eq_zero hl
        refine ⟨[cpN (ndA T i) p], [], by simp, fun X hX _ => ?_⟩
        rw [cpS_nil, hX.eq i hi]
      | succ n ihn =>
        intro l hl hc
        obtain ⟨l', c, rfl⟩ := snocCases l n hl
        obtain ⟨Y, ks, h0, h1⟩ := ihn l' (by simpa using hl) (fun x hx => hc x (by simp [hx]))
        obtain ⟨Y2, h2, h3⟩ := ih c (m : Int) (m + Y.length) (hc c (by simp)) (by omega)
        refine ⟨Y ++ Y2, ks ++ [m + Y.length], by simp; omega, fun X hX hXm => ?_⟩
        rw [cpS_snoc, h1 X hX hXm]
        have e1 : Ext T (X ++ Y) := ⟨by rw [List.length_append]; have := hX.le; omega, fun j hj => by
          rw [← hX.eq j hj]
          have := hX.le
          unfold ndA
          rw [List.getD_eq_getElem?_getD, List.getD_eq_getElem?_getD, List.getElem?_append_left (by omega)]⟩
        show (cpF f (X ++ Y) c (X.length : Int), ks ++ [(X ++ Y).length]) = _
        rw [hXm, h3 (X ++ Y) e1 (by rw [List.length_append, hXm]), List.append_assoc, List.length_append, hXm]
    obtain ⟨Y, ks, h0, h1⟩ := key _ (ndA T i).ki rfl (fun c hc => (hW.ki i hi c hc).1)
    refine ⟨Y.set 0 (kiS (ndA Y 0) ks), by simpa using h0, fun X hX hXm => ?_⟩
    rw [cpF_succ, hX.eq i hi, h1 X hX hXm]
    show (X ++ Y).set X.length (kiS (ndA (X ++ Y) X.length) ks) = _
    rw [List.set_append_right _ _ (Nat.le_refl _), Nat.sub_self]
    congr 3
    unfold ndA
    rw [List.getD_eq_getElem?_getD, List.getD_eq_getElem?_getD, List.getElem?_append_right (Nat.le_refl _), Nat.sub_self]
theorem set_kis_nil (S : List Nod) (x : Nod) (p : Int) : (S ++ [cpN x p]).set S.length (kiS (ndA (S ++ [cpN x p]) S.length) []) = S ++ [cpN x p] := by
  rw [ndA_app, if_pos rfl, List.set_append_right _ _ (Nat.le_refl _), Nat.sub_self]
  rfl
theorem getD_of {l : List Nat} {k x : Nat} (h : l[k]? = some x) : l.getD k 0 = x := by rw [List.getD_eq_getElem?_getD, h]; rfl
/-- the part of the list that lies in a node -/
theorem rc_seg {T : List Nod} {d : Nat → Nat} (hW : WF T d) (l : List Nat) (hl : l.Nodup) : ∀ (f i a : Nat) (p : Int) (S : List Nod), i < T.length → (∀ m x, (und T f i)[m]? = some x → l[a + m]? = some x) →
    rcI T.length l (ndA T i).pa a a (rcA T l a) = (S, p) → rcA T l (a + (und T f i).length) = cpF f S i p := by
  intro f
  induction f with
  | zero =>
    intro i a p S hi hu hs
    have h0 : l.getD a 0 = i := getD_of (hu 0 i rfl)
    have hX := rcI_ext (l := l) (pa := (ndA T i).pa) (a := a) a _ (rcA_ext T l a) (by rw [rcA_len]; omega)
    rw [hs] at hX
    show (rcI T.length l (ndA T (l.getD a 0)).pa a a (rcA T l a)).1 ++ [cpN (ndA T (l.getD a 0)) (rcI T.length l (ndA T (l.getD a 0)).pa a a (rcA T l a)).2] = S ++ [cpN (ndA S i) p]
    rw [h0, hs, hX.eq i hi]
  | succ f ih =>
    intro i a p S hi hu hs
    have hua : l[a]? = some i := hu 0 i (by simp [und])
    have h0 : l.getD a 0 = i := getD_of hua
    have hX := rcI_ext (l := l) (pa := (ndA T i).pa) (a := a) a _ (rcA_ext T l a) (by rw [rcA_len]; omega)
    have hSl := rcI_len T.length l (ndA T i).pa a a (rcA T l a)
    rw [hs] at hX hSl
    rw [rcA_len] at hSl
    have hX : Ext T S := hX
    have hSl : S.length = T.length + a := hSl
    have key : ∀ (n : Nat) (l' r : List Nat), l'.length = n → (ndA T i).ki = l' ++ r → rcA T l (a + 1 + (l'.flatMap (und T f)).length) = (cpS f S i p l').1.set S.length (kiS (ndA (cpS f S i p l').1 S.length) (cpS f S i p l').2) := by
      intro n
      induction n with
      | zero =>
        intro l' r hl' _
        obtain rfl := List.eq_nil_of_length_eq_zero hl'
        rw [cpS_nil]
        show (rcI T.length l (ndA T (l.getD a 0)).pa a a (rcA T l a)).1 ++ [cpN (ndA T (l.getD a 0)) (rcI T.length l (ndA T (l.getD a 0)).pa a a (rcA T l a)).2] = (S ++ [cpN (ndA S i) p]).set S.length (kiS (ndA (S ++ [cpN (ndA S i) p]) S.length) [])
        rw [h0, hs, hX.eq i hi, set_kis_nil]
      | succ n ihn =>
        intro l2 r hl2 hk
        obtain ⟨l', c, rfl⟩ := snocCases l2 n hl2
        have hk' : (ndA T i).ki = l' ++ (c :: r) := by rw [hk, List.append_assoc]; rfl
        have hcm : c ∈ (ndA T i).ki := by rw [hk']; simp
        obtain ⟨hc, hcp⟩ := hW.ki i hi c hcm
        have hq := ihn l' (c :: r) (by simpa using hl2) hk'
        have hall : ∀ x ∈ l', x < T.length := fun x hx => (hW.ki i hi x (by rw [hk']; simp [hx])).1
        obtain ⟨k1, k2⟩ := cpS_ok (f := f) (i := i) (p := p) hW hX (l := l') hall
        obtain ⟨a1, ha1⟩ : ∃ a1, a1 = a + 1 + (l'.flatMap (und T f)).length := ⟨_, rfl⟩
        obtain ⟨X, hXd⟩ : ∃ X, X = (cpS f S i p l').1 := ⟨_, rfl⟩
        obtain ⟨ks, hks⟩ : ∃ ks, ks = (cpS f S i p l').2 := ⟨_, rfl⟩
        rw [← ha1, ← hXd, ← hks] at hq
        rw [← hXd, ← hks] at k1
        rw [← hXd] at k2
        have hXE : Ext T X := hX.trans k1.ext
        have hXl : X.length = T.length + a1 := by rw [k2, hSl, ha1]; omega
        have hQE : Ext T (X.set S.length (kiS (ndA X S.length) ks)) := ⟨by rw [List.length_set]; exact hXE.le, fun j hj => by rw [ndA_set (by omega), if_neg (by omega)]; exact hXE.eq j hj⟩
        have hui : rcI T.length l (ndA T c).pa a1 a1 (rcA T l a1) = (att T.length a (T.length + a1) (rcA T l a1), ((T.length + a : Nat) : Int)) := by
          refine rcI_one (by rw [h0, hcp]) a1 _ (by omega) (fun j hj hn e => ?_)
          rw [hcp] at e
          by_cases hjl : j < l.length
          · have e1 : l[j]? = some i := by
              rw [List.getD_eq_getElem?_getD, List.getElem?_eq_getElem hjl] at e
              rw [List.getElem?_eq_getElem hjl]
              exact congrArg some (Int.ofNat.inj e)
            have := (List.getElem?_inj (by exact hjl) hl).1 (e1.trans hua.symm)
            omega
          · have hj2 : j < a1 := hj
            have : l[a1]? = some c := by
              have := hu (1 + (l'.flatMap (und T f)).length) c (by
                unfold und
                rw [Nat.add_comm 1, List.getElem?_cons_succ, hk', List.flatMap_append, List.getElem?_append_right (Nat.le_refl _), Nat.sub_self, List.flatMap_cons]
                cases f <;> simp [und])
              rw [ha1, show a + 1 + (l'.flatMap (und T f)).length = a + (1 + (l'.flatMap (und T f)).length) by omega]
              exact this
            have := (List.getElem?_eq_some_iff.1 this).1
            omega
        rw [hq] at hui
        have hsub := ih c a1 ((T.length + a : Nat) : Int) (att T.length a (T.length + a1) (X.set S.length (kiS (ndA X S.length) ks))) hc (fun m x hm => by
          have := hu (1 + (l'.flatMap (und T f)).length + m) x (by
            unfold und
            rw [show 1 + (l'.flatMap (und T f)).length + m = ((l'.flatMap (und T f)).length + m) + 1 by omega, List.getElem?_cons_succ, hk', List.flatMap_append, List.getElem?_append_right (by omega), List.flatMap_cons, show (l'.flatMap (und T f)).length + m - (l'.flatMap (und T f)).length = m by omega,
              List.getElem?_append_left (List.getElem?_eq_some_iff.1 hm).1]
            exact hm)
          rw [ha1, show a + 1 + (l'.flatMap (und T f)).length + m = a + (1 + (l'.flatMap (und T f)).length + m) by omega]
          exact this) (by rw [hq]; exact hui)
        obtain ⟨Y, hY0, hY⟩ := cpF_new hW f c ((T.length + a : Nat) : Int) (T.length + a1) hc (by omega)
        have hQl : (X.set S.length (kiS (ndA X S.length) ks)).length = T.length + a1 := by rw [List.length_set, hXl]
        rw [hY _ (att_ext hQE _ _ (by rw [hQl]; omega)) (by rw [att_len, hQl])] at hsub
        rw [List.flatMap_append, List.length_append, show ([c].flatMap (und T f)).length = (und T f c).length by simp, show a + 1 + ((l'.flatMap (und T f)).length + (und T f c).length) = a1 + (und T f c).length by omega, hsub, cpS_snoc, ← hXd, ← hks, hSl, hY X hXE hXl]
        show att T.length a (T.length + a1) (X.set (T.length + a) (kiS (ndA X (T.length + a)) ks)) ++ Y = (X ++ Y).set (T.length + a) (kiS (ndA (X ++ Y) (T.length + a)) (ks ++ [X.length]))
        have hlt : T.length + a < X.length := by omega
        have e9 : ndA (X ++ Y) (T.length + a) = ndA X (T.length + a) := by
          unfold ndA
          rw [List.getD_eq_getElem?_getD, List.getD_eq_getElem?_getD, List.getElem?_append_left hlt]
        rw [List.set_append_left _ _ hlt, e9, hXl]
        congr 1
        unfold att
        rw [ndA_set hlt, if_pos rfl, List.set_set]
        rfl
    have hfin := key _ (ndA T i).ki [] rfl (by simp)
    rw [cpF_succ, hX.eq i hi, ← hfin]
    congr 1
    simp only [und, List.length_cons]
    omega
theorem rc_copy {T : List Nod} {d : Nat → Nat} (hW : WF T d) (f i : Nat) (hi : i < T.length) : rcA T (und T f i) (und T f i).length = cpF f T i (-1) := by
  have := rc_seg hW (und T f i) (und_nodup hW f i hi) f i 0 (-1) T hi (fun m x h => by rw [Nat.zero_add]; exact h) rfl
  rw [Nat.zero_add] at this
  exact this
theorem rcI_ki {N : Nat} {l : List Nat} {pa : Int} {a b : Nat} : ∀ (k : Nat) (S : List Nod), (∀ j, N ≤ j → (ndA S j).ki.length ≤ b) → ∀ j, N ≤ j → (ndA (rcI N l pa a k S).1 j).ki.length ≤ b + k := by
  intro k
  induction k with
  | zero => intro S h j hj; exact h j hj
  | succ k ih =>
    intro S h j hj
    have h1 := ih S h
    unfold rcI
    split
    · show (ndA (att N k (N + a) (rcI N l pa a k S).1) j).ki.length ≤ b + (k + 1)
      unfold att
      by_cases hl : N + k < (rcI N l pa a k S).1.length
      · rw [ndA_set hl]
        split
        · have := h1 (N + k) (by omega)
          show ((ndA (rcI N l pa a k S).1 (N + k)).ki ++ [N + a]).length ≤ _
          simp; omega
        · have := h1 j hj; omega
      · rw [List.set_eq_of_length_le (by omega)]
        have := h1 j hj; omega
    · have := h1 j hj; omega
theorem rcA_ki (T : List Nod) (l : List Nat) : ∀ a, a ≤ 400 → ∀ j, T.length ≤ j → (ndA (rcA T l a) j).ki.length ≤ a * 400 := by
  intro a
  induction a with
  | zero =>
    intro _ j hj
    have : ndA T j = n0 := by unfold ndA; rw [List.getD_eq_getElem?_getD, List.getElem?_eq_none (by omega)]; rfl
    show (ndA T j).ki.length ≤ _
    rw [this]; exact Nat.zero_le _
  | succ a ih =>
    intro ha j hj
    have h1 := rcI_ki (l := l) (pa := (ndA T (l.getD a 0)).pa) (a := a) a _ (ih (by omega)) j hj
    unfold rcA
    rw [ndA_app]
    split
    · exact Nat.zero_le _
    · omega
end Go.Proofs.YtimlmekgapdkiaaGreatDoor
namespace Go.Proofs.YtimlmekgapdkiaaGreatDoor
set_option linter.unusedVariables false
set_option linter.unusedSimpArgs false
open Go.RowKit Go.Cas

section
variable {w w' : World} {N B R L cap nT : Nat} {tv : Value} {xs : List Value} {τ σ : Nat → Nat} {M : List NV} {y : NV}
/-- a node with attributes of its own is appended -/
theorem RT.app2 {w6 : World} {gg cap6 : Nat} (h : RT B R L cap nT tv xs τ M w) (y : NV) (hya : w.ownsRow B 79 2 y.va y.x.at_.length (atc y.x.at_)) (hyt : ∀ k, y.va.ownBlock = some k → τ k = 0) (hyk : y.vk = .slice none 0 0 ∧ y.x.ki = []) (hrow : Row w6 gg 46 6 cap6 (M.length + 1) (M.flatMap nvc ++ nvc y))
    (hk : ∀ k, k < w.heap.size → k ≠ L → w6.heap[k]? = w.heap[k]?) (hs : w.heap.size ≤ w6.heap.size) (hg : gg = L ∨ w.heap.size ≤ gg) (hlt : gg < w6.heap.size) : RT B R gg cap6 nT tv xs (fun k => if k = gg then 2 else if y.va.ownBlock = some k then 5 + M.length else τ k) (M ++ [y]) (w6.setCell ⟨R, 0, none⟩ (.slice (some ⟨gg, 0, none⟩) (M.length + 1) cap6)) := by
  obtain ⟨u, hu⟩ : ∃ u, u = Value.slice (some ⟨gg, 0, none⟩) (M.length + 1) cap6 := ⟨_, rfl⟩
  rw [← hu]
  have hkR : ∀ k, k ≠ R → (w6.setCell ⟨R, 0, none⟩ u).heap[k]? = w6.heap[k]? := fun k hk => Below.heap_setCell w6 ⟨R, 0, none⟩ u k hk
  have hs6 : (w6.setCell ⟨R, 0, none⟩ u).heap.size = w6.heap.size := by simp [World.setCell]
  have hnL : ∀ k, τ k ≠ 2 → k ≠ L := fun k h1 e => h1 (by rw [e]; exact h.tL)
  have hnR : ∀ k, τ k ≠ 1 → k ≠ R := fun k h1 e => h1 (by rw [e]; exact h.tR)
  have hng0 : ∀ k, k < w.heap.size → τ k ≠ 2 → k ≠ gg := fun k h1 h2 e => by
    rcases hg with e2 | e2
    · exact hnL k h2 (e.trans e2)
    · omega
  have hng : ∀ k, τ k ≠ 0 → τ k ≠ 2 → k ≠ gg := fun k h1 h2 => hng0 k (h.tB k h1).2 h2
  have both : ∀ k, τ k ≠ 0 → τ k ≠ 2 → τ k ≠ 1 → (w6.setCell ⟨R, 0, none⟩ u).heap[k]? = w.heap[k]? := fun k h1 h2 h3 => (hkR k (hnR k h3)).trans (hk k (h.tB k h1).2 (hnL k h2))
  have hgR : gg ≠ R := fun e => hng R (by rw [h.tR]; omega) (by rw [h.tR]; omega) e.symm
  have key : ∀ k, τ k ≠ 0 → τ k ≠ 2 → (if k = gg then 2 else if y.va.ownBlock = some k then 5 + M.length else τ k) = τ k := fun k h1 h2 => by
    rw [if_neg (hng k h1 h2), if_neg (fun e => h1 (hyt k e))]
  have get : ∀ (q : Nat) z, (M ++ [y])[q]? = some z → (q = M.length ∧ z = y) ∨ M[q]? = some z := fun q z hz => by
    rcases Nat.lt_or_ge q M.length with e | e
    · rw [List.getElem?_append_left e] at hz; exact .inr hz
    · rw [List.getElem?_append_right e] at hz
      have h1 := (List.getElem?_eq_some_iff.1 hz).1
      have h2 : q - M.length = 0 := by simp at h1; omega
      rw [h2] at hz
      injection hz with hz
      exact .inl ⟨by omega, hz.symm⟩
  refine ⟨?_, ?_, own_keep h.ow (fun k e => ?_), fun i z hz => ?_, fun i z hz => ?_, ?_, if_pos rfl, fun k e => ?_, fun i z hz k e => ?_, fun k hf => ?_⟩
  · have : Bk w6 R 28 #[.slice (some ⟨L, 0, none⟩) M.length cap, tv] := (hk R h.ltR h.ne).trans h.root
    have := this.set_ 0 u
    rw [hu] at this ⊢
    simpa using this
  · rw [List.length_append, List.flatMap_append]
    refine Row.at_ ?_ (hkR gg hgR)
    simpa using hrow
  · have := h.tT k e
    exact both k (by omega) (by omega) (by omega)
  · rcases get i z hz with ⟨rfl, rfl⟩ | hz
    · refine own_keep hya (fun k e => ?_)
      have h0 := hyt k e
      exact (hkR k (hnR k (by omega))).trans (hk k (own_lt hya e).2 (hnL k (by omega)))
    · refine own_keep (h.at_ i z hz) (fun k e => ?_)
      have := h.tA i z hz k e
      exact both k (by omega) (by omega) (by omega)
  · rcases get i z hz with ⟨rfl, rfl⟩ | hz
    · rw [hyk.1, hyk.2]; exact RdZ.nil _ _ _
    · refine (h.ki i z hz).keep (fun k e => ?_) (fun k e => ?_)
      · have : τ k = 4 := e
        exact both k (by omega) (by omega) (by omega)
      · have e : τ k = 4 := e
        show (if k = gg then 2 else if y.va.ownBlock = some k then 5 + M.length else τ k) = 4
        rw [key k (by omega) (by omega)]; exact e
  · show (if R = gg then 2 else if y.va.ownBlock = some R then 5 + M.length else τ R) = 1
    rw [key R (by rw [h.tR]; omega) (by rw [h.tR]; omega)]; exact h.tR
  · have := h.tT k e
    show (if k = gg then 2 else if y.va.ownBlock = some k then 5 + M.length else τ k) = 3
    rw [key k (by omega) (by omega)]; exact this
  · rcases get i z hz with ⟨rfl, rfl⟩ | hz
    · show (if k = gg then 2 else if z.va.ownBlock = some k then 5 + M.length else τ k) = 5 + M.length
      rw [if_neg (hng0 k (own_lt hya e).2 (by rw [hyt k e]; omega)), if_pos e]
    · have := h.tA i z hz k e
      show (if k = gg then 2 else if y.va.ownBlock = some k then 5 + M.length else τ k) = 5 + i
      rw [key k (by omega) (by omega)]; exact this
  · rw [hs6]
    by_cases e : k = gg
    · subst e
      refine ⟨?_, hlt⟩
      rcases hg with e | e
      · rw [e]; exact (h.tB L (by rw [h.tL]; omega)).1
      · have := h.hB; omega
    · have hf : (if k = gg then 2 else if y.va.ownBlock = some k then 5 + M.length else τ k) ≠ 0 := hf
      rw [if_neg e] at hf
      by_cases e2 : y.va.ownBlock = some k
      · have := own_lt hya e2; omega
      · rw [if_neg e2] at hf
        have := h.tB k hf; omega
/-- the tree, its nodes from N on new; σ: whose kids lie there -/
structure RC (N B R L cap nT : Nat) (tv : Value) (xs : List Value) (τ σ : Nat → Nat) (M : List NV) (w : World) : Prop where
  rt : RT B R L cap nT tv xs τ M w
  pos : 0 < N
  old : ∀ (i : Nat) y, M[i]? = some y → i < N → RdZ w (fun k => τ k = 4 ∧ σ k = 0) 1 y.vk y.x.ki.length (kic y.x.ki)
  new : ∀ (i : Nat) y, M[i]? = some y → N ≤ i → w.ownsRow B 3 1 y.vk y.x.ki.length (kic y.x.ki) ∧ ∀ k, y.vk.ownBlock = some k → τ k = 4 ∧ σ k = i
theorem RC.start (h : RT B R L cap nT tv xs τ M w) (hN : M.length = N) (h0 : 0 < N) : RC N B R L cap nT tv xs τ (fun _ => 0) M w :=
  ⟨h, h0, fun i y hy _ => (h.ki i y hy).keep (fun _ _ => rfl) (fun _ e => ⟨e, rfl⟩), fun i y hy hi => by have := (List.getElem?_eq_some_iff.1 hy).1; omega⟩
theorem RC.keep (h : RC N B R L cap nT tv xs τ σ M w) (hk : ∀ k, τ k ≠ 0 → w'.heap[k]? = w.heap[k]?) (hs : w.heap.size ≤ w'.heap.size) : RC N B R L cap nT tv xs τ σ M w' :=
  ⟨h.rt.keep hk hs, h.pos, fun i y hy hi => (h.old i y hy hi).keep (fun k e => hk k (by rw [e.1]; omega)) (fun _ e => e), fun i y hy hi => ⟨own_keep (h.new i y hy hi).1 (fun k e => hk k (by rw [((h.new i y hy hi).2 k e).1]; omega)), (h.new i y hy hi).2⟩⟩
theorem RC.below (h : RC N B R L cap nT tv xs τ σ M w) (hb : Below w.heap.size w w') : RC N B R L cap nT tv xs τ σ M w' := h.keep (fun k e => hb.block k (h.rt.tB k e).2) hb.size
theorem RC.app {w6 : World} {gg cap6 : Nat} (h : RC N B R L cap nT tv xs τ σ M w) (hN : N ≤ M.length) (y : NV) (hya : w.ownsRow B 79 2 y.va y.x.at_.length (atc y.x.at_)) (hyt : ∀ k, y.va.ownBlock = some k → τ k = 0) (hyk : y.vk = .slice none 0 0 ∧ y.x.ki = []) (hrow : Row w6 gg 46 6 cap6 (M.length + 1) (M.flatMap nvc ++ nvc y))
    (hk : ∀ k, k < w.heap.size → k ≠ L → w6.heap[k]? = w.heap[k]?) (hs : w.heap.size ≤ w6.heap.size) (hg : gg = L ∨ w.heap.size ≤ gg) (hlt : gg < w6.heap.size) : RC N B R gg cap6 nT tv xs (fun k => if k = gg then 2 else if y.va.ownBlock = some k then 5 + M.length else τ k) σ (M ++ [y]) (w6.setCell ⟨R, 0, none⟩ (.slice (some ⟨gg, 0, none⟩) (M.length + 1) cap6)) := by
  have h4 : ∀ k, τ k = 4 → (if k = gg then 2 else if y.va.ownBlock = some k then 5 + M.length else τ k) = 4 ∧ (w6.setCell ⟨R, 0, none⟩ (.slice (some ⟨gg, 0, none⟩) (M.length + 1) cap6)).heap[k]? = w.heap[k]? := fun k e => by
    have hnR : k ≠ R := fun e2 => by have := h.rt.tR; rw [← e2] at this; omega
    have hnL : k ≠ L := fun e2 => by have := h.rt.tL; rw [← e2] at this; omega
    have hlt := (h.rt.tB k (by omega)).2
    refine ⟨?_, (Below.heap_setCell w6 ⟨R, 0, none⟩ _ k hnR).trans (hk k hlt hnL)⟩
    rw [if_neg (fun e2 => by rcases hg with e3 | e3 <;> omega), if_neg (fun e2 => by have := hyt k e2; omega)]
    exact e
  have get : ∀ (q : Nat) z, (M ++ [y])[q]? = some z → (q = M.length ∧ z = y) ∨ M[q]? = some z := fun q z hz => by
    rcases Nat.lt_or_ge q M.length with e | e
    · rw [List.getElem?_append_left e] at hz; exact .inr hz
    · rw [List.getElem?_append_right e] at hz
      have h1 := (List.getElem?_eq_some_iff.1 hz).1
      have h2 : q - M.length = 0 := by simp at h1; omega
      rw [h2] at hz
      injection hz with hz
      exact .inl ⟨by omega, hz.symm⟩
  refine ⟨h.rt.app2 y hya hyt hyk hrow hk hs hg hlt, h.pos, fun i z hz hi => ?_, fun i z hz hi => ?_⟩
  · rcases get i z hz with ⟨rfl, rfl⟩ | hz
    · omega
    · exact (h.old i z hz hi).keep (fun k e => (h4 k e.1).2) (fun k e => ⟨(h4 k e.1).1, e.2⟩)
  · rcases get i z hz with ⟨rfl, rfl⟩ | hz
    · rw [hyk.1, hyk.2]
      exact ⟨World.ownsRow_nil _ _ _ _, fun k e => by cases e⟩
    · obtain ⟨h1, h2⟩ := h.new i z hz hi
      exact ⟨own_keep h1 (fun k e => (h4 k (h2 k e).1).2), fun k e => ⟨(h4 k (h2 k e).1).1, (h2 k e).2⟩⟩
/-- a kid is hung in a new node -/
theorem RC.kid {w6 : World} {j m : Nat} {v' : Value} (h : RC N B R L cap nT tv xs τ σ M w) (hy : M[j]? = some y) (hN : N ≤ j) (hp : Pushed w B 3 1 y.vk y.x.ki.length (kic y.x.ki) [.int .i64 (m : Int)] v' w6) :
    RC N B R L cap nT tv xs (fun k => if v'.ownBlock = some k then 4 else τ k) (fun k => if v'.ownBlock = some k then j else σ k) (M.set j ⟨kiS y.x (y.x.ki ++ [m]), y.va, v'⟩) (w6.setCell ⟨L, j * 6 + 5, none⟩ v') := by
  obtain ⟨hown, htag⟩ := h.new j y hy hN
  have hpos := h.pos
  have ha : ∀ k, v'.ownBlock = some k → y.vk.ownBlock = some k ∨ w.heap.size ≤ k := fun k e => by
    rcases hp.at_ with e2 | ⟨q, hq, e2⟩
    · exact .inl (e2 ▸ e)
    · rw [e2] at e; injection e with e; exact .inr (by omega)
  have hblk : ∀ k, k < w.heap.size → y.vk.ownBlock ≠ some k → w6.heap[k]? = w.heap[k]? := fun k hk hn => hp.grown.block k hk (fun e => hn e.symm)
  have hs := hp.size_
  have hkL : ∀ k, k ≠ L → (w6.setCell ⟨L, j * 6 + 5, none⟩ v').heap[k]? = w6.heap[k]? := fun k hk => Below.heap_setCell w6 ⟨L, j * 6 + 5, none⟩ v' k hk
  have hs6 : (w6.setCell ⟨L, j * 6 + 5, none⟩ v').heap.size = w6.heap.size := by simp [World.setCell]
  have hnL : ∀ k, τ k ≠ 2 → k ≠ L := fun k h1 e => h1 (by rw [e]; exact h.rt.tL)
  have hn4 : ∀ k, τ k ≠ 0 → τ k ≠ 4 → w6.heap[k]? = w.heap[k]? := fun k h1 h2 => hblk k (h.rt.tB k h1).2 (fun e => h2 (htag k e).1)
  have key : ∀ k, τ k ≠ 0 → τ k ≠ 4 → (if v'.ownBlock = some k then 4 else τ k) = τ k := fun k h1 h2 => if_neg (fun e => by
    rcases ha k e with e | e
    · exact h2 (htag k e).1
    · have := (h.rt.tB k h1).2; omega)
  have both : ∀ k, τ k ≠ 0 → τ k ≠ 4 → τ k ≠ 2 → (w6.setCell ⟨L, j * 6 + 5, none⟩ v').heap[k]? = w.heap[k]? := fun k h1 h2 h3 => (hkL k (hnL k h3)).trans (hn4 k h1 h2)
  have key4 : ∀ k, τ k = 4 → σ k ≠ j → v'.ownBlock ≠ some k ∧ (w6.setCell ⟨L, j * 6 + 5, none⟩ v').heap[k]? = w.heap[k]? := fun k h1 h2 => by
    have hlt := (h.rt.tB k (by omega)).2
    refine ⟨fun e => ?_, (hkL k (hnL k (by omega))).trans (hblk k hlt (fun e => h2 (htag k e).2))⟩
    rcases ha k e with e | e
    · exact h2 (htag k e).2
    · omega
  have get : ∀ (q : Nat) (z' z : NV), (M.set j z')[q]? = some z → (q = j ∧ z = z') ∨ (q ≠ j ∧ M[q]? = some z) := fun q z' z hz => by
    rw [List.getElem?_set] at hz
    by_cases e : j = q
    · rw [if_pos e] at hz
      split at hz
      · injection hz with hz; exact .inl ⟨e.symm, hz.symm⟩
      · cases hz
    · rw [if_neg e] at hz; exact .inr ⟨fun e2 => e e2.symm, hz⟩
  have hkl : (kiS y.x (y.x.ki ++ [m])).ki = y.x.ki ++ [m] := rfl
  have hkn : (kiS y.x (y.x.ki ++ [m])).ki.length = y.x.ki.length + 1 := by rw [hkl]; simp
  have hko : (w6.setCell ⟨L, j * 6 + 5, none⟩ v').ownsRow B 3 1 v' (kiS y.x (y.x.ki ++ [m])).ki.length (kic (kiS y.x (y.x.ki ++ [m])).ki) := by
    rw [hkn, hkl, kic_app]
    refine own_keep hp.own (fun k e => hkL k (fun e2 => ?_))
    subst e2
    rcases ha k e with e | e
    · have := (htag k e).1; have := h.rt.tL; omega
    · have := h.rt.ltL; omega
  have hset : (nvc y).set 5 v' = nvc ⟨kiS y.x (y.x.ki ++ [m]), y.va, v'⟩ := rfl
  have hro : Row w6 L 46 6 cap M.length (M.flatMap nvc) := h.rt.row.at_ (hn4 L (by rw [h.rt.tL]; omega) (by rw [h.rt.tL]; omega))
  have hold : ∀ (q : Nat) z, M[q]? = some z → q < N → RdZ (w6.setCell ⟨L, j * 6 + 5, none⟩ v') (fun k => (if v'.ownBlock = some k then 4 else τ k) = 4 ∧ (if v'.ownBlock = some k then j else σ k) = 0) 1 z.vk z.x.ki.length (kic z.x.ki) := fun q z hz hq =>
    (h.old q z hz hq).keep (fun k e => (key4 k e.1 (by rw [e.2]; omega)).2) (fun k e => by
      have h1 := (key4 k e.1 (by rw [e.2]; omega)).1
      rw [if_neg h1, if_neg h1]; exact e)
  have hnew : ∀ (q : Nat) z, M[q]? = some z → N ≤ q → q ≠ j → (w6.setCell ⟨L, j * 6 + 5, none⟩ v').ownsRow B 3 1 z.vk z.x.ki.length (kic z.x.ki) ∧ ∀ k, z.vk.ownBlock = some k → (if v'.ownBlock = some k then 4 else τ k) = 4 ∧ (if v'.ownBlock = some k then j else σ k) = q := fun q z hz hq hqj => by
    obtain ⟨h1, h2⟩ := h.new q z hz hq
    refine ⟨own_keep h1 (fun k e => (key4 k (h2 k e).1 (by rw [(h2 k e).2]; exact hqj)).2), fun k e => ?_⟩
    have h3 := (key4 k (h2 k e).1 (by rw [(h2 k e).2]; exact hqj)).1
    rw [if_neg h3, if_neg h3]; exact h2 k e
  have htg : ∀ k, v'.ownBlock = some k → (if v'.ownBlock = some k then 4 else τ k) = 4 ∧ (if v'.ownBlock = some k then j else σ k) = j := fun k e => ⟨if_pos e, if_pos e⟩
  refine ⟨⟨?_, ?_, own_keep h.rt.ow (fun k e => ?_), fun q z hz => ?_, fun q z hz => ?_, ?_, ?_, fun k e => ?_, fun q z hz k e => ?_, fun k hf => ?_⟩, h.pos, fun q z hz hq => ?_, fun q z hz hq => ?_⟩
  · rw [List.length_set]
    have : Bk w6 R 28 #[.slice (some ⟨L, 0, none⟩) M.length cap, tv] := (hn4 R (by rw [h.rt.tR]; omega) (by rw [h.rt.tR]; omega)).trans h.rt.root
    exact this.far (p := ⟨L, j * 6 + 5, none⟩) h.rt.ne v'
  · obtain ⟨cur, h1, h2, h3, h4, h5, h6⟩ := hro
    refine ⟨cur.setIfInBounds (j * 6 + 5) v', ?_, by simpa using h2, ?_, by rw [List.length_set]; exact h4, h5, by rw [List.length_set]; exact nvs_len _ |>.trans (by rw [List.length_set])⟩
    · simp [World.setCell, Array.getElem?_modify, h1]
    · rw [List.length_set, ← flat_set nvc 6 (fun _ => rfl) M j 5 y _ v' hy (by omega) hset, ← h3, Array.toList_setIfInBounds, List.take_set]
  · have := h.rt.tT k e
    exact both k (by omega) (by omega) (by omega)
  · rcases get q _ z hz with ⟨rfl, rfl⟩ | ⟨hq, hz⟩
    · refine own_keep (h.rt.at_ q y hy) (fun k e => ?_)
      have := h.rt.tA q y hy k e
      exact both k (by omega) (by omega) (by omega)
    · refine own_keep (h.rt.at_ q z hz) (fun k e => ?_)
      have := h.rt.tA q z hz k e
      exact both k (by omega) (by omega) (by omega)
  · rcases get q _ z hz with ⟨rfl, rfl⟩ | ⟨hq, hz⟩
    · exact RdZ.of_own hko (fun k e => (htg k e).1)
    · by_cases hqN : q < N
      · exact (hold q z hz hqN).keep (fun _ _ => rfl) (fun _ e => e.1)
      · exact RdZ.of_own (hnew q z hz (by omega) hq).1 (fun k e => ((hnew q z hz (by omega) hq).2 k e).1)
  · show (if v'.ownBlock = some R then 4 else τ R) = 1
    rw [key R (by rw [h.rt.tR]; omega) (by rw [h.rt.tR]; omega)]; exact h.rt.tR
  · show (if v'.ownBlock = some L then 4 else τ L) = 2
    rw [key L (by rw [h.rt.tL]; omega) (by rw [h.rt.tL]; omega)]; exact h.rt.tL
  · have := h.rt.tT k e
    show (if v'.ownBlock = some k then 4 else τ k) = 3
    rw [key k (by omega) (by omega)]; exact this
  · have key5 : ∀ i, τ k = 5 + i → (if v'.ownBlock = some k then 4 else τ k) = 5 + i := fun i e => by rw [key k (by omega) (by omega)]; exact e
    rcases get q _ z hz with ⟨rfl, rfl⟩ | ⟨hq, hz⟩
    · exact key5 _ (h.rt.tA q y hy k e)
    · exact key5 _ (h.rt.tA q z hz k e)
  · rw [hs6]
    by_cases e : v'.ownBlock = some k
    · exact own_lt hp.own e
    · have hf : (if v'.ownBlock = some k then 4 else τ k) ≠ 0 := hf
      rw [if_neg e] at hf
      have := h.rt.tB k hf; omega
  · rcases get q _ z hz with ⟨rfl, rfl⟩ | ⟨hqj, hz⟩
    · omega
    · exact hold q z hz hq
  · rcases get q _ z hz with ⟨rfl, rfl⟩ | ⟨hqj, hz⟩
    · exact ⟨hko, htg⟩
    · exact hnew q z hz hq hqj
end
/-- the tree behind some of the new nodes -/
def CpL (B R nT : Nat) (tv : Value) (xs : List Value) (τ2 : Nat → Nat) (T : List Nod) (U : List Nod) (w2 wr : World) : Prop :=
  ∃ L cap τ σ M, RC T.length B R L cap nT tv xs τ σ M wr ∧ M.map NV.x = U ∧ (∀ k, k < w2.heap.size → τ k ≠ 0 → τ2 k ≠ 0) ∧ Kept w2 wr (fun k => τ2 k ≠ 0)
/-- the tree while a node is copied; the round's own blocks lie in lo..hi, the new node in bc -/
structure CpJ (B R L cap nT : Nat) (tv : Value) (xs : List Value) (τ σ : Nat → Nat) (M : List NV) (τ2 : Nat → Nat) (T U : List Nod) (bc lo hi : Nat) (cs : Array Value) (w2 wh wx : World) : Prop where
  rc : RC T.length B R L cap nT tv xs τ σ M wx
  mp : M.map NV.x = U
  lt : ∀ k, k < w2.heap.size → τ k ≠ 0 → τ2 k ≠ 0
  kp : Kept w2 wx (fun k => τ2 k ≠ 0)
  zr : ∀ k, lo ≤ k → k < hi → τ k = 0
  hs : hi ≤ wx.heap.size
  bd : w2.heap.size ≤ lo ∧ lo ≤ bc ∧ bc < hi
  sm : ∀ k, lo ≤ k → k < hi → k ≠ bc → wx.heap[k]? = wh.heap[k]?
  bk : Bk wx bc 46 cs
section
variable {B R L cap nT : Nat} {tv : Value} {xs : List Value} {τ σ : Nat → Nat} {M : List NV} {τ2 : Nat → Nat} {T U : List Nod} {bc lo hi : Nat} {cs : Array Value} {w2 wh wx w' : World}
theorem CpJ.below (h : CpJ B R L cap nT tv xs τ σ M τ2 T U bc lo hi cs w2 wh wx) (hb : Below wx.heap.size wx w') : CpJ B R L cap nT tv xs τ σ M τ2 T U bc lo hi cs w2 wh w' :=
  ⟨h.rc.below hb, h.mp, h.lt, h.kp.then_ (Kept.of_below hb (fun _ => False)) (fun _ _ e => e.elim), h.zr, Nat.le_trans h.hs hb.size, h.bd, fun k h1 h2 h3 => (hb.block k (Nat.lt_of_lt_of_le h2 h.hs)).trans (h.sm k h1 h2 h3), h.bk.below hb h.bk.lt⟩
theorem CpJ.setC (h : CpJ B R L cap nT tv xs τ σ M τ2 T U bc lo hi cs w2 wh wx) (j : Nat) (u : Value) : CpJ B R L cap nT tv xs τ σ M τ2 T U bc lo hi (cs.setIfInBounds j u) w2 wh (wx.setCell ⟨bc, j, none⟩ u) := by
  have hs : (wx.setCell ⟨bc, j, none⟩ u).heap.size = wx.heap.size := by simp [World.setCell]
  have h0 := h.zr bc h.bd.2.1 h.bd.2.2
  exact ⟨h.rc.keep (fun k e => Below.heap_setCell wx ⟨bc, j, none⟩ u k (fun e2 => e (by rw [show k = bc from e2]; exact h0))) (Nat.le_of_eq hs.symm), h.mp, h.lt, h.kp.set_ bc j (fun hk => by have := h.bd; omega) u, h.zr, by rw [hs]; exact h.hs, h.bd, fun k h1 h2 h3 => (Below.heap_setCell wx ⟨bc, j, none⟩ u k h3).trans (h.sm k h1 h2 h3), h.bk.set_ j u⟩
theorem CpJ.kid {w9 : World} {j m : Nat} {y : NV} {v' : Value} (h : CpJ B R L cap nT tv xs τ σ M τ2 T U bc lo hi cs w2 wh wx) (hy : M[j]? = some y) (hN : T.length ≤ j) (hp : Pushed wx B 3 1 y.vk y.x.ki.length (kic y.x.ki) [.int .i64 (m : Int)] v' w9) :
    ∃ τ' σ', CpJ B R L cap nT tv xs τ' σ' (M.set j ⟨kiS y.x (y.x.ki ++ [m]), y.va, v'⟩) τ2 T (U.set j (kiS y.x (y.x.ki ++ [m]))) bc lo hi cs w2 wh (w9.setCell ⟨L, j * 6 + 5, none⟩ v') := by
  obtain ⟨hown, htag⟩ := h.rc.new j y hy hN
  have ha : ∀ k, v'.ownBlock = some k → τ k = 4 ∨ wx.heap.size ≤ k := fun k e => by
    rcases hp.at_ with e2 | ⟨q, hq, e2⟩
    · exact .inl (htag k (e2 ▸ e)).1
    · rw [e2] at e; injection e with e; exact .inr (by omega)
  have hs := hp.size_
  have hs9 : (w9.setCell ⟨L, j * 6 + 5, none⟩ v').heap.size = w9.heap.size := by simp [World.setCell]
  have hL := h.rc.rt.tL
  have hhi := h.hs
  have hk2 := h.kp.size
  refine ⟨_, _, h.rc.kid hy hN hp, by rw [List.map_set, h.mp], fun k hk hf => ?_, ?_, fun k h1 h2 => ?_, by rw [hs9]; omega, h.bd, fun k h1 h2 h3 => ?_, ?_⟩
  · by_cases e : v'.ownBlock = some k
    · rcases ha k e with e2 | e2
      · exact h.lt k hk (by omega)
      · omega
    · have hf : (if v'.ownBlock = some k then 4 else τ k) ≠ 0 := hf
      rw [if_neg e] at hf
      exact h.lt k hk hf
  · exact (h.kp.then_ (Kept.grown hp.grown (fun k => y.vk.ownBlock = some k) (fun k e => e)) (fun k hk e => h.lt k hk (by rw [(htag k e).1]; omega))).set_ L _ (fun hk => h.lt L hk (by omega)) v'
  · show (if v'.ownBlock = some k then 4 else τ k) = 0
    have h0 := h.zr k h1 h2
    rw [if_neg (fun e => by rcases ha k e with e2 | e2 <;> omega)]
    exact h0
  · have h0 := h.zr k h1 h2
    exact (Below.heap_setCell w9 ⟨L, j * 6 + 5, none⟩ v' k (fun e => by rw [show k = L from e] at h0; omega)).trans ((hp.grown.block k (by omega) (fun e => by have := (htag k e.symm).1; omega)).trans (h.sm k h1 h2 h3))
  · have h0 := h.zr bc h.bd.2.1 h.bd.2.2
    exact (h.bk.grown hp.grown (fun e => by have := (htag bc e.symm).1; omega)).far (p := ⟨L, j * 6 + 5, none⟩) (fun e => by rw [show bc = L from e] at h0; omega) v'
theorem CpJ.app {w6 wy : World} {gg cap6 : Nat} (h : CpJ B R L cap nT tv xs τ σ M τ2 T U bc lo hi cs w2 wh wx) (hN : T.length ≤ M.length) (y : NV) (hya : wh.ownsRow B 79 2 y.va y.x.at_.length (atc y.x.at_)) (hyt : ∀ k, y.va.ownBlock = some k → lo ≤ k ∧ k < hi ∧ k ≠ bc) (hyk : y.vk = .slice none 0 0 ∧ y.x.ki = []) (hb : Below wx.heap.size wx wy) (hrow : Row w6 gg 46 6 cap6 (M.length + 1) (M.flatMap nvc ++ nvc y))
    (hg6 : wy.grownBy w6 (some L)) (hg : gg = L ∨ wy.heap.size ≤ gg) (hlt : gg < w6.heap.size) : CpL B R nT tv xs τ2 T (U ++ [y.x]) w2 (w6.setCell ⟨R, 0, none⟩ (.slice (some ⟨gg, 0, none⟩) (M.length + 1) cap6)) := by
  have hL := h.rc.rt.tL
  have hR := h.rc.rt.tR
  have hbs := hb.size
  have hk2 := h.kp.size
  have hrcy := h.rc.below hb
  have hyaX : wy.ownsRow B 79 2 y.va y.x.at_.length (atc y.x.at_) := own_keep hya (fun k e => by
    obtain ⟨a1, a2, a3⟩ := hyt k e
    exact (hb.block k (Nat.lt_of_lt_of_le a2 h.hs)).trans (h.sm k a1 a2 a3))
  refine ⟨gg, cap6, _, _, _, hrcy.app hN y hyaX (fun k e => h.zr k (hyt k e).1 (hyt k e).2.1) hyk hrow (fun k hk hn => hg6.block k hk (fun e => hn (Option.some.inj e))) hg6.size hg hlt, by rw [List.map_append, h.mp]; rfl, fun k hk hf => ?_, ?_⟩
  · have hf : (if k = gg then 2 else if y.va.ownBlock = some k then 5 + M.length else τ k) ≠ 0 := hf
    by_cases e : k = gg
    · rcases hg with e2 | e2
      · exact h.lt k hk (by rw [e, e2, hL]; omega)
      · omega
    · rw [if_neg e] at hf
      by_cases e2 : y.va.ownBlock = some k
      · have := (hyt k e2).1; have := h.bd; omega
      · rw [if_neg e2] at hf; exact h.lt k hk hf
  · exact ((h.kp.then_ (Kept.of_below hb (fun _ => False)) (fun _ _ e => e.elim)).then_ (Kept.grown hg6 (fun k => k = L) (fun k e => (Option.some.inj e).symm)) (fun k hk e => h.lt k hk (by rw [e, hL]; omega))).set_ R 0 (fun hk => h.lt R hk (by rw [hR]; omega)) _
end
end Go.Proofs.YtimlmekgapdkiaaGreatDoor
