/- plain (no program): trees of nodes; the order of two; plain (no program): what lies in a node; trees that grow; plain (no program): a node cut out of where it is; one that is put somewhere; plain (no program): the tree of a list of twigs -/
import Derived.Below
namespace Go.Cas
set_option linter.unusedVariables false
set_option linter.unusedSimpArgs false

/-- a node: kind, tag, text, attributes, parent (-1: none), kids -/
structure Nod where
  k : Int
  tag : ByteArray
  txt : ByteArray
  at_ : List (ByteArray × ByteArray)
  pa : Int
  ki : List Nat
def n0 : Nod := ⟨0, ByteArray.empty, ByteArray.empty, [], -1, []⟩
def ndA (T : List Nod) (i : Nat) : Nod := T.getD i n0
theorem ndA_eq {T : List Nod} {i : Nat} {x : Nod} (h : T[i]? = some x) : ndA T i = x := by unfold ndA; rw [List.getD_eq_getElem?_getD, h]; rfl
theorem ndA_get {T : List Nod} {i : Nat} (h : i < T.length) : T[i]? = some (ndA T i) := by rw [List.getElem?_eq_getElem h, ndA_eq (List.getElem?_eq_getElem h)]
/-- a forest: parents and kids say the same, nobody stands above himself -/
structure WF (T : List Nod) (d : Nat → Nat) : Prop where
  pa : ∀ i, i < T.length → (ndA T i).pa = -1 ∨ (0 ≤ (ndA T i).pa ∧ (ndA T i).pa.toNat < T.length)
  ki : ∀ p, p < T.length → ∀ k ∈ (ndA T p).ki, k < T.length ∧ (ndA T k).pa = (p : Int)
  nd : ∀ p, p < T.length → (ndA T p).ki.Nodup
  up : ∀ i, i < T.length → 0 ≤ (ndA T i).pa → i ∈ (ndA T (ndA T i).pa.toNat).ki
  ac : ∀ i, i < T.length → 0 ≤ (ndA T i).pa → d (ndA T i).pa.toNat < d i
/-- the way from the root down to a node -/
inductive Way (T : List Nod) : Nat → List Nat → Prop
  | root {i : Nat} : (ndA T i).pa < 0 → Way T i [i]
  | step {i p : Nat} {l : List Nat} : (ndA T i).pa = (p : Int) → Way T p l → Way T i (l ++ [i])
theorem Way.ne {T : List Nod} {i : Nat} {l : List Nat} (h : Way T i l) : l ≠ [] := by cases h <;> simp
theorem Way.last {T : List Nod} {i : Nat} {l : List Nat} (h : Way T i l) : l.getLast h.ne = i := by cases h <;> simp
theorem Way.uniq {T : List Nod} {i : Nat} {l l' : List Nat} (h : Way T i l) (h' : Way T i l') : l = l' := by
  induction h generalizing l' with
  | root h => cases h' with
    | root _ => rfl
    | step e _ => omega
  | step e hw ih => cases h' with
    | root h => omega
    | step e' hw' =>
      obtain rfl := Int.ofNat.inj (e.symm.trans e')
      rw [ih hw']
theorem Way.ex {T : List Nod} {d : Nat → Nat} (h : WF T d) : ∀ (n i : Nat), d i ≤ n → i < T.length → ∃ l, Way T i l := by
  intro n
  induction n with
  | zero =>
    intro i hd hi
    rcases h.pa i hi with e | ⟨e1, e2⟩
    · exact ⟨[i], .root (by omega)⟩
    · have := h.ac i hi e1; omega
  | succ n ih =>
    intro i hd hi
    rcases h.pa i hi with e | ⟨e1, e2⟩
    · exact ⟨[i], .root (by omega)⟩
    · have := h.ac i hi e1
      obtain ⟨l, hl⟩ := ih _ (by omega) e2
      exact ⟨l ++ [i], .step (by omega) hl⟩
theorem Way.lt {T : List Nod} {d : Nat → Nat} (h : WF T d) {i : Nat} {l : List Nat} (hw : Way T i l) (hi : i < T.length) : ∀ x ∈ l, x < T.length := by
  induction hw with
  | root _ => intro x hx; simp at hx; omega
  | @step i p l e _ ih =>
    intro x hx
    rcases List.mem_append.1 hx with hx | hx
    · refine ih ?_ x hx
      rcases h.pa i hi with e1 | ⟨_, e2⟩
      · omega
      · rw [e] at e2; exact e2
    · simp at hx; omega
/-- along a way each is a kid of the one ahead -/
theorem Way.next {T : List Nod} {d : Nat → Nat} (h : WF T d) {i : Nat} {l : List Nat} (hw : Way T i l) (hi : i < T.length) : ∀ j a b, l[j]? = some a → l[j + 1]? = some b → b ∈ (ndA T a).ki := by
  induction hw with
  | root _ => intro j a b _ hb; simp at hb
  | @step i p l e hw ih =>
    intro j a b ha hb
    have hp : p < T.length := by
      rcases h.pa i hi with e1 | ⟨_, e2⟩
      · omega
      · rw [e] at e2; exact e2
    by_cases hj : j + 1 < l.length
    · rw [List.getElem?_append_left (by omega)] at ha hb
      exact ih hp j a b ha hb
    · have hj2 : j + 1 < (l ++ [i]).length := (List.getElem?_eq_some_iff.1 hb).1
      have hj3 : j + 1 = l.length := by simp at hj2; omega
      rw [List.getElem?_append_right (by omega), hj3] at hb
      rw [List.getElem?_append_left (by omega)] at ha
      simp at hb
      subst hb
      have hl := hw.last
      rw [List.getLast_eq_getElem] at hl
      have : l[j]? = some p := by
        rw [List.getElem?_eq_getElem (by omega)]
        congr 1
        refine Eq.trans ?_ hl
        congr 1; omega
      rw [this] at ha
      injection ha with ha
      subst ha
      have := h.up i hi (by omega)
      rw [e] at this
      exact this
/-- what the order of two ways is -/
def ixOf (l : List Nat) (x : Nat) : Nat := l.idxOf x
def cmpW (T : List Nod) : Nat → List Nat → List Nat → Int
  | _, [], [] => 0
  | _, [], _ :: _ => -1
  | _, _ :: _, [] => 1
  | p, x :: xs, y :: ys => if x = y then cmpW T x xs ys else if ixOf (ndA T p).ki x < ixOf (ndA T p).ki y then -1 else 1
/-- the numbers of kids along a way -/
def pos (T : List Nod) : Nat → List Nat → List Nat
  | _, [] => []
  | p, x :: xs => ixOf (ndA T p).ki x :: pos T x xs
def cmpL : List Nat → List Nat → Int
  | [], [] => 0
  | [], _ :: _ => -1
  | _ :: _, [] => 1
  | x :: xs, y :: ys => if x < y then -1 else if y < x then 1 else cmpL xs ys
def Chn (T : List Nod) : Nat → List Nat → Prop
  | _, [] => True
  | p, x :: xs => x ∈ (ndA T p).ki ∧ Chn T x xs
theorem cmp_eq {T : List Nod} : ∀ (xs ys : List Nat) (p : Nat), Chn T p xs → Chn T p ys → cmpW T p xs ys = cmpL (pos T p xs) (pos T p ys) := by
  intro xs
  induction xs with
  | nil => intro ys p _ _; cases ys <;> rfl
  | cons x xs ih =>
    intro ys p h1 h2
    cases ys with
    | nil => rfl
    | cons y ys =>
      simp only [cmpW, pos, cmpL]
      by_cases e : x = y
      · subst e
        rw [if_pos rfl, if_neg (by omega), if_neg (by omega)]
        exact ih ys x h1.2 h2.2
      · rw [if_neg e]
        have hne : ixOf (ndA T p).ki x ≠ ixOf (ndA T p).ki y := fun e2 => e (by
          have e1 := List.getElem_idxOf (List.idxOf_lt_length_of_mem h1.1)
          have e3 := List.getElem_idxOf (List.idxOf_lt_length_of_mem h2.1)
          unfold ixOf at e2
          rw [← e1, ← e3]
          congr 1)
        by_cases hlt : ixOf (ndA T p).ki x < ixOf (ndA T p).ki y
        · rw [if_pos hlt, if_pos hlt]
        · rw [if_neg hlt, if_neg hlt, if_pos (by omega)]
theorem pos_inj {T : List Nod} : ∀ (xs ys : List Nat) (p : Nat), Chn T p xs → Chn T p ys → pos T p xs = pos T p ys → xs = ys := by
  intro xs
  induction xs with
  | nil => intro ys p _ _ h; cases ys with
    | nil => rfl
    | cons y ys => simp [pos] at h
  | cons x xs ih =>
    intro ys p h1 h2 h
    cases ys with
    | nil => simp [pos] at h
    | cons y ys =>
      simp only [pos, List.cons.injEq] at h
      have e : x = y := by
        have e1 := List.getElem_idxOf (List.idxOf_lt_length_of_mem h1.1)
        have e3 := List.getElem_idxOf (List.idxOf_lt_length_of_mem h2.1)
        have e2 := h.1
        unfold ixOf at e2
        rw [← e1, ← e3]
        congr 1
      subst e
      rw [ih ys x h1.2 h2.2 h.2]
theorem cmpL_anti : ∀ (a b : List Nat), cmpL a b = - cmpL b a := by
  intro a
  induction a with
  | nil => intro b; cases b <;> rfl
  | cons x xs ih =>
    intro b
    cases b with
    | nil => rfl
    | cons y ys =>
      simp only [cmpL]
      rcases Nat.lt_trichotomy x y with h | h | h
      · rw [if_pos h, if_neg (by omega), if_pos h]
      · subst h; simp [ih ys]
      · rw [if_neg (by omega), if_pos h, if_pos h]; rfl
theorem cmpL_zero : ∀ (a b : List Nat), cmpL a b = 0 ↔ a = b := by
  intro a
  induction a with
  | nil => intro b; cases b <;> simp [cmpL]
  | cons x xs ih =>
    intro b
    cases b with
    | nil => simp [cmpL]
    | cons y ys =>
      simp only [cmpL, List.cons.injEq]
      rcases Nat.lt_trichotomy x y with h | h | h
      · rw [if_pos h]; constructor
        · intro h; omega
        · intro h; omega
      · subst h; simp [ih ys]
      · rw [if_neg (by omega), if_pos h]; constructor
        · intro h; omega
        · intro h; omega
theorem cmpL_trans : ∀ (a b c : List Nat), cmpL a b < 0 → cmpL b c < 0 → cmpL a c < 0 := by
  intro a
  induction a with
  | nil =>
    intro b c h1 h2
    cases c with
    | nil => cases b <;> simp [cmpL] at h1 h2
    | cons z zs => simp [cmpL]
  | cons x xs ih =>
    intro b c h1 h2
    cases b with
    | nil => simp [cmpL] at h1
    | cons y ys =>
      cases c with
      | nil => simp [cmpL] at h2
      | cons z zs =>
        simp only [cmpL] at h1 h2 ⊢
        by_cases e1 : x < y
        · by_cases e2 : y < z
          · rw [if_pos (by omega)]; omega
          · rw [if_neg e2] at h2
            by_cases e3 : z < y
            · rw [if_pos e3] at h2; omega
            · rw [if_pos (by omega)]; omega
        · rw [if_neg e1] at h1
          by_cases e2 : y < x
          · rw [if_pos e2] at h1; omega
          · rw [if_neg e2] at h1
            obtain rfl : x = y := by omega
            by_cases e3 : x < z
            · rw [if_pos e3]; omega
            · rw [if_neg e3] at h2 ⊢
              by_cases e4 : z < x
              · rw [if_pos e4] at h2; omega
              · rw [if_neg e4] at h2 ⊢
                exact ih ys zs h1 h2
/-- a way as its root and what follows -/
theorem Way.cons {T : List Nod} {d : Nat → Nat} (h : WF T d) {i : Nat} {l : List Nat} (hw : Way T i l) (hi : i < T.length) : ∃ r t, l = r :: t ∧ Chn T r t := by
  have hn := hw.next h hi
  cases l with
  | nil => exact absurd rfl hw.ne
  | cons r t =>
    refine ⟨r, t, rfl, ?_⟩
    clear hw
    induction t generalizing r with
    | nil => trivial
    | cons x xs ih =>
      refine ⟨hn 0 r x rfl rfl, ih x (fun j a b ha hb => hn (j + 1) a b (by simpa using ha) (by simpa using hb))⟩
/-- the order of two nodes -/
def ordW (T : List Nod) (X Y : List Nat) : Int × Bool :=
  match X, Y with
  | r :: xs, s :: ys => if r = s then (cmpW T r xs ys, true) else (0, false)
  | _, _ => (0, false)
structure OrdIs (T : List Nod) (a b : Int) (x : Int) (p : Bool) : Prop where
  out : (a < 0 ∨ (T.length : Int) ≤ a ∨ b < 0 ∨ (T.length : Int) ≤ b) → x = 0 ∧ p = false
  in_ : ∀ i j X Y, a = ((i : Nat) : Int) → b = ((j : Nat) : Int) → i < T.length → j < T.length → Way T i X → Way T j Y → (x, p) = ordW T X Y
theorem ord_self {T : List Nod} {d : Nat → Nat} (h : WF T d) (h0 : 0 < T.length) {x : Int} {p : Bool} (ho : OrdIs T 0 0 x p) : x = 0 ∧ p = true := by
  obtain ⟨l, hl⟩ := Way.ex h _ 0 (Nat.le_refl _) h0
  have := ho.in_ 0 0 l l rfl rfl h0 h0 hl hl
  obtain ⟨r, t, rfl, hc⟩ := hl.cons h h0
  simp only [ordW, if_true, Prod.mk.injEq] at this
  rw [cmp_eq _ _ _ hc hc, (cmpL_zero _ _).2 rfl] at this
  exact this
theorem ord_law {T : List Nod} {d : Nat → Nat} (h : WF T d) {a b c : Int} {ab ba bc ac : Int} {p q r s : Bool} (h1 : OrdIs T a b ab p) (h2 : OrdIs T b a ba q) (h3 : OrdIs T b c bc r) (h4 : OrdIs T a c ac s) :
    (p = q ∧ ab = -ba) ∧ (p = true → r = true → s = true) ∧ (p = true → (ab = 0 ↔ a = b)) ∧ (p = true → r = true → ab < 0 → bc < 0 → ac < 0) := by
  by_cases ha : a < 0 ∨ (T.length : Int) ≤ a
  · obtain ⟨rfl, rfl⟩ := h1.out (by omega)
    obtain ⟨rfl, rfl⟩ := h2.out (by omega)
    exact ⟨⟨rfl, rfl⟩, fun h => by simp at h, fun h => by simp at h, fun h => by simp at h⟩
  · by_cases hb : b < 0 ∨ (T.length : Int) ≤ b
    · obtain ⟨rfl, rfl⟩ := h1.out (by omega)
      obtain ⟨rfl, rfl⟩ := h2.out (by omega)
      exact ⟨⟨rfl, rfl⟩, fun h => by simp at h, fun h => by simp at h, fun h => by simp at h⟩
    · obtain ⟨i, rfl⟩ := Int.eq_ofNat_of_zero_le (show 0 ≤ a by omega)
      obtain ⟨j, rfl⟩ := Int.eq_ofNat_of_zero_le (show 0 ≤ b by omega)
      have hi : i < T.length := by omega
      have hj : j < T.length := by omega
      obtain ⟨X, hX⟩ := Way.ex h _ i (Nat.le_refl _) hi
      obtain ⟨Y, hY⟩ := Way.ex h _ j (Nat.le_refl _) hj
      have e1 := h1.in_ i j X Y rfl rfl hi hj hX hY
      have e2 := h2.in_ j i Y X rfl rfl hj hi hY hX
      have lX := hX.last; have lY := hY.last
      obtain ⟨rx, xs, eX, cX⟩ := hX.cons h hi
      obtain ⟨ry, ys, eY, cY⟩ := hY.cons h hj
      have key1 : (p = q ∧ ab = -ba) := by
        rw [eX, eY] at e1 e2
        simp only [ordW] at e1 e2
        by_cases e : rx = ry
        · subst e
          rw [if_pos rfl] at e1 e2
          simp only [Prod.mk.injEq] at e1 e2
          refine ⟨by rw [e1.2, e2.2], ?_⟩
          rw [e1.1, e2.1, cmp_eq _ _ _ cX cY, cmp_eq _ _ _ cY cX]
          exact cmpL_anti _ _
        · rw [if_neg e] at e1
          rw [if_neg (fun h => e h.symm)] at e2
          simp only [Prod.mk.injEq] at e1 e2
          exact ⟨by rw [e1.2, e2.2], by rw [e1.1, e2.1]; rfl⟩
      have key3 : p = true → (ab = 0 ↔ (i : Int) = (j : Int)) := by
        intro hp
        rw [eX, eY] at e1
        simp only [ordW] at e1
        by_cases e : rx = ry
        · subst e
          rw [if_pos rfl] at e1
          simp only [Prod.mk.injEq] at e1
          rw [e1.1, cmp_eq _ _ _ cX cY, cmpL_zero]
          constructor
          · intro hpq
            have := pos_inj _ _ _ cX cY hpq
            subst this
            have : X = Y := by rw [eX, eY]
            subst this
            rw [← lX, ← lY]
          · intro hij
            have hij : i = j := by omega
            subst hij
            have := hX.uniq hY
            rw [eX, eY] at this
            injection this with _ this
            rw [this]
        · rw [if_neg e] at e1
          simp only [Prod.mk.injEq] at e1
          rw [hp] at e1
          exact absurd e1.2 (by simp)
      refine ⟨key1, ?_, key3, ?_⟩
      all_goals
        by_cases hc : c < 0 ∨ (T.length : Int) ≤ c
        · obtain ⟨rfl, rfl⟩ := h3.out (by omega)
          intro _ hr; simp at hr
        · obtain ⟨k, rfl⟩ := Int.eq_ofNat_of_zero_le (show 0 ≤ c by omega)
          have hk : k < T.length := by omega
          obtain ⟨Z, hZ⟩ := Way.ex h _ k (Nat.le_refl _) hk
          have e3 := h3.in_ j k Y Z rfl rfl hj hk hY hZ
          have e4 := h4.in_ i k X Z rfl rfl hi hk hX hZ
          obtain ⟨rz, zs, eZ, cZ⟩ := hZ.cons h hk
          rw [eX, eY] at e1
          rw [eY, eZ] at e3
          rw [eX, eZ] at e4
          simp only [ordW] at e1 e3 e4
          intro hp hr
          by_cases ex : rx = ry
          · by_cases ey : ry = rz
            · subst ex ey
              rw [if_pos rfl] at e1 e3 e4
              simp only [Prod.mk.injEq] at e1 e3 e4
              first
              | exact e4.2
              | (rw [e1.1, e3.1, e4.1, cmp_eq _ _ _ cX cY, cmp_eq _ _ _ cY cZ, cmp_eq _ _ _ cX cZ]
                 exact cmpL_trans _ _ _)
            · rw [if_neg ey] at e3
              simp only [Prod.mk.injEq] at e3
              rw [hr] at e3
              exact absurd e3.2 (by simp)
          · rw [if_neg ex] at e1
            simp only [Prod.mk.injEq] at e1
            rw [hp] at e1
            exact absurd e1.2 (by simp)
end Go.Cas
namespace Go.Cas
set_option linter.unusedVariables false
set_option linter.unusedSimpArgs false

theorem nodup_lt : ∀ (n : Nat) (l : List Nat), l.Nodup → (∀ x ∈ l, x < n) → l.length ≤ n := by
  intro n
  induction n with
  | zero =>
    intro l _ h
    cases l with
    | nil => simp
    | cons x l => have := h x (by simp); omega
  | succ n ih =>
    intro l hd h
    by_cases hm : n ∈ l
    · have h1 := ih (l.erase n) (hd.erase n) (fun x hx => by
        rw [hd.mem_erase_iff] at hx
        have := h x hx.2
        have := hx.1
        omega)
      rw [List.length_erase_of_mem hm] at h1
      omega
    · have := ih l hd (fun x hx => by
        have := h x hx
        have : x ≠ n := fun e => hm (e ▸ hx)
        omega)
      omega
/-- is one above another, or the same? -/
inductive Anc (T : List Nod) (i : Nat) : Nat → Prop
  | refl : Anc T i i
  | step {x p : Nat} : (ndA T x).pa = (p : Int) → Anc T i p → Anc T i x
theorem Anc.cmp {T : List Nod} {i j x : Nat} (h : Anc T i x) (k : Anc T j x) : Anc T i j ∨ Anc T j i := by
  induction h with
  | refl => exact .inr k
  | step e hp ih =>
    cases k with
    | refl => exact .inl (.step e hp)
    | step e' hp' =>
      obtain rfl := Int.ofNat.inj (e.symm.trans e')
      exact ih hp'
theorem Anc.le {T : List Nod} {d : Nat → Nat} (h : WF T d) {i x : Nat} (ha : Anc T i x) (hx : x < T.length) : i < T.length ∧ d i ≤ d x := by
  induction ha with
  | refl => exact ⟨hx, Nat.le_refl _⟩
  | @step x p e hp ih =>
    have hp2 : p < T.length := by
      rcases h.pa x hx with e1 | ⟨_, e2⟩
      · omega
      · rw [e] at e2; exact e2
    have h1 := ih hp2
    have h2 := h.ac x hx (by omega)
    rw [e] at h2
    have : ((p : Int)).toNat = p := rfl
    rw [this] at h2
    omega
theorem Anc.trans {T : List Nod} {i j x : Nat} (h : Anc T i j) (k : Anc T j x) : Anc T i x := by
  induction k with
  | refl => exact h
  | step e _ ih => exact .step e ih
/-- what lies in a node, itself first -/
def und (T : List Nod) : Nat → Nat → List Nat
  | 0, i => [i]
  | f + 1, i => i :: (ndA T i).ki.flatMap (und T f)
theorem und_mem {T : List Nod} {d : Nat → Nat} (h : WF T d) : ∀ (f i : Nat), i < T.length → ∀ x ∈ und T f i, x < T.length ∧ Anc T i x := by
  intro f
  induction f with
  | zero => intro i hi x hx; simp [und] at hx; subst hx; exact ⟨hi, .refl⟩
  | succ f ih =>
    intro i hi x hx
    simp only [und, List.mem_cons, List.mem_flatMap] at hx
    rcases hx with rfl | ⟨k, hk, hx⟩
    · exact ⟨hi, .refl⟩
    · obtain ⟨h1, h2⟩ := h.ki i hi k hk
      obtain ⟨h3, h4⟩ := ih k h1 x hx
      exact ⟨h3, Anc.trans (.step h2 .refl) h4⟩
theorem und_nodup {T : List Nod} {d : Nat → Nat} (h : WF T d) : ∀ (f i : Nat), i < T.length → (und T f i).Nodup := by
  intro f
  induction f with
  | zero => intro i _; simp [und]
  | succ f ih =>
    intro i hi
    have hkd : ∀ k ∈ (ndA T i).ki, d i < d k := fun k hk => by
      obtain ⟨h1, h2⟩ := h.ki i hi k hk
      have := h.ac k h1 (by omega)
      rw [h2] at this
      exact this
    unfold und
    rw [List.nodup_cons]
    constructor
    · intro hm
      obtain ⟨k, hk, hx⟩ := List.mem_flatMap.1 hm
      obtain ⟨h1, h2⟩ := h.ki i hi k hk
      have h3 := (und_mem h f k h1 i hx).2.le h hi
      have := hkd k hk
      omega
    · unfold List.Nodup
      rw [List.pairwise_flatMap]
      refine ⟨fun k hk => ih k (h.ki i hi k hk).1, ?_⟩
      refine List.Pairwise.imp_of_mem ?_ (h.nd i hi)
      intro a b ha hb hab x hx y hy e
      subst e
      obtain ⟨a1, a2⟩ := h.ki i hi a ha
      obtain ⟨b1, b2⟩ := h.ki i hi b hb
      have c1 := (und_mem h f a a1 x hx).2
      have c2 := (und_mem h f b b1 x hy).2
      rcases c1.cmp c2 with c | c
      · cases c with
        | refl => exact hab rfl
        | step e' c' =>
          obtain rfl := Int.ofNat.inj (b2.symm.trans e')
          have := (c'.le h hi).2
          have := hkd a ha
          omega
      · cases c with
        | refl => exact hab rfl
        | step e' c' =>
          obtain rfl := Int.ofNat.inj (a2.symm.trans e')
          have := (c'.le h hi).2
          have := hkd b hb
          omega
theorem und_len {T : List Nod} {d : Nat → Nat} (h : WF T d) (f i : Nat) (hi : i < T.length) : (und T f i).length ≤ T.length :=
  nodup_lt _ _ (und_nodup h f i hi) (fun x hx => (und_mem h f i hi x hx).1)
theorem und_more {T : List Nod} {d : Nat → Nat} (h : WF T d) {D : Nat} (hD : ∀ k, k < T.length → d k ≤ D) : ∀ (f i : Nat), i < T.length → D - d i ≤ f → und T (f + 1) i = und T f i := by
  intro f
  induction f with
  | zero =>
    intro i hi hf
    have : (ndA T i).ki = [] := by
      cases hk : (ndA T i).ki with
      | nil => rfl
      | cons k l =>
        exfalso
        obtain ⟨h1, h2⟩ := h.ki i hi k (by rw [hk]; simp)
        have h3 := h.ac k h1 (by omega)
        rw [h2] at h3
        have : ((i : Int)).toNat = i := rfl
        rw [this] at h3
        have := hD k h1
        omega
    simp [und, this]
  | succ f ih =>
    intro i hi hf
    show i :: (ndA T i).ki.flatMap (und T (f + 1)) = i :: (ndA T i).ki.flatMap (und T f)
    congr 1
    rw [List.flatMap_def, List.flatMap_def]
    congr 1
    refine List.map_congr_left (fun k hk => ?_)
    obtain ⟨h1, h2⟩ := h.ki i hi k hk
    have h3 := h.ac k h1 (by omega)
    rw [h2] at h3
    have : ((i : Int)).toNat = i := rfl
    rw [this] at h3
    exact ih k h1 (by omega)
/-- a new node -/
theorem ndA_app {T : List Nod} {x : Nod} (i : Nat) : ndA (T ++ [x]) i = if i = T.length then x else ndA T i := by
  unfold ndA
  rw [List.getD_eq_getElem?_getD, List.getD_eq_getElem?_getD]
  split
  · rename_i h; subst h; simp
  · rename_i h
    by_cases hi : i < T.length
    · rw [List.getElem?_append_left hi]
    · rw [List.getElem?_append_right (by omega), List.getElem?_eq_none (by simp; omega), List.getElem?_eq_none (by omega)]
theorem WF.add {T : List Nod} {d : Nat → Nat} (h : WF T d) {x : Nod} (hp : x.pa = -1) (hk : x.ki = []) : WF (T ++ [x]) d := by
  have hl : (T ++ [x]).length = T.length + 1 := by simp
  constructor
  · intro i hi
    rw [ndA_app]
    split
    · exact .inl hp
    · rcases h.pa i (by omega) with e | ⟨e1, e2⟩
      · exact .inl e
      · exact .inr ⟨e1, by omega⟩
  · intro p hp2 k hk2
    rw [ndA_app] at hk2
    split at hk2
    · rw [hk] at hk2; simp at hk2
    · obtain ⟨h1, h2⟩ := h.ki p (by omega) k hk2
      rw [ndA_app, if_neg (by omega)]
      exact ⟨by omega, h2⟩
  · intro p hp2
    rw [ndA_app]
    split
    · rw [hk]; simp
    · exact h.nd p (by omega)
  · intro i hi h0
    rw [ndA_app] at h0
    split at h0
    · omega
    · rename_i hne
      have h1 := h.up i (by omega) h0
      rcases h.pa i (by omega) with e | ⟨e1, e2⟩
      · omega
      · have e3 : ndA (T ++ [x]) i = ndA T i := by rw [ndA_app, if_neg hne]
        rw [e3, ndA_app, if_neg (by omega)]
        exact h1
  · intro i hi h0
    rw [ndA_app] at h0 ⊢
    split at h0
    · omega
    · rename_i hne
      rw [if_neg hne]
      exact h.ac i (by omega) h0
theorem ndA_set {T : List Nod} {j : Nat} {x : Nod} (hj : j < T.length) (i : Nat) : ndA (T.set j x) i = if i = j then x else ndA T i := by
  unfold ndA
  rw [List.getD_eq_getElem?_getD, List.getD_eq_getElem?_getD]
  split
  · rename_i h; subst h; rw [List.getElem?_set_self hj]; rfl
  · rename_i h; rw [List.getElem?_set_ne (Ne.symm h)]
/-- what is said of a node alone does not turn the tree -/
theorem WF.same {T T' : List Nod} {d : Nat → Nat} (h : WF T d) (hl : T'.length = T.length) (hp : ∀ i, i < T.length → (ndA T' i).pa = (ndA T i).pa) (hk : ∀ i, i < T.length → (ndA T' i).ki = (ndA T i).ki) : WF T' d := by
  constructor
  · intro i hi; rw [hl] at hi ⊢; rw [hp i hi]; exact h.pa i hi
  · intro p hp2 k hk2
    rw [hl] at hp2 ⊢
    rw [hk p hp2] at hk2
    obtain ⟨h1, h2⟩ := h.ki p hp2 k hk2
    exact ⟨h1, by rw [hp k h1]; exact h2⟩
  · intro p hp2; rw [hl] at hp2; rw [hk p hp2]; exact h.nd p hp2
  · intro i hi h0
    rw [hl] at hi
    rw [hp i hi] at h0 ⊢
    have h1 := h.up i hi h0
    rcases h.pa i hi with e | ⟨e1, e2⟩
    · omega
    · rw [hk _ e2]; exact h1
  · intro i hi h0
    rw [hl] at hi
    rw [hp i hi] at h0 ⊢
    exact h.ac i hi h0
/-- a node without a parent is put among the kids of another one -/
def putE (T : List Nod) (p i : Nat) (ks : List Nat) : List Nod := (T.set p { ndA T p with ki := ks }).set i { ndA (T.set p { ndA T p with ki := ks }) i with pa := p }
theorem putE_nd {T : List Nod} {p i : Nat} {ks : List Nat} (hp : p < T.length) (hi : i < T.length) (hpi : p ≠ i) (k : Nat) : ndA (putE T p i ks) k = if k = i then { ndA T i with pa := p } else if k = p then { ndA T p with ki := ks } else ndA T k := by
  unfold putE
  rw [ndA_set (by rw [List.length_set]; exact hi), ndA_set hp, ndA_set hp, if_neg (Ne.symm hpi)]
theorem putE_len (T : List Nod) (p i : Nat) (ks : List Nat) : (putE T p i ks).length = T.length := by unfold putE; simp
theorem anc_dec (T : List Nod) (i x : Nat) : Anc T i x ∨ ¬ Anc T i x := Classical.em _
open Classical in
theorem WF.put {T : List Nod} {d : Nat → Nat} (h : WF T d) {p i : Nat} {ks : List Nat} (hp : p < T.length) (hi : i < T.length) (hpa : (ndA T i).pa < 0) (hw : ¬ Anc T i p) (hks : ∀ k, k ∈ ks ↔ k = i ∨ k ∈ (ndA T p).ki) (hnd : ks.Nodup) : WF (putE T p i ks) (fun k => if Anc T i k then d k + d p + 1 else d k) := by
  have hpi : p ≠ i := fun e => hw (e ▸ .refl)
  have hl := putE_len T p i ks
  have hnp : ∀ k, (ndA (putE T p i ks) k).pa = if k = i then (p : Int) else (ndA T k).pa := fun k => by
    rw [putE_nd hp hi hpi]
    split
    · rfl
    · split
      · rename_i e; rw [e]
      · rfl
  have hnk : ∀ k, (ndA (putE T p i ks) k).ki = if k = p then ks else (ndA T k).ki := fun k => by
    rw [putE_nd hp hi hpi]
    by_cases e : k = i
    · subst e; rw [if_pos rfl, if_neg (Ne.symm hpi)]
    · rw [if_neg e]; split <;> rfl
  constructor
  · intro k hk
    rw [hl] at hk ⊢
    rw [hnp]
    split
    · exact .inr ⟨by omega, hp⟩
    · exact h.pa k hk
  · intro q hq k hk
    rw [hl] at hq ⊢
    rw [hnk] at hk
    rw [hnp]
    by_cases e : q = p
    · subst e
      rw [if_pos rfl] at hk
      rcases (hks k).1 hk with rfl | hk
      · exact ⟨hi, by rw [if_pos rfl]⟩
      · obtain ⟨h1, h2⟩ := h.ki q hq k hk
        refine ⟨h1, ?_⟩
        split
        · rfl
        · exact h2
    · rw [if_neg e] at hk
      obtain ⟨h1, h2⟩ := h.ki q hq k hk
      refine ⟨h1, ?_⟩
      rw [if_neg (fun e => by subst e; omega)]
      exact h2
  · intro q hq
    rw [hl] at hq
    rw [hnk]
    split
    · exact hnd
    · exact h.nd q hq
  · intro k hk h0
    rw [hl] at hk
    rw [hnp] at h0 ⊢
    by_cases e : k = i
    · subst e
      rw [if_pos rfl, hnk, if_pos (show ((p : Int)).toNat = p from rfl)]
      exact (hks k).2 (.inl rfl)
    · rw [if_neg e] at h0 ⊢
      have h1 := h.up k hk h0
      rw [hnk]
      split
      · rename_i e2
        refine (hks k).2 (.inr ?_)
        rw [← e2]; exact h1
      · exact h1
  · intro k hk h0
    rw [hl] at hk
    rw [hnp] at h0 ⊢
    by_cases e : k = i
    · subst e
      rw [if_pos rfl, if_pos Anc.refl]
      have : ((p : Int)).toNat = p := rfl
      rw [this, if_neg hw]
      omega
    · rw [if_neg e] at h0 ⊢
      have h1 := h.ac k hk h0
      obtain ⟨q, hq⟩ : ∃ q : Nat, (ndA T k).pa = (q : Int) := ⟨(ndA T k).pa.toNat, by omega⟩
      rw [hq] at h1 ⊢
      have e3 : ((q : Int)).toNat = q := rfl
      rw [e3] at h1 ⊢
      have hiff : Anc T i k ↔ Anc T i q := by
        constructor
        · intro ha
          cases ha with
          | refl => exact absurd rfl e
          | step e' c => obtain rfl := Int.ofNat.inj (hq.symm.trans e'); exact c
        · intro ha; exact .step hq ha
      by_cases ha : Anc T i k
      · rw [if_pos ha, if_pos (hiff.1 ha)]; omega
      · rw [if_neg ha, if_neg (fun h => ha (hiff.2 h))]; exact h1
end Go.Cas
namespace Go.Cas
set_option linter.unusedVariables false
set_option linter.unusedSimpArgs false

/-- a node cut out of where it is -/
def cutE (T : List Nod) (i : Nat) : List Nod :=
  if 0 ≤ (ndA T i).pa then (T.set (ndA T i).pa.toNat { ndA T (ndA T i).pa.toNat with ki := (ndA T (ndA T i).pa.toNat).ki.erase i }).set i { ndA T i with pa := -1 } else T
theorem cutE_len (T : List Nod) (i : Nat) : (cutE T i).length = T.length := by unfold cutE; split <;> simp
theorem cutE_none {T : List Nod} {i : Nat} (h : (ndA T i).pa < 0) : cutE T i = T := by unfold cutE; rw [if_neg (by omega)]
theorem cutE_nd {T : List Nod} {d : Nat → Nat} (h : WF T d) {i p : Nat} (hi : i < T.length) (hp : (ndA T i).pa = (p : Int)) (k : Nat) : ndA (cutE T i) k = if k = i then { ndA T i with pa := -1 } else if k = p then { ndA T p with ki := (ndA T p).ki.erase i } else ndA T k := by
  have h0 : 0 ≤ (ndA T i).pa := by omega
  have hac := h.ac i hi h0
  have hpl : p < T.length := by rcases h.pa i hi with e | ⟨_, e⟩ <;> omega
  rw [hp] at hac
  have ep : ((p : Int)).toNat = p := rfl
  rw [ep] at hac
  have hne : p ≠ i := fun e => by subst e; omega
  unfold cutE
  rw [if_pos h0, hp, ep, ndA_set (by rw [List.length_set]; exact hi), ndA_set hpl]
theorem cutE_pa {T : List Nod} {d : Nat → Nat} (h : WF T d) {i : Nat} (hi : i < T.length) (k : Nat) : (ndA (cutE T i) k).pa = if k = i then -1 else (ndA T k).pa := by
  by_cases h0 : 0 ≤ (ndA T i).pa
  · obtain ⟨p, hp⟩ := Int.eq_ofNat_of_zero_le h0
    rw [cutE_nd h hi hp]
    split
    · rfl
    · split
      · rename_i e; rw [e]
      · rfl
  · rw [cutE_none (by omega)]
    split
    · rename_i e; subst e; rcases h.pa k hi with e | ⟨e, _⟩ <;> omega
    · rfl
theorem WF.cut {T : List Nod} {d : Nat → Nat} (h : WF T d) {i : Nat} (hi : i < T.length) : WF (cutE T i) d := by
  by_cases h0 : 0 ≤ (ndA T i).pa
  case neg => rw [cutE_none (by omega)]; exact h
  obtain ⟨p, hp⟩ := Int.eq_ofNat_of_zero_le h0
  have hl := cutE_len T i
  have hpl : p < T.length := by rcases h.pa i hi with e | ⟨_, e⟩ <;> omega
  have hpa := cutE_pa h hi
  have hne : p ≠ i := fun e => by
    have hac := h.ac i hi h0
    rw [hp] at hac
    have ep : ((p : Int)).toNat = p := rfl
    rw [ep] at hac
    subst e; omega
  have hki : ∀ k, (ndA (cutE T i) k).ki = if k = p then (ndA T p).ki.erase i else (ndA T k).ki := fun k => by
    rw [cutE_nd h hi hp]
    by_cases e : k = i
    · subst e; rw [if_pos rfl, if_neg (Ne.symm hne)]
    · rw [if_neg e]; split <;> rfl
  constructor
  · intro k hk
    rw [hl] at hk ⊢
    rw [hpa]
    split
    · exact .inl rfl
    · exact h.pa k hk
  · intro q hq k hk
    rw [hl] at hq ⊢
    rw [hki] at hk
    rw [hpa]
    by_cases e : q = p
    · subst e
      rw [if_pos rfl] at hk
      have hk2 := ((h.nd q hq).mem_erase_iff).1 hk
      obtain ⟨h1, h2⟩ := h.ki q hq k hk2.2
      exact ⟨h1, by rw [if_neg hk2.1]; exact h2⟩
    · rw [if_neg e] at hk
      obtain ⟨h1, h2⟩ := h.ki q hq k hk
      refine ⟨h1, ?_⟩
      rw [if_neg (fun e2 => by subst e2; omega)]
      exact h2
  · intro q hq
    rw [hl] at hq
    rw [hki]
    split
    · exact (h.nd p hpl).erase _
    · exact h.nd q hq
  · intro k hk h1
    rw [hl] at hk
    rw [hpa] at h1 ⊢
    by_cases e : k = i
    · rw [if_pos e] at h1; omega
    · rw [if_neg e] at h1 ⊢
      have h2 := h.up k hk h1
      rw [hki]
      split
      · rename_i e2
        rw [e2] at h2
        exact ((h.nd p hpl).mem_erase_iff).2 ⟨e, h2⟩
      · exact h2
  · intro k hk h1
    rw [hl] at hk
    rw [hpa] at h1 ⊢
    by_cases e : k = i
    · rw [if_pos e] at h1; omega
    · rw [if_neg e] at h1 ⊢
      exact h.ac k hk h1
theorem Anc.cut {T : List Nod} {d : Nat → Nat} (h : WF T d) {i j x : Nat} (hi : i < T.length) (ha : Anc (cutE T i) j x) : Anc T j x := by
  induction ha with
  | refl => exact .refl
  | step e _ ih =>
    rw [cutE_pa h hi] at e
    split at e
    · omega
    · exact .step e ih
/-- put at a place -/
def insA (l : List Nat) (n x : Nat) : List Nat := l.take n ++ x :: l.drop n
theorem insA_mem {l : List Nat} {n x k : Nat} : k ∈ insA l n x ↔ k = x ∨ k ∈ l := by
  unfold insA
  rw [List.mem_append, List.mem_cons]
  have : k ∈ l ↔ k ∈ l.take n ∨ k ∈ l.drop n := by rw [← List.mem_append, List.take_append_drop]
  rw [this]
  constructor
  · rintro (h | h | h)
    · exact .inr (.inl h)
    · exact .inl h
    · exact .inr (.inr h)
  · rintro (h | h | h)
    · exact .inr (.inl h)
    · exact .inl h
    · exact .inr (.inr h)
theorem insA_nodup {l : List Nat} {n x : Nat} (h : l.Nodup) (hx : x ∉ l) : (insA l n x).Nodup := by
  have hp : (insA l n x).Perm (x :: l) := by
    unfold insA
    have := List.perm_middle (a := x) (l₁ := l.take n) (l₂ := l.drop n)
    rw [List.take_append_drop] at this
    exact this
  exact hp.nodup_iff.2 (List.nodup_cons.2 ⟨hx, h⟩)
theorem insA_end (l : List Nat) (x : Nat) : insA l l.length x = l ++ [x] := by unfold insA; simp
def putG (T : List Nod) (p i n : Nat) : List Nod := putE (cutE T i) p i (insA (ndA (cutE T i) p).ki n i)
theorem putG_len (T : List Nod) (p i n : Nat) : (putG T p i n).length = T.length := by unfold putG; rw [putE_len, cutE_len]
theorem putG_none {T : List Nod} {p i n : Nat} (h : (ndA T i).pa < 0) : putG T p i n = putE T p i (insA (ndA T p).ki n i) := by unfold putG; rw [cutE_none h]
theorem WF.putG {T : List Nod} {d : Nat → Nat} (h : WF T d) {p i : Nat} (n : Nat) (hp : p < T.length) (hi : i < T.length) (hw : ¬ Anc T i p) : ∃ d', WF (putG T p i n) d' := by
  have h1 := h.cut hi
  have hpa : (ndA (cutE T i) i).pa < 0 := by rw [cutE_pa h hi, if_pos rfl]; omega
  have hni : i ∉ (ndA (cutE T i) p).ki := fun hm => by
    have := (h1.ki p (by rw [cutE_len]; exact hp) i hm).2
    omega
  exact ⟨_, h1.put (by rw [cutE_len]; exact hp) (by rw [cutE_len]; exact hi) hpa (fun ha => hw (ha.cut h hi)) (fun k => insA_mem) (insA_nodup (h1.nd p (by rw [cutE_len]; exact hp)) hni)⟩
/-- what is on the way up -/
theorem anc_up {T : List Nod} {i x p : Nat} (hp : (ndA T x).pa = (p : Int)) (hne : x ≠ i) : Anc T i x ↔ Anc T i p := by
  constructor
  · intro h
    cases h with
    | refl => exact absurd rfl hne
    | step e h => obtain rfl := Int.ofNat.inj (hp.symm.trans e); exact h
  · intro h; exact .step hp h
theorem anc_root {T : List Nod} {i x : Nat} (hp : (ndA T x).pa < 0) (hne : x ≠ i) : ¬ Anc T i x := by
  intro h
  cases h with
  | refl => exact hne rfl
  | step e h => omega
open Classical in
/-- does a node lie in another one? -/
noncomputable def ancB (T : List Nod) (i x : Nat) : Bool := decide (Anc T i x)
theorem ancB_true {T : List Nod} {i x : Nat} : ancB T i x = true ↔ Anc T i x := by unfold ancB; simp
theorem ancB_false {T : List Nod} {i x : Nat} : ancB T i x = false ↔ ¬ Anc T i x := by unfold ancB; simp
end Go.Cas
namespace Go.Cas
set_option linter.unusedVariables false
set_option linter.unusedSimpArgs false

theorem Way.nodup {T : List Nod} {d : Nat → Nat} (h : WF T d) {i : Nat} {l : List Nat} (hw : Way T i l) (hi : i < T.length) : l.Nodup ∧ ∀ x ∈ l, d x ≤ d i := by
  induction hw with
  | root _ => exact ⟨by simp, fun x hx => by simp at hx; subst hx; exact Nat.le_refl _⟩
  | @step i p l e _ ih =>
    have hp : p < T.length := by
      rcases h.pa i hi with e1 | ⟨_, e2⟩
      · omega
      · rw [e] at e2; exact e2
    have hd := h.ac i hi (by omega)
    rw [e] at hd
    have ep : ((p : Int)).toNat = p := rfl
    rw [ep] at hd
    obtain ⟨h1, h2⟩ := ih hp
    refine ⟨?_, fun x hx => ?_⟩
    · rw [List.nodup_append]
      refine ⟨h1, by simp, fun a ha b hb => ?_⟩
      simp at hb; subst hb
      intro e; subst e
      have := h2 a ha; omega
    · rcases List.mem_append.1 hx with hx | hx
      · have := h2 x hx; omega
      · simp at hx; subst hx; exact Nat.le_refl _
theorem Way.short {T : List Nod} {d : Nat → Nat} (h : WF T d) {i : Nat} {l : List Nat} (hw : Way T i l) (hi : i < T.length) : l.length ≤ T.length :=
  nodup_lt _ _ (hw.nodup h hi).1 (hw.lt h hi)
/-- a twig of a list -/
structure Twg where
  k : Int
  tag : ByteArray
  txt : ByteArray
  at_ : List (ByteArray × ByteArray)
  ki : List Int
section
variable (isN : ByteArray → Bool) (sA : List (ByteArray × ByteArray) → ByteArray → ByteArray → List (ByteArray × ByteArray))
/-- the node of a twig alone -/
def ndW (x : Twg) : Nod := if x.k = 2 ∧ isN x.tag = true then ⟨2, x.tag, ByteArray.empty, [], -1, []⟩ else if x.k = 4 then ⟨4, ByteArray.empty, x.txt, [], -1, []⟩ else ⟨3, ByteArray.empty, x.txt, [], -1, []⟩
/-- an attribute that can be set -/
def atW (i : Nat) (T : List Nod) (p : ByteArray × ByteArray) : List Nod :=
  if (ndA T i).k = 2 ∧ isN p.1 = true ∧ p.2.size ≤ 20000 then T.set i { ndA T i with at_ := sA (ndA T i).at_ p.1 p.2 } else T
/-- a kid that has no parent yet -/
def kiW (i : Nat) (T : List Nod) (k : Int) : List Nod :=
  if (ndA T (i + 1)).k = 2 ∧ 0 ≤ k ∧ k < i ∧ (ndA T (k + 1).toNat).pa < 0 then putG T (i + 1) (k + 1).toNat (ndA T (i + 1)).ki.length else T
def twW (T : List Nod) (i : Nat) (x : Twg) : List Nod := x.ki.foldl (kiW i) (x.at_.foldl (atW isN sA (i + 1)) (T ++ [ndW isN x]))
def twsW : List Nod → Nat → List Twg → List Nod
  | T, _, [] => T
  | T, i, x :: l => twsW (twW isN sA T i x) (i + 1) l
theorem twsW_snoc : ∀ (l : List Twg) (T : List Nod) (i : Nat) (x : Twg), twsW isN sA T i (l ++ [x]) = twW isN sA (twsW isN sA T i l) (i + l.length) x := by
  intro l
  induction l with
  | nil => intro T i x; rfl
  | cons a l ih =>
    intro T i x
    simp only [List.cons_append, twsW, ih]
    congr 1
    simp; omega
/-- at last all without a parent stand in the document -/
def topW (T : List Nod) (i : Nat) : List Nod := if (ndA T i).pa < 0 then putG T 0 i (ndA T 0).ki.length else T
def topsW (T : List Nod) (n : Nat) : List Nod := ((List.range n).map (· + 1)).foldl topW T
end
/-- what all of these keep -/
structure TI (T : List Nod) (n : Nat) : Prop where
  wf : ∃ d, WF T d
  len : T.length = n + 1
  root : (ndA T 0).pa = -1 ∧ (ndA T 0).k = 1
theorem TI.put {T : List Nod} {n p i m : Nat} (h : TI T n) (hp : p < T.length) (hi : i < T.length) (hi0 : i ≠ 0) (ha : ¬ Anc T i p) : TI (putG T p i m) n := by
  obtain ⟨d, hd⟩ := h.wf
  refine ⟨hd.putG m hp hi ha, by rw [putG_len]; exact h.len, ?_⟩
  have hne : p ≠ i := fun e => ha (e ▸ .refl)
  have hcl := cutE_len T i
  unfold putG
  rw [putE_nd (by rw [cutE_len]; exact hp) (by rw [cutE_len]; exact hi) hne, if_neg (Ne.symm hi0)]
  have hr := h.root
  have hc : (ndA (cutE T i) 0).pa = -1 ∧ (ndA (cutE T i) 0).k = 1 := by
    refine ⟨by rw [cutE_pa hd hi, if_neg (Ne.symm hi0)]; exact hr.1, ?_⟩
    by_cases h0 : 0 ≤ (ndA T i).pa
    · obtain ⟨q, hq⟩ := Int.eq_ofNat_of_zero_le h0
      rw [cutE_nd hd hi hq, if_neg (Ne.symm hi0)]
      split
      · rename_i e; subst e; exact hr.2
      · exact hr.2
    · rw [cutE_none (by omega)]; exact hr.2
  split
  · rename_i e; subst e; exact hc
  · exact hc
theorem TI.add {T : List Nod} {n : Nat} {x : Nod} (h : TI T n) (hp : x.pa = -1) (hk : x.ki = []) : TI (T ++ [x]) (n + 1) := by
  obtain ⟨d, hd⟩ := h.wf
  refine ⟨⟨d, hd.add hp hk⟩, by simp [h.len], ?_⟩
  rw [ndA_app, if_neg (by have := h.len; omega)]
  exact h.root
theorem TI.at_ {T : List Nod} {n i : Nat} {l : List (ByteArray × ByteArray)} (h : TI T n) (hi : i < T.length) : TI (T.set i { ndA T i with at_ := l }) n := by
  obtain ⟨d, hd⟩ := h.wf
  have hn := fun k => ndA_set (x := { ndA T i with at_ := l }) hi k
  refine ⟨⟨d, hd.same (by simp) (fun k _ => ?_) (fun k _ => ?_)⟩, by simp [h.len], ?_⟩
  · rw [hn]; split
    · rename_i e; subst e; rfl
    · rfl
  · rw [hn]; split
    · rename_i e; subst e; rfl
    · rfl
  · rw [hn]; split
    · rename_i e; subst e; exact h.root
    · exact h.root
theorem anc_free {T : List Nod} {i x : Nat} (h : (ndA T x).pa < 0) (hne : x ≠ i) : ¬ Anc T i x := anc_root h hne
end Go.Cas
