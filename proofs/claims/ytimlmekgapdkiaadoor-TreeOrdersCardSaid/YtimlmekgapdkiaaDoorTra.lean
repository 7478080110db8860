/- plain (no program): trees of nodes; the order of two -/
import Derived.Below
namespace Go.Cas
set_option linter.unusedVariables false
set_option linter.unusedSimpArgs false

/-- a node: kind, tag, text, attributes, parent (-1: none), kids -/
structure Nod where
  k : Int
  tag : ByteArray
  txt : ByteArray
  at_ : List (ByteArray × ByteArray)
  pa : Int
  ki : List Nat
def n0 : Nod := ⟨0, ByteArray.empty, ByteArray.empty, [], -1, []⟩
def ndA (T : List Nod) (i : Nat) : Nod := T.getD i n0
theorem ndA_eq {T : List Nod} {i : Nat} {x : Nod} (h : T[i]? = some x) : ndA T i = x := by unfold ndA; rw [List.getD_eq_getElem?_getD, h]; rfl
theorem ndA_get {T : List Nod} {i : Nat} (h : i < T.length) : T[i]? = some (ndA T i) := by rw [List.getElem?_eq_getElem h, ndA_eq (List.getElem?_eq_getElem h)]
/-- a forest: parents and kids say the same, nobody stands above himself -/
structure WF (T : List Nod) (d : Nat → Nat) : Prop where
  pa : ∀ i, i < T.length → (ndA T i).pa = -1 ∨ (0 ≤ (ndA T i).pa ∧ (ndA T i).pa.toNat < T.length)
  ki : ∀ p, p < T.length → ∀ k ∈ (ndA T p).ki, k < T.length ∧ (ndA T k).pa = (p : Int)
  nd : ∀ p, p < T.length → (ndA T p).ki.Nodup
  up : ∀ i, i < T.length → 0 ≤ (ndA T i).pa → i ∈ (ndA T (ndA T i).pa.toNat).ki
  ac : ∀ i, i < T.length → 0 ≤ (ndA T i).pa → d (ndA T i).pa.toNat < d i
/-- the way from the root down to a node -/
inductive Way (T : List Nod) : Nat → List Nat → Prop
  | root {i : Nat} : (ndA T i).pa < 0 → Way T i [i]
  | step {i p : Nat} {l : List Nat} : (ndA T i).pa = (p : Int) → Way T p l → Way T i (l ++ [i])
theorem Way.ne {T : List Nod} {i : Nat} {l : List Nat} (h : Way T i l) : l ≠ [] := by cases h <;> simp
theorem Way.last {T : List Nod} {i : Nat} {l : List Nat} (h : Way T i l) : l.getLast h.ne = i := by cases h <;> simp
theorem Way.uniq {T : List Nod} {i : Nat} {l l' : List Nat} (h : Way T i l) (h' : Way T i l') : l = l' := by
  induction h generalizing l' with
  | root h => cases h' with
    | root _ => rfl
    | step e _ => omega
  | step e hw ih => cases h' with
    | root h => omega
    | step e' hw' =>
      obtain rfl := Int.ofNat.inj (e.symm.trans e')
      rw [ih hw']
theorem Way.ex {T : List Nod} {d : Nat → Nat} (h : WF T d) : ∀ (n i : Nat), d i ≤ n → i < T.length → ∃ l, Way T i l := by
  intro n
  induction n with
  | zero =>
    intro i hd hi
    rcases h.pa i hi with e | ⟨e1, e2⟩
    · exact ⟨[i], .root (by omega)⟩
    · have := h.ac i hi e1; omega
  | succ n ih =>
    intro i hd hi
    rcases h.pa i hi with e | ⟨e1, e2⟩
    · exact ⟨[i], .root (by omega)⟩
    · have := h.ac i hi e1
      obtain ⟨l, hl⟩ := ih _ (by omega) e2
      exact ⟨l ++ [i], .step (by omega) hl⟩
theorem Way.lt {T : List Nod} {d : Nat → Nat} (h : WF T d) {i : Nat} {l : List Nat} (hw : Way T i l) (hi : i < T.length) : ∀ x ∈ l, x < T.length := by
  induction hw with
  | root _ => intro x hx; simp at hx; omega
  | @step i p l e _ ih =>
    intro x hx
    rcases List.mem_append.1 hx with hx | hx
    · refine ih ?_ x hx
      rcases h.pa i hi with e1 | ⟨_, e2⟩
      · omega
      · rw [e] at e2; exact e2
    · simp at hx; omega
/-- along a way each is a kid of the one ahead -/
theorem Way.next {T : List Nod} {d : Nat → Nat} (h : WF T d) {i : Nat} {l : List Nat} (hw : Way T i l) (hi : i < T.length) : ∀ j a b, l[j]? = some a → l[j + 1]? = some b → b ∈ (ndA T a).ki := by
  induction hw with
  | root _ => intro j a b _ hb; simp at hb
  | @step i p l e hw ih =>
    intro j a b ha hb
    have hp : p < T.length := by
      rcases h.pa i hi with e1 | ⟨_, e2⟩
      · omega
      · rw [e] at e2; exact e2
    by_cases hj : j + 1 < l.length
    · rw [List.getElem?_append_left (by omega)] at ha hb
      exact ih hp j a b ha hb
    · have hj2 : j + 1 < (l ++ [i]).length := (List.getElem?_eq_some_iff.1 hb).1
      have hj3 : j + 1 = l.length := by simp at hj2; omega
      rw [List.getElem?_append_right (by omega), hj3] at hb
      rw [List.getElem?_append_left (by omega)] at ha
      simp at hb
      subst hb
      have hl := hw.last
      rw [List.getLast_eq_getElem] at hl
      have : l[j]? = some p := by
        rw [List.getElem?_eq_getElem (by omega)]
        congr 1
        refine Eq.trans ?_ hl
        congr 1; omega
      rw [this] at ha
      injection ha with ha
      subst ha
      have := h.up i hi (by omega)
      rw [e] at this
      exact this
/-- what the order of two ways is -/
def ixOf (l : List Nat) (x : Nat) : Nat := l.idxOf x
def cmpW (T : List Nod) : Nat → List Nat → List Nat → Int
  | _, [], [] => 0
  | _, [], _ :: _ => -1
  | _, _ :: _, [] => 1
  | p, x :: xs, y :: ys => if x = y then cmpW T x xs ys else if ixOf (ndA T p).ki x < ixOf (ndA T p).ki y then -1 else 1
/-- the numbers of kids along a way -/
def pos (T : List Nod) : Nat → List Nat → List Nat
  | _, [] => []
  | p, x :: xs => ixOf (ndA T p).ki x :: pos T x xs
def cmpL : List Nat → List Nat → Int
  | [], [] => 0
  | [], _ :: _ => -1
  | _ :: _, [] => 1
  | x :: xs, y :: ys => if x < y then -1 else if y < x then 1 else cmpL xs ys
def Chn (T : List Nod) : Nat → List Nat → Prop
  | _, [] => True
  | p, x :: xs => x ∈ (ndA T p).ki ∧ Chn T x xs
theorem cmp_eq {T : List Nod} : ∀ (xs ys : List Nat) (p : Nat), Chn T p xs → Chn T p ys → cmpW T p xs ys = cmpL (pos T p xs) (pos T p ys) := by
  intro xs
  induction xs with
  | nil => intro ys p _ _; cases ys <;> rfl
  | cons x xs ih =>
    intro ys p h1 h2
    cases ys with
    | nil => rfl
    | cons y ys =>
      simp only [cmpW, pos, cmpL]
      by_cases e : x = y
      · subst e
        rw [if_pos rfl, if_neg (by omega), if_neg (by omega)]
        exact ih ys x h1.2 h2.2
      · rw [if_neg e]
        have hne : ixOf (ndA T p).ki x ≠ ixOf (ndA T p).ki y := fun e2 => e (by
          have e1 := List.getElem_idxOf (List.idxOf_lt_length_of_mem h1.1)
          have e3 := List.getElem_idxOf (List.idxOf_lt_length_of_mem h2.1)
          unfold ixOf at e2
          rw [← e1, ← e3]
          congr 1)
        by_cases hlt : ixOf (ndA T p).ki x < ixOf (ndA T p).ki y
        · rw [if_pos hlt, if_pos hlt]
        · rw [if_neg hlt, if_neg hlt, if_pos (by omega)]
theorem pos_inj {T : List Nod} : ∀ (xs ys : List Nat) (p : Nat), Chn T p xs → Chn T p ys → pos T p xs = pos T p ys → xs = ys := by
  intro xs
  induction xs with
  | nil => intro ys p _ _ h; cases ys with
    | nil => rfl
    | cons y ys => simp [pos] at h
  | cons x xs ih =>
    intro ys p h1 h2 h
    cases ys with
    | nil => simp [pos] at h
    | cons y ys =>
      simp only [pos, List.cons.injEq] at h
      have e : x = y := by
        have e1 := List.getElem_idxOf (List.idxOf_lt_length_of_mem h1.1)
        have e3 := List.getElem_idxOf (List.idxOf_lt_length_of_mem h2.1)
        have e2 := h.1
        unfold ixOf at e2
        rw [← e1, ← e3]
        congr 1
      subst e
      rw [ih ys x h1.2 h2.2 h.2]
theorem cmpL_anti : ∀ (a b : List Nat), cmpL a b = - cmpL b a := by
  intro a
  induction a with
  | nil => intro b; cases b <;> rfl
  | cons x xs ih =>
    intro b
    cases b with
    | nil => rfl
    | cons y ys =>
      simp only [cmpL]
      rcases Nat.lt_trichotomy x y with h | h | h
      · rw [if_pos h, if_neg (by omega), if_pos h]
      · subst h; simp [ih ys]
      · rw [if_neg (by omega), if_pos h, if_pos h]; rfl
theorem cmpL_zero : ∀ (a b : List Nat), cmpL a b = 0 ↔ a = b := by
  intro a
  induction a with
  | nil => intro b; cases b <;> simp [cmpL]
  | cons x xs ih =>
    intro b
    cases b with
    | nil => simp [cmpL]
    | cons y ys =>
      simp only [cmpL, List.cons.injEq]
      rcases Nat.lt_trichotomy x y with h | h | h
      · rw [if_pos h]; constructor
        · intro h; omega
        · intro h; omega
      · subst h; simp [ih ys]
      · rw [if_neg (by omega), if_pos h]; constructor
        · intro h; omega
        · intro h; omega
theorem cmpL_trans : ∀ (a b c : List Nat), cmpL a b < 0 → cmpL b c < 0 → cmpL a c < 0 := by
  intro a
  induction a with
  | nil =>
    intro b c h1 h2
    cases c with
    | nil => cases b <;> simp [cmpL] at h1 h2
    | cons z zs => simp [cmpL]
  | cons x xs ih =>
    intro b c h1 h2
    cases b with
    | nil => simp [cmpL] at h1
    | cons y ys =>
      cases c with
      | nil => simp [cmpL] at h2
      | cons z zs =>
        simp only [cmpL] at h1 h2 ⊢
        by_cases e1 : x < y
        · by_cases e2 : y < z
          · rw [if_pos (by omega)]; omega
          · rw [if_neg e2] at h2
            by_cases e3 : z < y
            · rw [if_pos e3] at h2; omega
            · rw [if_pos (by omega)]; omega
        · rw [if_neg e1] at h1
          by_cases e2 : y < x
          · rw [if_pos e2] at h1; omega
          · rw [if_neg e2] at h1
            obtain rfl : x = y := by omega
            by_cases e3 : x < z
            · rw [if_pos e3]; omega
            · rw [if_neg e3] at h2 ⊢
              by_cases e4 : z < x
              · rw [if_pos e4] at h2; omega
              · rw [if_neg e4] at h2 ⊢
                exact ih ys zs h1 h2
/-- a way as its root and what follows -/
theorem Way.cons {T : List Nod} {d : Nat → Nat} (h : WF T d) {i : Nat} {l : List Nat} (hw : Way T i l) (hi : i < T.length) : ∃ r t, l = r :: t ∧ Chn T r t := by
  have hn := hw.next h hi
  cases l with
  | nil => exact absurd rfl hw.ne
  | cons r t =>
    refine ⟨r, t, rfl, ?_⟩
    clear hw
    induction t generalizing r with
    | nil => trivial
    | cons x xs ih =>
      refine ⟨hn 0 r x rfl rfl, ih x (fun j a b ha hb => hn (j + 1) a b (by simpa using ha) (by simpa using hb))⟩
/-- the order of two nodes -/
def ordW (T : List Nod) (X Y : List Nat) : Int × Bool :=
  match X, Y with
  | r :: xs, s :: ys => if r = s then (cmpW T r xs ys, true) else (0, false)
  | _, _ => (0, false)
structure OrdIs (T : List Nod) (a b : Int) (x : Int) (p : Bool) : Prop where
  out : (a < 0 ∨ (T.length : Int) ≤ a ∨ b < 0 ∨ (T.length : Int) ≤ b) → x = 0 ∧ p = false
  in_ : ∀ i j X Y, a = ((i : Nat) : Int) → b = ((j : Nat) : Int) → i < T.length → j < T.length → Way T i X → Way T j Y → (x, p) = ordW T X Y
theorem ord_self {T : List Nod} {d : Nat → Nat} (h : WF T d) (h0 : 0 < T.length) {x : Int} {p : Bool} (ho : OrdIs T 0 0 x p) : x = 0 ∧ p = true := by
  obtain ⟨l, hl⟩ := Way.ex h _ 0 (Nat.le_refl _) h0
  have := ho.in_ 0 0 l l rfl rfl h0 h0 hl hl
  obtain ⟨r, t, rfl, hc⟩ := hl.cons h h0
  simp only [ordW, if_true, Prod.mk.injEq] at this
  rw [cmp_eq _ _ _ hc hc, (cmpL_zero _ _).2 rfl] at this
  exact this
theorem ord_law {T : List Nod} {d : Nat → Nat} (h : WF T d) {a b c : Int} {ab ba bc ac : Int} {p q r s : Bool} (h1 : OrdIs T a b ab p) (h2 : OrdIs T b a ba q) (h3 : OrdIs T b c bc r) (h4 : OrdIs T a c ac s) :
    (p = q ∧ ab = -ba) ∧ (p = true → r = true → s = true) ∧ (p = true → (ab = 0 ↔ a = b)) ∧ (p = true → r = true → ab < 0 → bc < 0 → ac < 0) := by
  by_cases ha : a < 0 ∨ (T.length : Int) ≤ a
  · obtain ⟨rfl, rfl⟩ := h1.out (by omega)
    obtain ⟨rfl, rfl⟩ := h2.out (by omega)
    exact ⟨⟨rfl, rfl⟩, fun h => by simp at h, fun h => by simp at h, fun h => by simp at h⟩
  · by_cases hb : b < 0 ∨ (T.length : Int) ≤ b
    · obtain ⟨rfl, rfl⟩ := h1.out (by omega)
      obtain ⟨rfl, rfl⟩ := h2.out (by omega)
      exact ⟨⟨rfl, rfl⟩, fun h => by simp at h, fun h => by simp at h, fun h => by simp at h⟩
    · obtain ⟨i, rfl⟩ := Int.eq_ofNat_of_zero_le (show 0 ≤ a by omega)
      obtain ⟨j, rfl⟩ := Int.eq_ofNat_of_zero_le (show 0 ≤ b by omega)
      have hi : i < T.length := by omega
      have hj : j < T.length := by omega
      obtain ⟨X, hX⟩ := Way.ex h _ i (Nat.le_refl _) hi
      obtain ⟨Y, hY⟩ := Way.ex h _ j (Nat.le_refl _) hj
      have e1 := h1.in_ i j X Y rfl rfl hi hj hX hY
      have e2 := h2.in_ j i Y X rfl rfl hj hi hY hX
      have lX := hX.last; have lY := hY.last
      obtain ⟨rx, xs, eX, cX⟩ := hX.cons h hi
      obtain ⟨ry, ys, eY, cY⟩ := hY.cons h hj
      have key1 : (p = q ∧ ab = -ba) := by
        rw [eX, eY] at e1 e2
        simp only [ordW] at e1 e2
        by_cases e : rx = ry
        · subst e
          rw [if_pos rfl] at e1 e2
          simp only [Prod.mk.injEq] at e1 e2
          refine ⟨by rw [e1.2, e2.2], ?_⟩
          rw [e1.1, e2.1, cmp_eq _ _ _ cX cY, cmp_eq _ _ _ cY cX]
          exact cmpL_anti _ _
        · rw [if_neg e] at e1
          rw [if_neg (fun h => e h.symm)] at e2
          simp only [Prod.mk.injEq] at e1 e2
          exact ⟨by rw [e1.2, e2.2], by rw [e1.1, e2.1]; rfl⟩
      have key3 : p = true → (ab = 0 ↔ (i : Int) = (j : Int)) := by
        intro hp
        rw [eX, eY] at e1
        simp only [ordW] at e1
        by_cases e : rx = ry
        · subst e
          rw [if_pos rfl] at e1
          simp only [Prod.mk.injEq] at e1
          rw [e1.1, cmp_eq _ _ _ cX cY, cmpL_zero]
          constructor
          · intro hpq
            have := pos_inj _ _ _ cX cY hpq
            subst this
            have : X = Y := by rw [eX, eY]
            subst this
            rw [← lX, ← lY]
          · intro hij
            have hij : i = j := by omega
            subst hij
            have := hX.uniq hY
            rw [eX, eY] at this
            injection this with _ this
            rw [this]
        · rw [if_neg e] at e1
          simp only [Prod.mk.injEq] at e1
          rw [hp] at e1
          exact absurd e1.2 (by simp)
      refine ⟨key1, ?_, key3, ?_⟩
      all_goals
        by_cases hc : c < 0 ∨ (T.length : Int) ≤ c
        · obtain ⟨rfl, rfl⟩ := h3.out (by omega)
          intro _ hr; simp at hr
        · obtain ⟨k, rfl⟩ := Int.eq_ofNat_of_zero_le (show 0 ≤ c by omega)
          have hk : k < T.length := by omega
          obtain ⟨Z, hZ⟩ := Way.ex h _ k (Nat.le_refl _) hk
          have e3 := h3.in_ j k Y Z rfl rfl hj hk hY hZ
          have e4 := h4.in_ i k X Z rfl rfl hi hk hX hZ
          obtain ⟨rz, zs, eZ, cZ⟩ := hZ.cons h hk
          rw [eX, eY] at e1
          rw [eY, eZ] at e3
          rw [eX, eZ] at e4
          simp only [ordW] at e1 e3 e4
          intro hp hr
          by_cases ex : rx = ry
          · by_cases ey : ry = rz
            · subst ex ey
              rw [if_pos rfl] at e1 e3 e4
              simp only [Prod.mk.injEq] at e1 e3 e4
              first
              | exact e4.2
              | (rw [e1.1, e3.1, e4.1, cmp_eq _ _ _ cX cY, cmp_eq _ _ _ cY cZ, cmp_eq _ _ _ cX cZ]
                 exact cmpL_trans _ _ _)
            · rw [if_neg ey] at e3
              simp only [Prod.mk.injEq] at e3
              rw [hr] at e3
              exact absurd e3.2 (by simp)
          · rw [if_neg ex] at e1
            simp only [Prod.mk.injEq] at e1
            rw [hp] at e1
            exact absurd e1.2 (by simp)
end Go.Cas
