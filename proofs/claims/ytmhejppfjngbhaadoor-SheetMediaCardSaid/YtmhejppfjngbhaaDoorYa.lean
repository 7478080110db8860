/- plain (no program): bytes, names and numbers of a sheet's text -/
import Derived.Below
namespace Go.Cas
set_option linter.unusedVariables false
set_option linter.unusedSimpArgs false

/-- a byte of a text; 0: there is none -/
def bt (s : ByteArray) (i : Nat) : UInt8 := s.data.toList.getD i 0
theorem bt_eq {s : ByteArray} {i : Nat} (h : i < s.size) : bt s i = s[i] := by
  unfold bt
  rw [List.getD_eq_getElem?_getD, List.getElem?_eq_getElem (by simpa using h)]; rfl
theorem bt_out {s : ByteArray} {i : Nat} (h : s.size ≤ i) : bt s i = 0 := by
  unfold bt
  rw [List.getD_eq_getElem?_getD, List.getElem?_eq_none (by simpa using h)]; rfl
/-- where bytes of a sort end -/
def runE (p : UInt8 → Bool) (s : ByteArray) (i : Nat) : Nat := i + ((s.data.toList.drop i).takeWhile p).length
theorem run_len (p : UInt8 → Bool) : ∀ (l : List UInt8) (k : Nat), k ≤ l.length → (∀ j, j < k → ∀ c, l[j]? = some c → p c = true) → (∀ c, l[k]? = some c → p c = false) → (l.takeWhile p).length = k := by
  intro l
  induction l with
  | nil => intro k hk _ _; simp at hk; subst hk; rfl
  | cons a l ih =>
    intro k hk h1 h2
    cases k with
    | zero => rw [List.takeWhile_cons_of_neg (by rw [h2 a rfl]; simp)]; rfl
    | succ k =>
      rw [List.takeWhile_cons_of_pos (h1 0 (by omega) a rfl), List.length_cons, ih k (by simpa using hk) (fun j hj c hc => h1 (j + 1) (by omega) c hc) (fun c hc => h2 c hc)]
theorem runE_eq {p : UInt8 → Bool} {s : ByteArray} {i k : Nat} (h1 : i ≤ k) (h2 : k ≤ s.size) (h3 : ∀ j, i ≤ j → j < k → p (bt s j) = true) (h4 : k < s.size → p (bt s k) = false) : runE p s i = k := by
  unfold runE
  rw [run_len p _ (k - i)]
  · omega
  · simp; omega
  · intro j hj c hc
    rw [List.getElem?_drop] at hc
    have := h3 (i + j) (by omega) (by omega)
    unfold bt at this
    rw [List.getD_eq_getElem?_getD, hc] at this
    exact this
  · intro c hc
    rw [List.getElem?_drop, show i + (k - i) = k by omega] at hc
    have hk : k < s.size := by have := (List.getElem?_eq_some_iff.1 hc).1; simpa using this
    have := h4 hk
    unfold bt at this
    rw [List.getD_eq_getElem?_getD, hc] at this
    exact this
theorem runE_le (p : UInt8 → Bool) (s : ByteArray) (i : Nat) (h : i ≤ s.size) : i ≤ runE p s i ∧ runE p s i ≤ s.size := by
  unfold runE
  have h1 := (List.takeWhile_prefix (p := p) (l := s.data.toList.drop i)).length_le
  simp at h1
  have h2 : s.data.size = s.size := rfl
  omega
theorem runE_out (p : UInt8 → Bool) {s : ByteArray} {i : Nat} (h : s.size ≤ i) : runE p s i = i := by
  unfold runE
  rw [List.drop_eq_nil_of_le (by simpa using h)]; rfl
theorem runE_step {p : UInt8 → Bool} {s : ByteArray} {i : Nat} (h : i < s.size) : runE p s i = if p (bt s i) = true then runE p s (i + 1) else i := by
  unfold runE
  have e : s.data.toList.drop i = bt s i :: s.data.toList.drop (i + 1) := by
    have h' : i < s.data.toList.length := by simpa using h
    rw [List.drop_eq_getElem_cons h', bt_eq h]; rfl
  rw [e]
  split
  · rename_i hp
    rw [List.takeWhile_cons_of_pos hp, List.length_cons]; omega
  · rename_i hp
    rw [List.takeWhile_cons_of_neg hp]; rfl
def blC (c : UInt8) : Bool := c == 9 || c == 10 || c == 12 || c == 13 || c == 32
def dgC (c : UInt8) : Bool := decide (48 ≤ c.toNat) && decide (c.toNat ≤ 57)
def fsC (c : UInt8) : Bool := (decide (97 ≤ c.toNat) && decide (c.toNat ≤ 122)) || (decide (65 ≤ c.toNat) && decide (c.toNat ≤ 90)) || decide (c.toNat = 95) || decide (128 ≤ c.toNat)
def mrC (c : UInt8) : Bool := fsC c || dgC c || decide (c.toNat = 45)
/-- where a name ends that begins at a place; the place: none does -/
def nmE (s : ByteArray) (i : Nat) : Nat :=
  if bt s i = 45 ∧ bt s (i + 1) = 45 then runE mrC s (i + 2)
  else if bt s i = 45 then (if fsC (bt s (i + 1)) = true then runE mrC s (i + 1) else i)
  else if fsC (bt s i) = true then runE mrC s i else i
def sgC (c : UInt8) : Bool := c == 43 || c == 45
/-- likewise of a number -/
def nuE (s : ByteArray) (i : Nat) : Nat :=
  let j := if sgC (bt s i) = true then i + 1 else i
  let k := runE dgC s j
  if bt s k = 46 ∧ dgC (bt s (k + 1)) = true then runE dgC s (k + 1) else if j < k then k else i
/-- small letters -/
def loC (c : UInt8) : UInt8 := if 65 ≤ c.toNat ∧ c.toNat ≤ 90 then c + 32 else c
def small (s : ByteArray) : ByteArray := ⟨(s.data.toList.map loC).toArray⟩
/-- a string's form -/
def esc (c : UInt8) : List UInt8 := if c = 34 ∨ c = 92 then [92, c] else [c]
def quo (l : List UInt8) : List UInt8 := 34 :: (l.flatMap esc ++ [34])
/-- what a string says from a place on, up to its end q: the bytes; how it ends (0: well, 1: with the text, 2: bad); where -/
def strE (q : UInt8) : List UInt8 → Nat → List UInt8 → List UInt8 × Nat × Nat
  | [], i, o => (o, 1, i)
  | c :: l, i, o =>
    if c = q then (o, 0, i + 1)
    else if c = 10 then (o, 2, i)
    else if c = 92 then
      match l with
      | [] => (o, 1, i + 1)
      | d :: l => strE q l (i + 2) (o ++ [d])
    else strE q l (i + 1) (o ++ [c])
/-- a token: kind, form, unit, from, to -/
structure Tk where
  k : Nat
  t : ByteArray
  u : ByteArray
  a : Nat
  b : Nat
def strT (s : ByteArray) (i : Nat) : Tk :=
  match strE (bt s i) (s.data.toList.drop (i + 1)) (i + 1) [] with
  | (_, 2, e) => ⟨2, ByteArray.empty, ByteArray.empty, i, e⟩
  | (o, _, e) => ⟨1, ⟨(quo o).toArray⟩, ByteArray.empty, i, e⟩
/-- the token at a place -/
def tokA (s : ByteArray) (i : Nat) : Tk :=
  if blC (bt s i) = true then ⟨0, ⟨#[32]⟩, ByteArray.empty, i, runE blC s i⟩
  else if bt s i = 34 ∨ bt s i = 39 then strT s i
  else if i < nuE s i then
    (if nuE s i < nmE s (nuE s i) then ⟨5, s.extract i (nuE s i) ++ small (s.extract (nuE s i) (nmE s (nuE s i))), small (s.extract (nuE s i) (nmE s (nuE s i))), i, nmE s (nuE s i)⟩
     else if bt s (nuE s i) = 37 then ⟨4, s.extract i (nuE s i + 1), ByteArray.empty, i, nuE s i + 1⟩
     else ⟨3, s.extract i (nuE s i), ByteArray.empty, i, nuE s i⟩)
  else if i < nmE s i then
    (if bt s (nmE s i) = 40 then ⟨7, s.extract i (nmE s i + 1), ByteArray.empty, i, nmE s i + 1⟩ else ⟨6, s.extract i (nmE s i), ByteArray.empty, i, nmE s i⟩)
  else if bt s i = 35 ∧ mrC (bt s (i + 1)) = true then ⟨8, s.extract i (runE mrC s (i + 1)), ByteArray.empty, i, runE mrC s (i + 1)⟩
  else if bt s i = 64 ∧ i + 1 < nmE s (i + 1) then ⟨9, s.extract i (nmE s (i + 1)), ByteArray.empty, i, nmE s (i + 1)⟩
  else ⟨10, s.extract i (i + 1), ByteArray.empty, i, i + 1⟩
end Go.Cas
