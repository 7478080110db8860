/- plain (no program): the tokens of a text; what they open and close; trimmed -/
import Derived.Test.YtmhejppfjngbhaaDoorYa
import Derived.Lib.IndexMore
namespace Go.Cas
set_option linter.unusedVariables false
set_option linter.unusedSimpArgs false

theorem runE_gt {p : UInt8 → Bool} {s : ByteArray} {i : Nat} (h : i < s.size) (hp : p (bt s i) = true) : i < runE p s i := by
  rw [runE_step h, if_pos hp]
  have := (runE_le p s (i + 1) (by omega)).1
  omega
theorem nmE_le (s : ByteArray) (i : Nat) (h : i ≤ s.size) : i ≤ nmE s i ∧ nmE s i ≤ s.size := by
  have z0 : ∀ j, bt s j ≠ 0 → j < s.size := fun j hj => Decidable.byContradiction fun e => hj (bt_out (by omega))
  have f0 : ∀ c, fsC c = true → c ≠ 0 := fun c hc e => by subst e; revert hc; decide
  unfold nmE
  split
  · rename_i hh
    have h1 := z0 (i + 1) (by rw [hh.2]; decide)
    have := runE_le mrC s (i + 2) (by omega)
    omega
  · split
    · split
      · rename_i hf
        have h1 := z0 (i + 1) (f0 _ hf)
        have := runE_le mrC s (i + 1) (by omega)
        omega
      · omega
    · split
      · have := runE_le mrC s i h
        omega
      · omega
theorem nuE_le (s : ByteArray) (i : Nat) (h : i ≤ s.size) : i ≤ nuE s i ∧ nuE s i ≤ s.size := by
  have z0 : ∀ j, bt s j ≠ 0 → j < s.size := fun j hj => Decidable.byContradiction fun e => hj (bt_out (by omega))
  have hj : ∀ j, j = (if sgC (bt s i) = true then i + 1 else i) → i ≤ j ∧ j ≤ s.size := fun j e => by
    split at e
    · rename_i hs
      have := z0 i (fun e2 => by rw [e2] at hs; revert hs; decide)
      omega
    · omega
  obtain ⟨j, e⟩ : ∃ j, j = (if sgC (bt s i) = true then i + 1 else i) := ⟨_, rfl⟩
  obtain ⟨h1, h2⟩ := hj j e
  have h3 := runE_le dgC s j h2
  unfold nuE
  rw [← e]
  show i ≤ (if _ then _ else if _ then _ else _) ∧ (if _ then _ else if _ then _ else _) ≤ _
  split
  · rename_i hh
    have h4 := z0 (runE dgC s j) (by rw [hh.1]; decide)
    have := runE_le dgC s (runE dgC s j + 1) (by omega)
    omega
  · split <;> omega
theorem strE_le (q : UInt8) (l : List UInt8) (i : Nat) (o : List UInt8) : i ≤ (strE q l i o).2.2 ∧ (strE q l i o).2.2 ≤ i + l.length := by
  fun_induction strE q l i o <;> simp_all <;> omega
theorem strT_b (s : ByteArray) (i : Nat) (h : i < s.size) : i < (strT s i).b ∧ (strT s i).b ≤ s.size := by
  have h1 := strE_le (bt s i) (s.data.toList.drop (i + 1)) (i + 1) []
  rw [List.length_drop, show s.data.toList.length = s.size from rfl] at h1
  unfold strT
  split
  · rename_i o e he; rw [he] at h1; simp only at h1 ⊢; omega
  · rename_i o n e hn he; rw [he] at h1; simp only at h1 ⊢; omega
theorem tokA_b (s : ByteArray) (i : Nat) (h : i < s.size) : i < (tokA s i).b ∧ (tokA s i).b ≤ s.size := by
  have z0 : ∀ j, bt s j ≠ 0 → j < s.size := fun j hj => Decidable.byContradiction fun e => hj (bt_out (by omega))
  have hn := nuE_le s i (by omega)
  have hn2 := nmE_le s (nuE s i) hn.2
  have hm := nmE_le s i (by omega)
  unfold tokA
  split
  · rename_i hb
    exact ⟨runE_gt h hb, (runE_le blC s i (by omega)).2⟩
  split
  · exact strT_b s i h
  split
  · split
    · exact ⟨by show i < nmE s (nuE s i); omega, hn2.2⟩
    · split
      · rename_i h37
        have := z0 (nuE s i) (by rw [h37]; decide)
        exact ⟨by show i < nuE s i + 1; omega, by show nuE s i + 1 ≤ s.size; omega⟩
      · exact ⟨by show i < nuE s i; omega, hn.2⟩
  split
  · split
    · rename_i h40
      have := z0 (nmE s i) (by rw [h40]; decide)
      exact ⟨by show i < nmE s i + 1; omega, by show nmE s i + 1 ≤ s.size; omega⟩
    · exact ⟨by show i < nmE s i; omega, hm.2⟩
  split
  · rename_i hh
    have h1 := (runE_le mrC s (i + 1) (by omega))
    exact ⟨by show i < runE mrC s (i + 1); omega, h1.2⟩
  split
  · rename_i hh
    have h1 := nmE_le s (i + 1) (by omega)
    exact ⟨by show i < nmE s (i + 1); omega, h1.2⟩
  · exact ⟨by show i < i + 1; omega, by show i + 1 ≤ s.size; omega⟩
/-- behind a comment that begins at a place -/
def cmE (s : ByteArray) (i : Nat) : Nat := if 0 ≤ Lib.index (s.data.toList.drop (i + 2)) [42, 47] then i + 2 + (Lib.index (s.data.toList.drop (i + 2)) [42, 47]).toNat + 2 else s.size
/-- a token more; blanks that meet are one -/
def addT (o : List Tk) (t : Tk) : List Tk :=
  match o.getLast? with
  | some z => if t.k = 0 ∧ z.k = 0 then o.dropLast ++ [{ z with b := t.b }] else o ++ [t]
  | none => [t]
def tokF : Nat → ByteArray → Nat → List Tk → List Tk
  | 0, _, _, o => o
  | f + 1, s, i, o =>
    if i < s.size then (if bt s i = 47 ∧ bt s (i + 1) = 42 then tokF f s (cmE s i) o else tokF f s (tokA s i).b (addT o (tokA s i))) else o
def toks (s : ByteArray) : List Tk := tokF (s.size + 1) s 0 []
/-- what closes a token that opens; 0: it does not -/
def clz (t : Tk) : Nat := if t.k = 7 then 41 else if t.k = 10 then (if t.t = ⟨#[40]⟩ then 41 else if t.t = ⟨#[91]⟩ then 93 else if t.t = ⟨#[123]⟩ then 125 else 0) else 0
def sgn (t : Tk) (c : Nat) : Bool := decide (t.k = 10) && decide (t.t = ⟨#[UInt8.ofNat c]⟩)
/-- the place of what closes: what is open, the tokens, their place -/
def clo : List Nat → List Tk → Nat → Nat
  | _, [], i => i
  | st, t :: l, i =>
    let st' := if clz t ≠ 0 then clz t :: st else match st with
      | o :: r => if sgn t o = true then r else o :: r
      | [] => []
    if st' = [] then i else clo st' l (i + 1)
def bl0 (t : Tk) : Bool := decide (t.k = 0)
def rtr (l : List Tk) : List Tk := (l.reverse.dropWhile bl0).reverse
def trimT (l : List Tk) : List Tk := rtr (l.dropWhile bl0)
/-- a token, or what it opens -/
inductive Cm
  | mk (t : Tk) (e : Nat) (ks : List Cm) (cl : Bool)
def Cm.t : Cm → Tk | .mk t _ _ _ => t
def Cm.e : Cm → Nat | .mk _ e _ _ => e
def Cm.ks : Cm → List Cm | .mk _ _ ks _ => ks
def Cm.cl : Cm → Bool | .mk _ _ _ c => c
/-- tokens as what they open; up to what ends them -/
def nst : Nat → List Tk → Nat → List Cm × List Tk × Bool
  | 0, l, _ => ([], l, false)
  | _ + 1, [], _ => ([], [], false)
  | f + 1, t :: l, e =>
    if e ≠ 0 ∧ sgn t e = true then ([], l, true)
    else if clz t ≠ 0 then (.mk t (clz t) (nst f l (clz t)).1 (nst f l (clz t)).2.2 :: (nst f (nst f l (clz t)).2.1 e).1, (nst f (nst f l (clz t)).2.1 e).2)
    else (.mk t 0 [] false :: (nst f l e).1, (nst f l e).2)
end Go.Cas
