/- plain (no program): rows of tokens; comments -/
import Derived.Test.YtmhejppfjngbhaaDoorYn
namespace Go.Cas
set_option linter.unusedVariables false
set_option linter.unusedSimpArgs false
open Go.RowKit

def rws (c : Tk → List Value) (l : List Tk) : List Value := l.flatMap c
section
variable {c : Tk → List Value} (hc : ∀ t, (c t).length = 5)
include hc
theorem rws_len (l : List Tk) : (rws c l).length = l.length * 5 := by
  induction l with
  | nil => rfl
  | cons a l ih => rw [rws, List.flatMap_cons, List.length_append, hc, List.length_cons]; unfold rws at ih; omega
theorem rws_app (l m : List Tk) : rws c (l ++ m) = rws c l ++ rws c m := by have _ := hc; simp [rws]
theorem rws_one (t : Tk) : rws c [t] = c t := by have _ := hc; simp [rws]
theorem rws_get {l : List Tk} {i j : Nat} {t : Tk} (h : l[i]? = some t) (hj : j < 5) : (rws c l)[i * 5 + j]? = (c t)[j]? := by
  obtain ⟨hi, he⟩ := List.getElem?_eq_some_iff.1 h
  have e : l = l.take i ++ t :: l.drop (i + 1) := by
    rw [← he]; simp
  have ht : (rws c (l.take i)).length = i * 5 := by rw [rws_len hc, List.length_take]; omega
  rw [e, rws_app hc, List.getElem?_append_right (by omega), ht, show i * 5 + j - i * 5 = j by omega]
  show ((t :: l.drop (i + 1)).flatMap c)[j]? = _
  rw [List.flatMap_cons, List.getElem?_append_left (by rw [hc]; exact hj)]
theorem rws_set (l : List Tk) (z : Tk) (j : Nat) (hj : j < 5) (u : Value) : (rws c (l ++ [z])).set (l.length * 5 + j) u = rws c l ++ (c z).set j u := by
  rw [rws_app hc, rws_one hc, List.set_append_right _ _ (by rw [rws_len hc]; omega), rws_len hc, show l.length * 5 + j - l.length * 5 = j by omega]
end
theorem ix2 : ∀ (l : List UInt8), 0 ≤ Lib.index l [42, 47] → (Lib.index l [42, 47]).toNat + 2 ≤ l.length := by
  intro l
  induction l with
  | nil => intro h; exact absurd h (by decide)
  | cons a l ih =>
    intro h
    rw [Lib.index] at h ⊢
    by_cases hp : [42, 47].isPrefixOf (a :: l) = true
    · rw [if_pos hp]
      cases l with
      | nil => simp [List.isPrefixOf] at hp
      | cons b l => simp
    · rw [if_neg hp] at h ⊢
      by_cases h1 : (Lib.index l [42, 47] == -1) = true
      · rw [if_pos h1] at h; exact absurd h (by decide)
      · rw [if_neg h1] at h ⊢
        have hge := Lib.index_ge l [42, 47]
        have hne : Lib.index l [42, 47] ≠ -1 := fun e => h1 (by rw [e]; rfl)
        have := ih (by omega)
        rw [List.length_cons]; omega
theorem cmE_b {s : ByteArray} {i : Nat} (h : i + 2 ≤ s.size) : i < cmE s i ∧ cmE s i ≤ s.size := by
  unfold cmE
  split
  · rename_i h0
    have := ix2 _ h0
    rw [List.length_drop, show s.data.toList.length = s.size from rfl] at this
    omega
  · omega
theorem tokF_cm {s : ByteArray} {f k : Nat} {o : List Tk} (hk : k < s.size) (h : bt s k = 47 ∧ bt s (k + 1) = 42) : tokF (f + 1) s k o = tokF f s (cmE s k) o := by
  rw [tokF, if_pos hk, if_pos h]
theorem tokF_tk {s : ByteArray} {f k : Nat} {o : List Tk} (hk : k < s.size) (h : ¬ (bt s k = 47 ∧ bt s (k + 1) = 42)) : tokF (f + 1) s k o = tokF f s (tokA s k).b (addT o (tokA s k)) := by
  rw [tokF, if_pos hk, if_neg h]
theorem tokF_end {s : ByteArray} {f k : Nat} {o : List Tk} (hk : ¬ k < s.size) : tokF f s k o = o := by
  cases f with
  | zero => rfl
  | succ f => rw [tokF, if_neg hk]
theorem addT_nil (t : Tk) : addT [] t = [t] := rfl
theorem addT_bl {o : List Tk} {z t : Tk} (h : t.k = 0) (h2 : z.k = 0) : addT (o ++ [z]) t = o ++ [{ z with b := t.b }] := by
  unfold addT; rw [List.getLast?_concat]; simp [h, h2]
theorem addT_no {o : List Tk} {z t : Tk} (h : ¬ (t.k = 0 ∧ z.k = 0)) : addT (o ++ [z]) t = (o ++ [z]) ++ [t] := by
  unfold addT; rw [List.getLast?_concat]; simp only; rw [if_neg h]
theorem addT_len (o : List Tk) (t : Tk) : (addT o t).length ≤ o.length + 1 := by
  unfold addT
  split
  · split
    · simp
    · simp
  · simp
/-- the cell by which the library searches -/
def MxC (w : World) : Prop := ∃ m, w.cell? ⟨0, 0, none⟩ = some (.int .i64 m)
theorem MxC.lt {w : World} (h : MxC w) : 0 < w.heap.size := by
  obtain ⟨m, h⟩ := h
  exact World.block_lt_of_cell? _ _ h
theorem MxC.below {w w' : World} {B : Nat} (h : MxC w) (hb : Below B w w') (hB : 0 < B) : MxC w' := by
  obtain ⟨m, h⟩ := h
  exact ⟨m, (hb.cell (p := ⟨0, 0, none⟩) hB).trans h⟩
end Go.Cas
