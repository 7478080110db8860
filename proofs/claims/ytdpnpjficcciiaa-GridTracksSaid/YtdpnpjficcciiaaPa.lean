/- the picture of marks: plain, and what a matrix is in memory -/
import Derived.Test.Ytdpnpjficcciiaamem2
namespace Go.Cas
set_option linter.unusedVariables false
set_option linter.unusedSimpArgs false
open Go.RowKit

structure Mrk where
  node : Int
  color : Int
  x : Int
  y : Int
  w : Int
  h : Int
  t : ByteArray
def mc (m : Mrk) : List Value := [.int .i64 m.node, .int .i64 m.color, .int .i64 m.x, .int .i64 m.y, .int .i64 m.w, .int .i64 m.h, .string m.t]
def topM (m : Mrk) : Int := if m.t.toList.isEmpty = true then m.y else m.y + m.h / 2
def insM (m : Mrk) (px py : Int) : Bool := decide (m.x ≤ px ∧ px < m.x + m.w ∧ topM m ≤ py ∧ py < m.y + m.h)
theorem insM_iff (m : Mrk) (px py : Int) : insM m px py = true ↔ (m.x ≤ px ∧ px < m.x + m.w ∧ topM m ≤ py ∧ py < m.y + m.h) := by unfold insM; simp
def stepM (px py : Int) (c : Int) (m : Mrk) : Int := if insM m px py = true then m.color else c
def pxl (L : List Mrk) (px py : Int) : Int := L.foldl (stepM px py) (-1)
theorem pxl_nil (px py : Int) : pxl [] px py = -1 := rfl
theorem pxl_take (L : List Mrk) (k : Nat) (m : Mrk) (px py : Int) (h : L[k]? = some m) : pxl (L.take (k + 1)) px py = stepM px py (pxl (L.take k) px py) m := by
  obtain ⟨h1, h2⟩ := List.getElem?_eq_some_iff.1 h
  rw [List.take_succ_eq_append_getElem h1, h2]
  simp [pxl]
/-- the middle of a pixel -/
def mid (k : Nat) : Int := (k : Int) * 64 + 32

/-- a row told by a function -/
def rowV (n : Nat) (f : Nat → Value) : Array Value := ((List.range n).map f).toArray
theorem rowV_size (n : Nat) (f : Nat → Value) : (rowV n f).size = n := by simp [rowV]
theorem rowV_get (n : Nat) (f : Nat → Value) (k : Nat) (h : k < n) : (rowV n f)[k]? = some (f k) := by simp [rowV, h]
theorem rowV_congr {n : Nat} {f g : Nat → Value} (h : ∀ k, k < n → f k = g k) : rowV n f = rowV n g := by
  unfold rowV
  congr 1
  apply List.map_congr_left
  intro k hk
  exact h k (by simpa using hk)
theorem rowV_set (n : Nat) (f : Nat → Value) (k : Nat) (v : Value) : (rowV n f).setIfInBounds k v = rowV n (fun j => if j = k then v else f j) := by
  apply Array.ext
  · simp [rowV]
  · intro i h1 h2
    have hi : i < n := by simpa [rowV] using h2
    rw [Array.getElem_setIfInBounds (by simpa [rowV] using hi)]
    simp only [rowV, List.getElem_toArray, List.getElem_map, List.getElem_range]
    by_cases e : k = i
    · subst e; simp
    · rw [if_neg e, if_neg (fun h => e h.symm)]
theorem rowV_next (n k : Nat) (g : Nat → Value) (c : Value) (f : Nat → Value) (hf : ∀ j, j < n → f j = if j < k then g j else c) : rowV n (fun j => if j = k then g k else f j) = rowV n (fun j => if j < k + 1 then g j else c) := by
  apply rowV_congr
  intro j hj
  rw [hf j hj]
  by_cases e : j = k
  · subst e; simp
  · by_cases h : j < k
    · rw [if_neg e, if_pos h, if_pos (by omega)]
    · rw [if_neg e, if_neg h, if_neg (by omega)]
/-- a matrix of ints: block O holds the rows, row y lies in block O + 1 + y -/
structure Mat (w : World) (sT iT : TypeId) (O H W : Nat) (F : Nat → Nat → Int) : Prop where
  top : Bk w O sT (rowV H (fun y => .slice (some ⟨O + 1 + y, 0, none⟩) W W))
  row : ∀ y, y < H → Bk w (O + 1 + y) iT (rowV W (fun x => .int .i64 (F y x)))
section
variable {w w' : World} {sT iT : TypeId} {O H W : Nat} {F G : Nat → Nat → Int}
theorem Mat.congr (m : Mat w sT iT O H W F) (h : ∀ y x, y < H → x < W → F y x = G y x) : Mat w sT iT O H W G :=
  ⟨m.top, fun y hy => by rw [← rowV_congr (f := fun x => .int .i64 (F y x)) (fun x hx => by rw [h y x hy hx])]; exact m.row y hy⟩
theorem Mat.below (m : Mat w sT iT O H W F) (hb : Below w.heap.size w w') : Mat w' sT iT O H W F := ⟨m.top.below hb m.top.lt, fun y hy => (m.row y hy).below hb (m.row y hy).lt⟩
theorem Mat.set_ (m : Mat w sT iT O H W F) (y x : Nat) (c : Int) : Mat (w.setCell ⟨O + 1 + y, x, none⟩ (.int .i64 c)) sT iT O H W (fun b a => if b = y ∧ a = x then c else F b a) := by
  refine ⟨m.top.far (by show O ≠ O + 1 + y; omega) _, fun b hb => ?_⟩
  by_cases e : b = y
  · subst e
    have := (m.row b hb).set_ x (.int .i64 c)
    rw [rowV_set] at this
    rw [rowV_congr (g := fun j => if j = x then .int .i64 c else .int .i64 (F b j))]
    · exact this
    · intro k hk
      by_cases h : k = x
      · simp [h]
      · simp [h]
  · rw [rowV_congr (g := fun j => .int .i64 (F b j))]
    · exact (m.row b hb).far (by show O + 1 + b ≠ O + 1 + y; omega) _
    · intro k hk; simp [e]
theorem Mat.cellTop (m : Mat w sT iT O H W F) {y : Nat} (hy : y < H) : w.cell? ⟨O, y, none⟩ = some (.slice (some ⟨O + 1 + y, 0, none⟩) W W) := by rw [m.top.cell, rowV_get _ _ _ hy]
theorem Mat.cellAt (m : Mat w sT iT O H W F) {y x : Nat} (hy : y < H) (hx : x < W) : w.cell? ⟨O + 1 + y, x, none⟩ = some (.int .i64 (F y x)) := by rw [(m.row y hy).cell, rowV_get _ _ _ hx]
theorem Mat.lt (m : Mat w sT iT O H W F) {y : Nat} (hy : y < H) : O + 1 + y < w.heap.size := (m.row y hy).lt
end
end Go.Cas
