/- a row of numbers that is sorted in place by the order of some key -/
import Derived.Test.YtimlmekgapdkiaaDoorUa
import Derived.Test.YtimlmekgapdkiaaDoorSru
import Derived.BigRegion
namespace Go.Proofs.YtimlmekgapdkiaaDoor
set_option linter.unusedVariables false
set_option linter.unusedSimpArgs false
open Go.RowKit Go.Cas

/-- the row as it stands -/
structure SOk (B g cap n : Nat) (w0 : World) (L : List Nat) (w : World) : Prop where
  own : w.ownsRow B 3 1 (.slice (some ⟨g, 0, none⟩) n cap) n (kic L)
  kept : Kept w0 w (fun k => k = g)
theorem kicg {L : List Nat} {k x : Nat} (h : L[k]? = some x) : (kic L)[k]? = some (.int .i64 (x : Int)) := by unfold kic; rw [List.getElem?_map, h]; rfl
theorem kics (L : List Nat) (k y : Nat) : (kic L).set k (.int .i64 (y : Int)) = kic (L.set k y) := by unfold kic; rw [List.map_set]
section
variable {B g cap n : Nat} {w0 w w' : World} {L : List Nat}
theorem SOk.len (h : SOk B g cap n w0 L w) : L.length = n := by have := h.own.1; rw [kic_len] at this; omega
theorem SOk.lt (h : SOk B g cap n w0 L w) : g < w.heap.size := (own_lt h.own rfl).2
theorem SOk.ge (h : SOk B g cap n w0 L w) : B ≤ g := (own_lt h.own rfl).1
theorem SOk.cap_ (h : SOk B g cap n w0 L w) : n ≤ cap := by
  rcases h.own.2 with ⟨h3, _⟩ | ⟨g', cap', cur, h3, h4, h5, h6, _⟩
  · cases h3
  · injection h3 with e1 e2 e3
    omega
theorem SOk.below (h : SOk B g cap n w0 L w) (hb : Below w.heap.size w w') : SOk B g cap n w0 L w' :=
  ⟨(Kept.of_below hb (fun _ => False)).own h.own (fun _ _ h => h), h.kept.then_ (Kept.of_below hb _) (fun _ _ e => e)⟩
theorem SOk.drew (h : SOk B g cap n w0 L w) : SOk B g cap n w0 L w.drew := h.below (bl_drew (Below.refl _ _))
theorem SOk.free (h : SOk B g cap n w0 L w) (i : Nat) : w.frozen? ⟨g, i, none⟩ = false := own_free h.own i
theorem SOk.cells (h : SOk B g cap n w0 L w) {k : Nat} {x : Nat} (hx : L[k]? = some x) : w.cell? ⟨g, k, none⟩ = some (.int .i64 (x : Int)) := by
  have := h.own.cells (g := g) rfl k _ (kicg hx)
  rw [add_none, Nat.zero_add] at this
  exact this
theorem SOk.put (h : SOk B g cap n w0 L w) (k : Nat) (y : Nat) : SOk B g cap n w0 (L.set k y) (w.setCell ⟨g, k, none⟩ (.int .i64 (y : Int))) := by
  refine ⟨?_, h.kept.set_ g _ (fun _ => rfl) _⟩
  have := own_setN h.own k (.int .i64 (y : Int))
  rw [kics] at this
  exact this
theorem SOk.swap1 (h : SOk B g cap n w0 L w) {i j : Nat} (x y : Nat) : SOk B g cap n w0 (swp L i j x y) ((w.setCell ⟨g, i, none⟩ (.int .i64 (y : Int))).setCell ⟨g, j, none⟩ (.int .i64 (x : Int))) := (h.put i y).put j x
theorem SOk.swap2 (h : SOk B g cap n w0 L w) {i j : Nat} (hij : i ≠ j) (x y : Nat) : SOk B g cap n w0 (swp L i j x y) ((w.setCell ⟨g, j, none⟩ (.int .i64 (x : Int))).setCell ⟨g, i, none⟩ (.int .i64 (y : Int))) := by
  have := (h.put j x).put i y
  rw [List.set_comm _ _ (Ne.symm hij)] at this
  exact this
end
/-- keys within bounds -/
def KyB (κ : Nat → Int) (L : List Nat) : Prop := ∀ (i : Nat) (x : Nat), L[i]? = some x → 0 ≤ κ x ∧ κ x ≤ 1000000000
theorem KyB.sm {κ : Nat → Int} {L L' : List Nat} {a b : Nat} (h : KyB κ L) (k : SM κ L L' a b) : KyB κ L' := fun i x hx => by
  by_cases hi : a ≤ i ∧ i < b
  · obtain ⟨j, _, _, e⟩ := k.mem i hi.1 hi.2
    exact h j x (e ▸ hx)
  · exact h i x ((k.out i (by omega)) ▸ hx)
/-- what the sorting calls to compare -/
def CmpOk (κ : Nat → Int) (pv : Value) (g : Nat) (w0 : World) : Prop := ∀ (w : World) (x y : Nat), Kept w0 w (fun k => k = g) → (0 ≤ κ x ∧ κ x ≤ 1000000000) → (0 ≤ κ y ∧ κ y ≤ 1000000000) → Calls Tryd.prog 76 #[.int .i64 (x : Int), .int .i64 (y : Int), pv] w fun e w' => e = .returned (.int .i64 (κ x - κ y)) ∧ Below w.heap.size w w'
abbrev cmpV (pv : Value) : Value := .func (.func 76) #[] #[pv]
theorem CmpOk.at_ {κ : Nat → Int} {pv : Value} {g : Nat} {w0 w : World} {x y : Nat} (h : CmpOk κ pv g w0) (hk : Kept w0 w (fun k => k = g)) (hx : 0 ≤ κ x ∧ κ x ≤ 1000000000) (hy : 0 ≤ κ y ∧ κ y ≤ 1000000000) : Calls Tryd.prog 76 #[.int .i64 (x : Int), .int .i64 (y : Int), pv] w fun e w' => e = .returned (.int .i64 (κ x - κ y)) ∧ Below w.heap.size w w' := h w x y hk hx hy
def SRet (B g cap n : Nat) (w0 : World) (P : List Nat → Prop) (e : Ending) (w' : World) : Prop := (∃ u, e = .returned u) ∧ ∃ L', P L' ∧ SOk B g cap n w0 L' w'
end Go.Proofs.YtimlmekgapdkiaaDoor
