/- seat C: a row of needs that is sorted in place -/
import Derived.Test.YtdpnpjficcciiaaCb
import Derived.Test.YtdpnpjficcciiaaSru
import Derived.Test.YtdpnpjficcciiaaQr
namespace Go.Proofs.Ytdpnpjficcciiaa
set_option linter.unusedVariables false
set_option linter.unusedSimpArgs false
open Go.RowKit Go.Cas

structure Nd where
  fr : Int
  sp : Int
  sz : Int
def nd (x : Nd) : List Value := [.int .i64 x.fr, .int .i64 x.sp, .int .i64 x.sz]
abbrev agN (x : Nd) : Value := .agg #[.int .i64 x.fr, .int .i64 x.sp, .int .i64 x.sz]
theorem nds_len (L : List Nd) : (L.flatMap nd).length = L.length * 3 := flat_len nd 3 (fun _ => rfl) L
theorem nds_get {L : List Nd} {i k : Nat} {x : Nd} (h : L[i]? = some x) (hk : k < 3) : (L.flatMap nd)[i * 3 + k]? = (nd x)[k]? := flat_get nd 3 (fun _ => rfl) L i k x h hk
theorem nds_set {L : List Nd} {i : Nat} (h : i < L.length) (y : Nd) : (((L.flatMap nd).set (i * 3) (.int .i64 y.fr)).set (i * 3 + 1) (.int .i64 y.sp)).set (i * 3 + 2) (.int .i64 y.sz) = (L.set i y).flatMap nd := by
  induction L generalizing i with
  | nil => simp at h
  | cons a L ih =>
    cases i with
    | zero => rfl
    | succ i =>
      have h2 := ih (i := i) (by simpa using h)
      rw [List.set_cons_succ, List.flatMap_cons, List.flatMap_cons, ← h2]
      have hl : (nd a).length = 3 := rfl
      rw [List.set_append_right _ _ (by omega), List.set_append_right _ _ (by omega), List.set_append_right _ _ (by omega), hl]
      rw [show (i + 1) * 3 - 3 = i * 3 by omega, show (i + 1) * 3 + 1 - 3 = i * 3 + 1 by omega, show (i + 1) * 3 + 2 - 3 = i * 3 + 2 by omega]
theorem own_setN {w : World} {base n m cap g size : Nat} {e : TypeId} {xs : List Value} (h : w.ownsRow base e size (.slice (some ⟨g, 0, none⟩) n cap) m xs) (i : Nat) (u : Value) : (w.setCell ⟨g, i, none⟩ u).ownsRow base e size (.slice (some ⟨g, 0, none⟩) n cap) m (xs.set i u) := by
  obtain ⟨h1, h2⟩ := h
  refine ⟨by simpa using h1, ?_⟩
  rcases h2 with ⟨h3, _⟩ | ⟨g', cap', cur, h3, h4, h5, h6, h7, h8, h9⟩
  · cases h3
  · injection h3 with e1 e2 e3
    injection e1 with e1
    injection e1 with e1
    subst e1 e2 e3
    refine .inr ⟨g, cap, cur.setIfInBounds i u, rfl, h4, Bk.set_ h5 i u, h6, h7, by simpa using h8, ?_⟩
    rw [Array.toList_setIfInBounds, List.take_set, h9]
theorem own_free {w : World} {base n m cap g size : Nat} {e : TypeId} {xs : List Value} (h : w.ownsRow base e size (.slice (some ⟨g, 0, none⟩) n cap) m xs) (i : Nat) : w.frozen? ⟨g, i, none⟩ = false := by
  rcases h.2 with ⟨h3, _⟩ | ⟨g', cap', cur, h3, h4, h5, _⟩
  · cases h3
  · injection h3 with e1 e2 e3
    injection e1 with e1
    injection e1 with e1
    subst e1
    exact Bk.free h5 i
/-- the row as it stands -/
structure SOk (B g cap n : Nat) (w0 : World) (L : List Nd) (w : World) : Prop where
  own : w.ownsRow B 46 3 (.slice (some ⟨g, 0, none⟩) n cap) n (L.flatMap nd)
  kept : Kept w0 w (fun k => k = g)
section
variable {B g cap n : Nat} {w0 w w' : World} {L : List Nd}
theorem SOk.len (h : SOk B g cap n w0 L w) : L.length = n := by have := h.own.1; rw [nds_len] at this; omega
theorem SOk.lt (h : SOk B g cap n w0 L w) : g < w.heap.size := (own_lt h.own rfl).2
theorem SOk.ge (h : SOk B g cap n w0 L w) : B ≤ g := (own_lt h.own rfl).1
theorem SOk.cap_ (h : SOk B g cap n w0 L w) : n ≤ cap := by
  rcases h.own.2 with ⟨h3, _⟩ | ⟨g', cap', cur, h3, h4, h5, h6, _⟩
  · cases h3
  · injection h3 with e1 e2 e3
    omega
theorem SOk.below (h : SOk B g cap n w0 L w) (hb : Below w.heap.size w w') : SOk B g cap n w0 L w' :=
  ⟨(Kept.of_below hb (fun _ => False)).own h.own (fun _ _ h => h), h.kept.then_ (Kept.of_below hb _) (fun _ _ e => e)⟩
theorem SOk.drew (h : SOk B g cap n w0 L w) : SOk B g cap n w0 L w.drew := h.below (bl_drew (Below.refl _ _))
theorem SOk.free (h : SOk B g cap n w0 L w) (i : Nat) : w.frozen? ⟨g, i, none⟩ = false := own_free h.own i
theorem SOk.cells (h : SOk B g cap n w0 L w) {k : Nat} {x : Nd} (hx : L[k]? = some x) : w.cell? ⟨g, k * 3, none⟩ = some (.int .i64 x.fr) ∧ w.cell? ⟨g, k * 3 + 1, none⟩ = some (.int .i64 x.sp) ∧ w.cell? ⟨g, k * 3 + 2, none⟩ = some (.int .i64 x.sz) := by
  have key : ∀ j, j < 3 → ∀ u, (nd x)[j]? = some u → w.cell? ⟨g, k * 3 + j, none⟩ = some u := fun j hj u hu => by
    have := h.own.cells (g := g) rfl (k * 3 + j) u (by rw [nds_get hx hj]; exact hu)
    rw [add_none, Nat.zero_add] at this
    exact this
  exact ⟨key 0 (by omega) _ rfl, key 1 (by omega) _ rfl, key 2 (by omega) _ rfl⟩
theorem SOk.put (h : SOk B g cap n w0 L w) {k : Nat} (hk : k < n) (y : Nd) : SOk B g cap n w0 (L.set k y) (((w.setCell ⟨g, k * 3, none⟩ (.int .i64 y.fr)).setCell ⟨g, k * 3 + 1, none⟩ (.int .i64 y.sp)).setCell ⟨g, k * 3 + 2, none⟩ (.int .i64 y.sz)) := by
  refine ⟨?_, ((h.kept.set_ g _ (fun _ => rfl) _).set_ g _ (fun _ => rfl) _).set_ g _ (fun _ => rfl) _⟩
  have := own_setN (own_setN (own_setN h.own (k * 3) (.int .i64 y.fr)) (k * 3 + 1) (.int .i64 y.sp)) (k * 3 + 2) (.int .i64 y.sz)
  rw [nds_set (by rw [h.len]; exact hk)] at this
  exact this
theorem SOk.swap1 (h : SOk B g cap n w0 L w) {i j : Nat} (hi : i < n) (hj : j < n) (x y : Nd) : SOk B g cap n w0 (swp L i j x y) ((((((w.setCell ⟨g, i * 3, none⟩ (.int .i64 y.fr)).setCell ⟨g, i * 3 + 1, none⟩ (.int .i64 y.sp)).setCell ⟨g, i * 3 + 2, none⟩ (.int .i64 y.sz)).setCell ⟨g, j * 3, none⟩ (.int .i64 x.fr)).setCell ⟨g, j * 3 + 1, none⟩ (.int .i64 x.sp)).setCell ⟨g, j * 3 + 2, none⟩ (.int .i64 x.sz)) := (h.put hi y).put hj x
theorem SOk.swap2 (h : SOk B g cap n w0 L w) {i j : Nat} (hi : i < n) (hj : j < n) (hij : i ≠ j) (x y : Nd) : SOk B g cap n w0 (swp L i j x y) ((((((w.setCell ⟨g, j * 3, none⟩ (.int .i64 x.fr)).setCell ⟨g, j * 3 + 1, none⟩ (.int .i64 x.sp)).setCell ⟨g, j * 3 + 2, none⟩ (.int .i64 x.sz)).setCell ⟨g, i * 3, none⟩ (.int .i64 y.fr)).setCell ⟨g, i * 3 + 1, none⟩ (.int .i64 y.sp)).setCell ⟨g, i * 3 + 2, none⟩ (.int .i64 y.sz)) := by
  have := (h.put hj x).put hi y
  rw [List.set_comm _ _ (Ne.symm hij)] at this
  exact this
end
/-- spans within bounds -/
def SpB (L : List Nd) : Prop := ∀ (i : Nat) (x : Nd), L[i]? = some x → 1 ≤ x.sp ∧ x.sp ≤ 20
theorem SpB.sm {L L' : List Nd} {a b : Nat} (h : SpB L) (k : SM Nd.sp L L' a b) : SpB L' := fun i x hx => by
  by_cases hi : a ≤ i ∧ i < b
  · obtain ⟨j, _, _, e⟩ := k.mem i hi.1 hi.2
    exact h j x (e ▸ hx)
  · exact h i x ((k.out i (by omega)) ▸ hx)
theorem c_cmp (x y : Nd) (hx : 1 ≤ x.sp ∧ x.sp ≤ 20) (hy : 1 ≤ y.sp ∧ y.sp ≤ 20) (w : World) : Calls Try.prog 31 #[agN x, agN y] w fun e w' => e = .returned (.int .i64 (x.sp - y.sp)) ∧ Below w.heap.size w w' := by
  have v1 : IntKind.i64.wrap (x.sp - y.sp) = x.sp - y.sp := IntWalk.i64_in _ (by omega)
  obtain ⟨xf, xs, xz⟩ := x
  obtain ⟨yf, ys, yz⟩ := y
  simp only at v1
  have HB := Lib.hid (bl_alloc (bl_alloc (Below.refl _ w) (.cells #[.int .i64 xf, .int .i64 xs, .int .i64 xz] 46)) (.cells #[.int .i64 yf, .int .i64 ys, .int .i64 yz] 46))
  go_enter Try.func31, Try.ntmps31
  go_wp2_with fail
  go_ret
  exact ⟨rfl, HB.out⟩
end Go.Proofs.Ytdpnpjficcciiaa
