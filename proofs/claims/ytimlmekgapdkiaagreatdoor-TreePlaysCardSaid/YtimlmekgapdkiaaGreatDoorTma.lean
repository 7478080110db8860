/- the tree: its memory -/
import Derived.Test.YtimlmekgapdkiaaGreatDoorProg
import Derived.WalkKit
import Derived.WalkLawsBesides
import Derived.Lib.Hide
import Derived.StillTailTactics
import Derived.Test.YtimlmekgapdkiaaGreatDoorbase
import Derived.Test.YtimlmekgapdkiaaGreatDoortree0
import Derived.Deep.LoopGhost
import Derived.Deep.DeepCutAuto
import Derived.Deep.CutBlock
import Derived.Outline
import Derived.Deep.QuietTactic
import Derived.BigQuiet
import Derived.BigRegion
import Derived.Laws.EntriesVeiled
namespace Go.Proofs.YtimlmekgapdkiaaGreatDoor
set_option linter.unusedVariables false
set_option linter.unusedSimpArgs false
open Go.RowKit Go.Cas

theorem ret_int {k : IntKind} {a b : Int} (h : a = b) : Ending.returned (.int k a) = .returned (.int k b) := by rw [h]
theorem ret_bool {a b : Bool} (h : a = b) : Ending.returned (.bool a) = .returned (.bool b) := by rw [h]
theorem ret_ix {k : IntKind} {a b : Int} {v : Value} (h : a = b) : Ending.returned (.tuple #[.int k a, v]) = .returned (.tuple #[.int k b, v]) := by rw [h]
/-- a node beside its two slices -/
structure NV where
  x : Nod
  va : Value
  vk : Value
def nvc (y : NV) : List Value := [.int .i64 y.x.k, .string y.x.tag, .string y.x.txt, y.va, .int .i64 y.x.pa, y.vk]
def atc (l : List (ByteArray × ByteArray)) : List Value := l.flatMap fun p => [.string p.1, .string p.2]
def kic (l : List Nat) : List Value := l.map fun k => .int .i64 ((k : Nat) : Int)
theorem atc_len (l : List (ByteArray × ByteArray)) : (atc l).length = l.length * 2 := by
  induction l with
  | nil => rfl
  | cons a l ih => unfold atc at ih ⊢; rw [List.flatMap_cons, List.length_append, ih]; simp; omega
theorem kic_len (l : List Nat) : (kic l).length = l.length := by simp [kic]
theorem nvs_len (M : List NV) : (M.flatMap nvc).length = M.length * 6 := by
  induction M with
  | nil => rfl
  | cons a l ih => rw [List.flatMap_cons, List.length_append, ih]; simp [nvc]; omega
/-- a slice that reads as a list, in blocks that nobody writes -/
def RdZ (w : World) (Z : Nat → Prop) (size : Nat) (v : Value) (n : Nat) (xs : List Value) : Prop :=
  xs.length = n * size ∧ ∃ A c, v = .slice A n c ∧ n ≤ c ∧ (0 < n → ∃ g o, A = some ⟨g, o, none⟩ ∧ Z g ∧ ∀ j u, xs[j]? = some u → w.cell? ⟨g, o + j, none⟩ = some u)
section
variable {w w' : World} {Z Z' : Nat → Prop} {size n lim B : Nat} {v : Value} {xs : List Value} {e : TypeId}
theorem RdZ.keep (h : RdZ w Z size v n xs) (hk : ∀ k, Z k → w'.heap[k]? = w.heap[k]?) (hz : ∀ k, Z k → Z' k) : RdZ w' Z' size v n xs := by
  obtain ⟨h1, A, c, h2, h3, h4⟩ := h
  refine ⟨h1, A, c, h2, h3, fun hn => ?_⟩
  obtain ⟨g, o, e, hg, hc⟩ := h4 hn
  exact ⟨g, o, e, hz g hg, fun j u hu => (World.cell?_of_block (a := ⟨g, o + j, none⟩) (hk g hg)).trans (hc j u hu)⟩
theorem RdZ.toS (h : RdZ w Z size v n xs) (hz : ∀ k, Z k → k < lim) : RdS w lim size v n xs := by
  obtain ⟨h1, A, c, h2, h3, h4⟩ := h
  refine ⟨h1, A, c, h2, h3, fun hn => ?_⟩
  obtain ⟨g, o, e, hg, hc⟩ := h4 hn
  exact ⟨g, o, e, hz g hg, hc⟩
theorem RdZ.nil (w : World) (Z : Nat → Prop) (size : Nat) : RdZ w Z size (.slice none 0 0) 0 [] := ⟨by simp, none, 0, rfl, by omega, fun h => by omega⟩
theorem RdZ.of_own (h : w.ownsRow B e size v n xs) (hz : ∀ g, v.ownBlock = some g → Z g) : RdZ w Z size v n xs := by
  obtain ⟨h1, A, c, rfl, h3, h4⟩ := RdS.of_own h
  refine ⟨h1, A, c, rfl, h3, fun hn => ?_⟩
  obtain ⟨g, o, rfl, hg, hc⟩ := h4 hn
  exact ⟨g, o, rfl, hz g rfl, hc⟩
end
/-- the blocks that a tree's calls may write -/
def exT (R L : Nat) (uv : Value) (k : Nat) : Prop := k = R ∨ k = L ∨ uv.ownBlock = some k
/-- the nodes of a tree -/
structure NS (B R L cap : Nat) (uv : Value) (Z : Nat → Prop) (M : List NV) (w : World) : Prop where
  root : Bk w R 44 #[.slice (some ⟨L, 0, none⟩) M.length cap, uv]
  row : ∃ cur : Array Value, w.heap[L]? = some (.cells cur 40 (0, 0)) ∧ cap * 6 ≤ cur.size ∧ cur.toList.take (M.length * 6) = M.flatMap nvc
  cap : M.length ≤ cap ∧ cap ≤ maxLen
  rd : ∀ y ∈ M, RdZ w Z 2 y.va y.x.at_.length (atc y.x.at_) ∧ RdZ w Z 1 y.vk y.x.ki.length (kic y.x.ki)
  geo : B ≤ R ∧ B ≤ L ∧ R ≠ L
  ub : ∀ k, uv.ownBlock = some k → B ≤ k ∧ k < w.heap.size ∧ k ≠ R ∧ k ≠ L
  z : ∀ k, Z k → B ≤ k ∧ k < w.heap.size ∧ ¬ exT R L uv k
section
variable {w w' : World} {B R L cap i : Nat} {uv : Value} {Z Z' : Nat → Prop} {M : List NV} {y y' : NV}
theorem NS.ltL (h : NS B R L cap uv Z M w) : L < w.heap.size := by
  obtain ⟨cur, h1, _⟩ := h.row
  exact (Array.getElem?_eq_some_iff.1 h1).1
theorem NS.ltR (h : NS B R L cap uv Z M w) : R < w.heap.size := h.root.lt
theorem NS.ex (h : NS B R L cap uv Z M w) {k : Nat} (hk : exT R L uv k) : B ≤ k ∧ k < w.heap.size := by
  rcases hk with rfl | rfl | hk
  · exact ⟨h.geo.1, h.ltR⟩
  · exact ⟨h.geo.2.1, h.ltL⟩
  · exact ⟨(h.ub k hk).1, (h.ub k hk).2.1⟩
theorem NS.keep (h : NS B R L cap uv Z M w) (hR : w'.heap[R]? = w.heap[R]?) (hL : w'.heap[L]? = w.heap[L]?) (hZ : ∀ k, Z k → w'.heap[k]? = w.heap[k]?) (hs : w.heap.size ≤ w'.heap.size) : NS B R L cap uv Z M w' := by
  refine ⟨hR.trans h.root, ?_, h.cap, fun y hy => ⟨(h.rd y hy).1.keep hZ (fun _ h => h), (h.rd y hy).2.keep hZ (fun _ h => h)⟩, h.geo, fun k hk => ?_, fun k hk => ?_⟩
  · obtain ⟨cur, h1, h2⟩ := h.row
    exact ⟨cur, hL.trans h1, h2⟩
  · have := h.ub k hk; omega
  · have := h.z k hk; exact ⟨this.1, by omega, this.2.2⟩
theorem NS.below (h : NS B R L cap uv Z M w) (hb : Below w.heap.size w w') : NS B R L cap uv Z M w' :=
  h.keep (hb.block R h.ltR) (hb.block L h.ltL) (fun k hk => hb.block k (h.z k hk).2.1) hb.size
theorem NS.heads (h : NS B R L cap uv Z M w) : w.cell? ⟨R, 0, none⟩ = some (.slice (some ⟨L, 0, none⟩) M.length cap) ∧ w.cell? ⟨R, 1, none⟩ = some uv ∧ w.frozen? ⟨R, 0, none⟩ = false ∧ w.frozen? ⟨R, 1, none⟩ = false :=
  ⟨by rw [h.root.cell]; rfl, by rw [h.root.cell]; rfl, h.root.free _, h.root.free _⟩
theorem NS.flat (h : NS B R L cap uv Z M w) {j : Nat} {u : Value} (hu : (M.flatMap nvc)[j]? = some u) : w.cell? ⟨L, j, none⟩ = some u := by
  obtain ⟨cur, h1, _, h3⟩ := h.row
  rw [cell_of_row w L j cur 40 (0, 0) h1]
  rw [← h3] at hu
  have hj := (List.getElem?_eq_some_iff.1 hu).1
  rw [List.getElem?_take_of_lt (by simp at hj; omega)] at hu
  simpa using hu
theorem NS.cell (h : NS B R L cap uv Z M w) (hy : M[i]? = some y) : (w.cell? ⟨L, i * 6, none⟩ = some (.int .i64 y.x.k) ∧ w.cell? ⟨L, i * 6 + 1, none⟩ = some (.string y.x.tag) ∧ w.cell? ⟨L, i * 6 + 2, none⟩ = some (.string y.x.txt)) ∧
    w.cell? ⟨L, i * 6 + 3, none⟩ = some y.va ∧ w.cell? ⟨L, i * 6 + 4, none⟩ = some (.int .i64 y.x.pa) ∧ w.cell? ⟨L, i * 6 + 5, none⟩ = some y.vk := by
  have key : ∀ j, j < 6 → ∀ u, (nvc y)[j]? = some u → w.cell? ⟨L, i * 6 + j, none⟩ = some u := fun j hj u hu => h.flat ((flat_get nvc 6 (fun _ => rfl) M i j y hy hj).trans hu)
  exact ⟨⟨key 0 (by omega) _ rfl, key 1 (by omega) _ rfl, key 2 (by omega) _ rfl⟩, key 3 (by omega) _ rfl, key 4 (by omega) _ rfl, key 5 (by omega) _ rfl⟩
theorem NS.toRow (h : NS B R L cap uv Z M w) : Row w L 40 6 cap M.length (M.flatMap nvc) := by
  obtain ⟨cur, h1, h2, h3⟩ := h.row
  exact ⟨cur, h1, h2, h3, h.cap.1, h.cap.2, nvs_len M⟩
theorem NS.free (h : NS B R L cap uv Z M w) (j : Nat) : w.frozen? ⟨L, j, none⟩ = false := by
  obtain ⟨cur, h1, _⟩ := h.row
  simp [World.frozen?, h1]
theorem flat_set {α β : Type} (f : α → List β) (sz : Nat) (hf : ∀ x, (f x).length = sz) : ∀ (L : List α) (i k : Nat) (x x' : α) (u : β), L[i]? = some x → k < sz → (f x).set k u = f x' → (L.flatMap f).set (i * sz + k) u = (L.set i x').flatMap f := by
  intro L
  induction L with
  | nil => intro i k x x' u h; simp at h
  | cons a L ih =>
    intro i k x x' u h hk hu
    cases i with
    | zero =>
      simp at h
      subst h
      rw [List.set_cons_zero, List.flatMap_cons, List.flatMap_cons, List.set_append_left _ _ (by rw [hf]; omega), ← hu]
      simp
    | succ i =>
      rw [List.set_cons_succ, List.flatMap_cons, List.flatMap_cons, ← ih i k x x' u (by simpa using h) hk hu, List.set_append_right _ _ (by rw [hf, Nat.succ_mul]; omega)]
      congr 2
      rw [hf, Nat.succ_mul]; omega
theorem NS.setN (h : NS B R L cap uv Z M w) (hy : M[i]? = some y) (j : Nat) (hj : j < 6) (u : Value) (hu : (nvc y).set j u = nvc y') (hr : RdZ w Z 2 y'.va y'.x.at_.length (atc y'.x.at_) ∧ RdZ w Z 1 y'.vk y'.x.ki.length (kic y'.x.ki)) :
    NS B R L cap uv Z (M.set i y') (w.setCell ⟨L, i * 6 + j, none⟩ u) := by
  have hzL : ∀ k, Z k → k ≠ L := fun k hk e => (h.z k hk).2.2 (.inr (.inl e))
  have hk : ∀ k, k ≠ L → (w.setCell ⟨L, i * 6 + j, none⟩ u).heap[k]? = w.heap[k]? := fun k hk => Below.heap_setCell w ⟨L, i * 6 + j, none⟩ u k hk
  have hs : (w.setCell ⟨L, i * 6 + j, none⟩ u).heap.size = w.heap.size := by simp [World.setCell]
  have keepR : ∀ z : NV, (RdZ w Z 2 z.va z.x.at_.length (atc z.x.at_) ∧ RdZ w Z 1 z.vk z.x.ki.length (kic z.x.ki)) → (RdZ (w.setCell ⟨L, i * 6 + j, none⟩ u) Z 2 z.va z.x.at_.length (atc z.x.at_) ∧ RdZ (w.setCell ⟨L, i * 6 + j, none⟩ u) Z 1 z.vk z.x.ki.length (kic z.x.ki)) :=
    fun z hz => ⟨hz.1.keep (fun k h => hk k (hzL k h)) (fun _ h => h), hz.2.keep (fun k h => hk k (hzL k h)) (fun _ h => h)⟩
  refine ⟨?_, ?_, by rw [List.length_set]; exact h.cap, fun z hz => ?_, h.geo, fun k hk => by rw [hs]; exact h.ub k hk, fun k hk => by rw [hs]; exact h.z k hk⟩
  · rw [List.length_set]
    exact h.root.far (p := ⟨L, i * 6 + j, none⟩) h.geo.2.2 u
  · obtain ⟨cur, h1, h2, h3⟩ := h.row
    refine ⟨cur.setIfInBounds (i * 6 + j) u, ?_, by simpa using h2, ?_⟩
    · simp [World.setCell, Array.getElem?_modify, h1]
    · have hi := (List.getElem?_eq_some_iff.1 hy).1
      rw [List.length_set, ← flat_set nvc 6 (fun _ => rfl) M i j y y' u hy hj hu, ← h3, Array.toList_setIfInBounds, List.take_set]
  · rcases List.mem_or_eq_of_mem_set hz with hz | rfl
    · exact keepR z (h.rd z hz)
    · exact keepR z hr
theorem NS.setU (h : NS B R L cap uv Z M w) (uv' : Value) (hu : ∀ k, uv'.ownBlock = some k → B ≤ k ∧ k < w.heap.size ∧ k ≠ R ∧ k ≠ L ∧ ¬ Z k) : NS B R L cap uv' Z M (w.setCell ⟨R, 1, none⟩ uv') := by
  have hzR : ∀ k, Z k → k ≠ R := fun k hk e => (h.z k hk).2.2 (.inl e)
  have hzL : ∀ k, Z k → k ≠ L := fun k hk e => (h.z k hk).2.2 (.inr (.inl e))
  have hk : ∀ k, k ≠ R → (w.setCell ⟨R, 1, none⟩ uv').heap[k]? = w.heap[k]? := fun k hk => Below.heap_setCell w ⟨R, 1, none⟩ uv' k hk
  have hs : (w.setCell ⟨R, 1, none⟩ uv').heap.size = w.heap.size := by simp [World.setCell]
  refine ⟨?_, ?_, h.cap, fun y hy => ⟨(h.rd y hy).1.keep (fun k hz => hk k (hzR k hz)) (fun _ h => h), (h.rd y hy).2.keep (fun k hz => hk k (hzR k hz)) (fun _ h => h)⟩, h.geo, fun k hk => ?_, fun k hz => ?_⟩
  · have := h.root.set_ 1 uv'
    simpa using this
  · obtain ⟨cur, h1, h2⟩ := h.row
    exact ⟨cur, (hk L (Ne.symm h.geo.2.2)).trans h1, h2⟩
  · have := hu k hk; rw [hs]; exact ⟨this.1, this.2.1, this.2.2.1, this.2.2.2.1⟩
  · rw [hs]
    refine ⟨(h.z k hz).1, (h.z k hz).2.1, ?_⟩
    rintro (e | e | e)
    · exact hzR k hz e
    · exact hzL k hz e
    · exact (hu k e).2.2.2.2 hz
theorem NS.app (h : NS B R L cap uv Z M w) {w6 : World} {gg cap6 : Nat} (y : NV) (hy : RdZ w Z 2 y.va y.x.at_.length (atc y.x.at_) ∧ RdZ w Z 1 y.vk y.x.ki.length (kic y.x.ki)) (hrow : Row w6 gg 40 6 cap6 (M.length + 1) (M.flatMap nvc ++ nvc y))
    (hk : ∀ k, k < w.heap.size → k ≠ L → w6.heap[k]? = w.heap[k]?) (hs : w.heap.size ≤ w6.heap.size) (hg : gg = L ∨ w.heap.size ≤ gg) : NS B R gg cap6 uv Z (M ++ [y]) (w6.setCell ⟨R, 0, none⟩ (.slice (some ⟨gg, 0, none⟩) (M.length + 1) cap6)) := by
  have hzR : ∀ k, Z k → k ≠ R := fun k hk e => (h.z k hk).2.2 (.inl e)
  have hzL : ∀ k, Z k → k ≠ L := fun k hk e => (h.z k hk).2.2 (.inr (.inl e))
  have hR := h.ltR
  have hgR : gg ≠ R := by
    rcases hg with e | e
    · rw [e]; exact Ne.symm h.geo.2.2
    · omega
  have hk6 : ∀ k, k ≠ R → (w6.setCell ⟨R, 0, none⟩ (.slice (some ⟨gg, 0, none⟩) (M.length + 1) cap6)).heap[k]? = w6.heap[k]? := fun k hk => Below.heap_setCell w6 ⟨R, 0, none⟩ _ k hk
  have hs6 : (w6.setCell ⟨R, 0, none⟩ (.slice (some ⟨gg, 0, none⟩) (M.length + 1) cap6)).heap.size = w6.heap.size := by simp [World.setCell]
  have keepR : ∀ z : NV, (RdZ w Z 2 z.va z.x.at_.length (atc z.x.at_) ∧ RdZ w Z 1 z.vk z.x.ki.length (kic z.x.ki)) → (RdZ (w6.setCell ⟨R, 0, none⟩ (.slice (some ⟨gg, 0, none⟩) (M.length + 1) cap6)) Z 2 z.va z.x.at_.length (atc z.x.at_) ∧ RdZ (w6.setCell ⟨R, 0, none⟩ (.slice (some ⟨gg, 0, none⟩) (M.length + 1) cap6)) Z 1 z.vk z.x.ki.length (kic z.x.ki)) :=
    fun z hz => ⟨hz.1.keep (fun k h' => (hk6 k (hzR k h')).trans (hk k (h.z k h').2.1 (hzL k h'))) (fun _ h => h), hz.2.keep (fun k h' => (hk6 k (hzR k h')).trans (hk k (h.z k h').2.1 (hzL k h'))) (fun _ h => h)⟩
  obtain ⟨cur, r1, r2, r3, r4, r5, r6⟩ := hrow
  refine ⟨?_, ⟨cur, (hk6 gg hgR).trans r1, r2, ?_⟩, by rw [List.length_append]; exact ⟨r4, r5⟩, fun z hz => ?_, ⟨h.geo.1, ?_, Ne.symm hgR⟩, fun k hu => ?_, fun k hz => ?_⟩
  · have : Bk w6 R 44 #[.slice (some ⟨L, 0, none⟩) M.length cap, uv] := (hk R hR h.geo.2.2).trans h.root
    have := this.set_ 0 (.slice (some ⟨gg, 0, none⟩) (M.length + 1) cap6)
    simpa using this
  · rw [List.length_append, List.flatMap_append]
    simpa using r3
  · rcases List.mem_append.1 hz with hz | hz
    · exact keepR z (h.rd z hz)
    · obtain rfl := List.mem_singleton.1 hz
      exact keepR z hy
  · rcases hg with e | e
    · rw [e]; exact h.geo.2.1
    · have := h.geo.1; omega
  · have := h.ub k hu
    rw [hs6]
    refine ⟨this.1, by omega, this.2.2.1, ?_⟩
    rcases hg with e | e
    · rw [e]; exact this.2.2.2
    · omega
  · have := h.z k hz
    rw [hs6]
    refine ⟨this.1, by omega, ?_⟩
    rintro (e | e | e)
    · exact hzR k hz e
    · rcases hg with e2 | e2
      · exact hzL k hz (e.trans e2)
      · omega
    · exact this.2.2 (.inr (.inr e))
theorem NS.shrink {M' : List NV} {K : List NV} (h : NS B R L cap uv Z M w) (hM : M = M' ++ K) : NS B R L M'.length uv Z M' (w.setCell ⟨R, 0, none⟩ (.slice (some ⟨L, 0, none⟩) M'.length M'.length)) := by
  have hzR : ∀ k, Z k → k ≠ R := fun k hk e => (h.z k hk).2.2 (.inl e)
  have hk6 : ∀ k, k ≠ R → (w.setCell ⟨R, 0, none⟩ (.slice (some ⟨L, 0, none⟩) M'.length M'.length)).heap[k]? = w.heap[k]? := fun k hk => Below.heap_setCell w ⟨R, 0, none⟩ _ k hk
  have hs6 : (w.setCell ⟨R, 0, none⟩ (.slice (some ⟨L, 0, none⟩) M'.length M'.length)).heap.size = w.heap.size := by simp [World.setCell]
  have hl : M'.length ≤ M.length := by rw [hM]; simp
  obtain ⟨cur, r1, r2, r3⟩ := h.row
  refine ⟨?_, ⟨cur, (hk6 L (Ne.symm h.geo.2.2)).trans r1, ?_, ?_⟩, ⟨Nat.le_refl _, Nat.le_trans hl (Nat.le_trans h.cap.1 h.cap.2)⟩, fun z hz => ?_, h.geo, fun k hu => by rw [hs6]; exact h.ub k hu, fun k hz => by rw [hs6]; exact h.z k hz⟩
  · have := h.root.set_ 0 (.slice (some ⟨L, 0, none⟩) M'.length M'.length)
    simpa using this
  · have := h.cap.1; omega
  · have := congrArg (List.take (M'.length * 6)) r3
    rw [List.take_take, Nat.min_eq_left (by omega), hM, List.flatMap_append, List.take_append_of_le_length (by rw [nvs_len]; exact Nat.le_refl _), List.take_of_length_le (l := M'.flatMap nvc) (by rw [nvs_len]; exact Nat.le_refl _)] at this
    exact this
  · have hz2 := h.rd z (by rw [hM]; exact List.mem_append_left _ hz)
    exact ⟨hz2.1.keep (fun k h' => hk6 k (hzR k h')) (fun _ h => h), hz2.2.keep (fun k h' => hk6 k (hzR k h')) (fun _ h => h)⟩
end
/-- what undoes a change -/
def UOk (B R : Nat) (Z : Nat → Prop) (w : World) (v : Value) (T T' : List Nod) : Prop :=
  ∃ F cs, v = .func (.func F) #[] cs ∧ (∀ w2 : World, (callFunc F cs).run Tryz.prog w2 = .ok (.enter F cs) w2) ∧ ∀ (w2 : World) (L2 cap2 : Nat) (uv2 : Value) (Z2 : Nat → Prop) (M2 : List NV), (∀ k, Z k → w2.heap[k]? = w.heap[k]? ∧ Z2 k) → NS B R L2 cap2 uv2 Z2 M2 w2 → M2.map NV.x = T →
    Calls Tryz.prog F cs w2 fun e w3 => (∃ u, e = .returned u) ∧ ∃ cap3 M3, NS B R L2 cap3 uv2 Z2 M3 w3 ∧ M3.map NV.x = T' ∧ Kept w2 w3 (fun k => k = R ∨ k = L2)
theorem UOk.mono {B R : Nat} {Z Z' : Nat → Prop} {w w' : World} {v : Value} {T T' : List Nod} (h : UOk B R Z w v T T') (hk : ∀ k, Z k → w'.heap[k]? = w.heap[k]? ∧ Z' k) : UOk B R Z' w' v T T' := by
  obtain ⟨F, cs, e, e2, f⟩ := h
  exact ⟨F, cs, e, e2, fun w2 L2 cap2 uv2 Z2 M2 h1 h2 h3 => f w2 L2 cap2 uv2 Z2 M2 (fun k hz => ⟨((h1 k (hk k hz).2).1).trans (hk k hz).1, (h1 k (hk k hz).2).2⟩) h2 h3⟩
def UCh (B R : Nat) (Z : Nat → Prop) (w : World) : List Nod → List (Value × List Nod) → Prop
  | _, [] => True
  | T, d :: r => UOk B R Z w d.1 T d.2 ∧ UCh B R Z w d.2 r
theorem UCh.mono {B R : Nat} {Z Z' : Nat → Prop} {w w' : World} (hk : ∀ k, Z k → w'.heap[k]? = w.heap[k]? ∧ Z' k) : ∀ {D : List (Value × List Nod)} {T : List Nod}, UCh B R Z w T D → UCh B R Z' w' T D := by
  intro D
  induction D with
  | nil => intro T _; trivial
  | cons d r ih => intro T h; exact ⟨h.1.mono hk, ih h.2⟩
/-- a tree: its nodes, and how to undo what was done (the last first) -/
structure TSi (B R L cap : Nat) (uv : Value) (Z : Nat → Prop) (M : List NV) (T0 : List Nod) (D : List (Value × List Nod)) (F : Nat → Prop) (w : World) : Prop where
  ns : NS B R L cap uv Z M w
  ow : w.ownsRow B 1 1 uv D.length (D.reverse.map Prod.fst)
  ch : UCh B R Z w T0 D
  f : ∀ k, exT R L uv k ∨ Z k → F k
  fb : ∀ k, F k → B ≤ k ∧ k < w.heap.size
def TS (B R : Nat) (T : List Nod) (D : List (Value × List Nod)) (F : Nat → Prop) (w : World) : Prop := ∃ L cap uv Z M, TSi B R L cap uv Z M T D F w ∧ M.map NV.x = T
section
variable {w w' : World} {B R L cap i : Nat} {uv : Value} {Z F : Nat → Prop} {M : List NV} {D : List (Value × List Nod)} {T T0 : List Nod}
theorem TSi.keep (h : TSi B R L cap uv Z M T0 D F w) (hk : ∀ k, F k → w'.heap[k]? = w.heap[k]?) (hs : w.heap.size ≤ w'.heap.size) : TSi B R L cap uv Z M T0 D F w' :=
  ⟨h.ns.keep (hk R (h.f R (.inl (.inl rfl)))) (hk L (h.f L (.inl (.inr (.inl rfl))))) (fun k hz => hk k (h.f k (.inr hz))) hs,
   own_keep h.ow (fun k hu => hk k (h.f k (.inl (.inr (.inr hu))))), h.ch.mono (fun k hz => ⟨hk k (h.f k (.inr hz)), hz⟩), h.f, fun k hf => ⟨(h.fb k hf).1, Nat.lt_of_lt_of_le (h.fb k hf).2 hs⟩⟩
theorem TSi.below (h : TSi B R L cap uv Z M T0 D F w) (hb : Below w.heap.size w w') : TSi B R L cap uv Z M T0 D F w' := h.keep (fun k hf => hb.block k (h.fb k hf).2) hb.size
theorem TSi.setU {D' : List (Value × List Nod)} {T0' : List Nod} {uv' : Value} (h : TSi B R L cap uv Z M T0 D F w) {w1 : World} {F' : Nat → Prop} (hk : ∀ k, k < w.heap.size → uv.ownBlock ≠ some k → w1.heap[k]? = w.heap[k]?) (hs : w.heap.size ≤ w1.heap.size)
    (ho : w1.ownsRow B 1 1 uv' D'.length (D'.reverse.map Prod.fst)) (ha : ∀ k, uv'.ownBlock = some k → uv.ownBlock = some k ∨ w.heap.size ≤ k)
    (hc : UCh B R Z (w1.setCell ⟨R, 1, none⟩ uv') T0' D') (hf : ∀ k, F k → F' k) (hf2 : ∀ k, uv'.ownBlock = some k → F' k) (hb : ∀ k, F' k → B ≤ k ∧ k < w1.heap.size) : TSi B R L cap uv' Z M T0' D' F' (w1.setCell ⟨R, 1, none⟩ uv') := by
  have hR : uv.ownBlock ≠ some R := fun e => (h.ns.ub R e).2.2.1 rfl
  have hL : uv.ownBlock ≠ some L := fun e => (h.ns.ub L e).2.2.2 rfl
  have hZ : ∀ k, Z k → uv.ownBlock ≠ some k := fun k hz e => (h.ns.z k hz).2.2 (.inr (.inr e))
  have n1 := h.ns.keep (hk R h.ns.ltR hR) (hk L h.ns.ltL hL) (fun k hz => hk k (h.ns.z k hz).2.1 (hZ k hz)) hs
  have hu : ∀ k, uv'.ownBlock = some k → B ≤ k ∧ k < w1.heap.size ∧ k ≠ R ∧ k ≠ L ∧ ¬ Z k := fun k e => by
    have h1 := ho.lt k e
    refine ⟨h1.1, h1.2, ?_, ?_, ?_⟩
    · intro e2; subst e2
      rcases ha k e with e3 | e3
      · exact hR e3
      · have := h.ns.ltR; omega
    · intro e2; subst e2
      rcases ha k e with e3 | e3
      · exact hL e3
      · have := h.ns.ltL; omega
    · intro hz
      rcases ha k e with e3 | e3
      · exact hZ k hz e3
      · have := (h.ns.z k hz).2.1; omega
  refine ⟨n1.setU uv' hu, ?_, hc, fun k hk => ?_, fun k hk => by have := hb k hk; simpa [World.setCell] using this⟩
  · exact own_keep ho (fun k e => Below.heap_setCell w1 ⟨R, 1, none⟩ uv' k (hu k e).2.2.1)
  · rcases hk with (e | e | e) | e
    · exact hf k (h.f k (.inl (.inl e)))
    · exact hf k (h.f k (.inl (.inr (.inl e))))
    · exact hf2 k e
    · exact hf k (h.f k (.inr e))
theorem TSi.setN {y y' : NV} (h : TSi B R L cap uv Z M T0 D F w) (hy : M[i]? = some y) (j : Nat) (hj : j < 6) (u : Value) (hu : (nvc y).set j u = nvc y') (hr : RdZ w Z 2 y'.va y'.x.at_.length (atc y'.x.at_) ∧ RdZ w Z 1 y'.vk y'.x.ki.length (kic y'.x.ki)) :
    TSi B R L cap uv Z (M.set i y') T0 D F (w.setCell ⟨L, i * 6 + j, none⟩ u) := by
  have hk : ∀ k, k ≠ L → (w.setCell ⟨L, i * 6 + j, none⟩ u).heap[k]? = w.heap[k]? := fun k hk => Below.heap_setCell w ⟨L, i * 6 + j, none⟩ u k hk
  exact ⟨h.ns.setN hy j hj u hu hr, own_keep h.ow (fun k e => hk k (h.ns.ub k e).2.2.2), h.ch.mono (fun k hz => ⟨hk k (fun e => (h.ns.z k hz).2.2 (.inr (.inl e))), hz⟩), h.f, fun k hf => by have := h.fb k hf; simpa [World.setCell] using this⟩
theorem TSi.wideZ (h : TSi B R L cap uv Z M T0 D F w) (P : Nat → Prop) (hP : ∀ k, P k → B ≤ k ∧ k < w.heap.size ∧ ¬ exT R L uv k) : TSi B R L cap uv (fun k => Z k ∨ P k) M T0 D (fun k => F k ∨ P k) w := by
  refine ⟨⟨h.ns.root, h.ns.row, h.ns.cap, fun y hy => ⟨(h.ns.rd y hy).1.keep (fun _ _ => rfl) (fun _ h => .inl h), (h.ns.rd y hy).2.keep (fun _ _ => rfl) (fun _ h => .inl h)⟩, h.ns.geo, h.ns.ub, fun k hk => ?_⟩, h.ow, h.ch.mono (fun k hz => ⟨rfl, .inl hz⟩), fun k hk => ?_, fun k hk => ?_⟩
  · rcases hk with hk | hk
    · exact h.ns.z k hk
    · exact hP k hk
  · rcases hk with hk | hk | hk
    · exact .inl (h.f k (.inl hk))
    · exact .inl (h.f k (.inr hk))
    · exact .inr hk
  · rcases hk with hk | hk
    · exact h.fb k hk
    · exact ⟨(hP k hk).1, (hP k hk).2.1⟩
theorem TSi.nodes {cap3 : Nat} {M3 : List NV} {w3 : World} (h : TSi B R L cap uv Z M T0 D F w) (n3 : NS B R L cap3 uv Z M3 w3) (hk : Kept w w3 (fun k => k = R ∨ k = L)) : TSi B R L cap3 uv Z M3 T0 D F w3 := by
  have hz : ∀ k, Z k → w3.heap[k]? = w.heap[k]? := fun k hz => hk.block k (h.ns.z k hz).2.1 (fun e => (h.ns.z k hz).2.2 (e.elim (fun e => .inl e) (fun e => .inr (.inl e))))
  exact ⟨n3, own_keep h.ow (fun k e => hk.block k (h.ns.ub k e).2.1 (fun e2 => e2.elim (h.ns.ub k e).2.2.1 (h.ns.ub k e).2.2.2)), h.ch.mono (fun k e => ⟨hz k e, e⟩), h.f, fun k hf => ⟨(h.fb k hf).1, Nat.lt_of_lt_of_le (h.fb k hf).2 hk.size⟩⟩
theorem TSi.app (h : TSi B R L cap uv Z M T0 D F w) {w6 : World} {gg cap6 : Nat} (y : NV) (hy : RdZ w Z 2 y.va y.x.at_.length (atc y.x.at_) ∧ RdZ w Z 1 y.vk y.x.ki.length (kic y.x.ki)) (hrow : Row w6 gg 40 6 cap6 (M.length + 1) (M.flatMap nvc ++ nvc y))
    (hk : ∀ k, k < w.heap.size → k ≠ L → w6.heap[k]? = w.heap[k]?) (hs : w.heap.size ≤ w6.heap.size) (hg : gg = L ∨ w.heap.size ≤ gg) (hlt : gg < w6.heap.size) : TSi B R gg cap6 uv Z (M ++ [y]) T0 D (fun k => F k ∨ k = gg) (w6.setCell ⟨R, 0, none⟩ (.slice (some ⟨gg, 0, none⟩) (M.length + 1) cap6)) := by
  have n2 := h.ns.app y hy hrow hk hs hg
  have hk6 : ∀ k, k ≠ R → (w6.setCell ⟨R, 0, none⟩ (.slice (some ⟨gg, 0, none⟩) (M.length + 1) cap6)).heap[k]? = w6.heap[k]? := fun k hk => Below.heap_setCell w6 ⟨R, 0, none⟩ _ k hk
  have hs6 : (w6.setCell ⟨R, 0, none⟩ (.slice (some ⟨gg, 0, none⟩) (M.length + 1) cap6)).heap.size = w6.heap.size := by simp [World.setCell]
  refine ⟨n2, own_keep h.ow (fun k e => (hk6 k (h.ns.ub k e).2.2.1).trans (hk k (h.ns.ub k e).2.1 (h.ns.ub k e).2.2.2)), h.ch.mono (fun k e => ⟨(hk6 k (fun e2 => (h.ns.z k e).2.2 (.inl e2))).trans (hk k (h.ns.z k e).2.1 (fun e2 => (h.ns.z k e).2.2 (.inr (.inl e2)))), e⟩), fun k hf => ?_, fun k hf => ?_⟩
  · rcases hf with (e | e | e) | e
    · exact .inl (h.f k (.inl (.inl e)))
    · exact .inr e
    · exact .inl (h.f k (.inl (.inr (.inr e))))
    · exact .inl (h.f k (.inr e))
  · rw [hs6]
    rcases hf with hf | rfl
    · have := h.fb k hf; omega
    · refine ⟨?_, hlt⟩
      rcases hg with e | e
      · rw [e]; exact h.ns.geo.2.1
      · have := h.ns.geo.1; have := h.ns.ltR; omega
theorem TS.keep (h : TS B R T D F w) (hk : ∀ k, F k → w'.heap[k]? = w.heap[k]?) (hs : w.heap.size ≤ w'.heap.size) : TS B R T D F w' := by
  obtain ⟨L, cap, uv, Z, M, h1, h2⟩ := h
  exact ⟨L, cap, uv, Z, M, h1.keep hk hs, h2⟩
theorem TS.fb (h : TS B R T D F w) {k : Nat} (hk : F k) : B ≤ k ∧ k < w.heap.size := by
  obtain ⟨L, cap, uv, Z, M, h1, _⟩ := h
  exact h1.fb k hk
theorem TS.below (h : TS B R T D F w) (hb : Below w.heap.size w w') : TS B R T D F w' := h.keep (fun _ hf => hb.block _ (h.fb hf).2) hb.size
theorem TS.kept {ex : Nat → Prop} (h : TS B R T D F w) (hb : Kept w w' ex) (hx : ∀ k, ex k → ¬ F k) : TS B R T D F w' := h.keep (fun k hf => hb.block k (h.fb hf).2 (fun e => hx k e hf)) hb.size
theorem TS.alloc (h : TS B R T D F w) (o : Obj) : TS B R T D F (w.alloc o) := h.below (bl_alloc (Below.refl _ _) o)
theorem TS.drewN (h : TS B R T D F w) (n : Nat) : TS B R T D F (w.drewN n) := h.below (bl_drewN (Below.refl _ _) n)
theorem TS.drew (h : TS B R T D F w) : TS B R T D F w.drew := h.below (bl_drew (Below.refl _ _))
theorem TS.set_ (h : TS B R T D F w) {g : Nat} (hg : ¬ F g) (o : Nat) (u : Value) : TS B R T D F (w.setCell ⟨g, o, none⟩ u) :=
  h.keep (fun k hf => Below.heap_setCell w ⟨g, o, none⟩ u k (fun e => hg ((show k = g from e) ▸ hf))) (by simp [World.setCell])
theorem TS.wide (h : TS B R T D F w) {F' : Nat → Prop} (hf : ∀ k, F k → F' k) (hb : ∀ k, F' k → B ≤ k ∧ k < w.heap.size) : TS B R T D F' w := by
  obtain ⟨L, cap, uv, Z, M, h1, h2⟩ := h
  exact ⟨L, cap, uv, Z, M, ⟨h1.ns, h1.ow, h1.ch, fun k hk => hf k (h1.f k hk), hb⟩, h2⟩
theorem TS.new_ (h : TS B R T D F w) {k : Nat} (hk : w.heap.size ≤ k) : ¬ F k := fun hf => by have := (h.fb hf).2; omega
end
/-- what a change of the tree leaves -/
def TOp (B R : Nat) (T' : List Nod) (D' : List (Value × List Nod)) (F : Nat → Prop) (w w' : World) : Prop := ∃ F', TS B R T' D' F' w' ∧ (∀ k, k < w.heap.size → F' k → F k) ∧ Kept w w' F
end Go.Proofs.YtimlmekgapdkiaaGreatDoor
