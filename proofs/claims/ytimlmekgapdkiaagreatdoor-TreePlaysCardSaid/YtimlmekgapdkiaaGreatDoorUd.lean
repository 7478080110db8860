/- the document's tree: its memory. Each block has a tag: 0: none of its own, 1: the root, 2: the nodes' row, 3: the row of what was, 4: kids, 5 + i: node i's attributes -/
import Derived.Test.YtimlmekgapdkiaaGreatDoorUb
import Derived.Test.YtimlmekgapdkiaaGreatDoorUc
namespace Go.Proofs.YtimlmekgapdkiaaGreatDoor
set_option linter.unusedVariables false
set_option linter.unusedSimpArgs false
open Go.RowKit Go.Cas

structure RT (B R L cap nT : Nat) (tv : Value) (xs : List Value) (τ : Nat → Nat) (M : List NV) (w : World) : Prop where
  root : Bk w R 28 #[.slice (some ⟨L, 0, none⟩) M.length cap, tv]
  row : Row w L 46 6 cap M.length (M.flatMap nvc)
  ow : w.ownsRow B 25 1 tv nT xs
  at_ : ∀ (i : Nat) y, M[i]? = some y → w.ownsRow B 79 2 y.va y.x.at_.length (atc y.x.at_)
  ki : ∀ (i : Nat) y, M[i]? = some y → RdZ w (fun k => τ k = 4) 1 y.vk y.x.ki.length (kic y.x.ki)
  tR : τ R = 1
  tL : τ L = 2
  tT : ∀ k, tv.ownBlock = some k → τ k = 3
  tA : ∀ (i : Nat) y, M[i]? = some y → ∀ k, y.va.ownBlock = some k → τ k = 5 + i
  tB : ∀ k, τ k ≠ 0 → B ≤ k ∧ k < w.heap.size
section
variable {w w' : World} {B R L cap nT i : Nat} {tv : Value} {xs : List Value} {τ : Nat → Nat} {M : List NV} {y y' : NV}
theorem RT.ltR (h : RT B R L cap nT tv xs τ M w) : R < w.heap.size := h.root.lt
theorem RT.ltL (h : RT B R L cap nT tv xs τ M w) : L < w.heap.size := (h.tB L (by rw [h.tL]; omega)).2
theorem RT.hB (h : RT B R L cap nT tv xs τ M w) : B ≤ w.heap.size := by
  have := (h.tB R (by rw [h.tR]; omega)); omega
theorem RT.ne (h : RT B R L cap nT tv xs τ M w) : R ≠ L := fun e => by have h1 := h.tR; have h2 := h.tL; rw [e] at h1; omega
theorem RT.heads (h : RT B R L cap nT tv xs τ M w) : w.cell? ⟨R, 0, none⟩ = some (.slice (some ⟨L, 0, none⟩) M.length cap) ∧ w.cell? ⟨R, 1, none⟩ = some tv ∧ w.frozen? ⟨R, 0, none⟩ = false ∧ w.frozen? ⟨R, 1, none⟩ = false :=
  ⟨by rw [h.root.cell]; rfl, by rw [h.root.cell]; rfl, h.root.free _, h.root.free _⟩
theorem RT.flat (h : RT B R L cap nT tv xs τ M w) {j : Nat} {u : Value} (hu : (M.flatMap nvc)[j]? = some u) : w.cell? ⟨L, j, none⟩ = some u := by
  obtain ⟨cur, h1, _, h3, _⟩ := h.row
  rw [cell_of_row w L j cur 46 (0, 0) h1]
  rw [← h3] at hu
  have hj := (List.getElem?_eq_some_iff.1 hu).1
  rw [List.getElem?_take_of_lt (by simp at hj; omega)] at hu
  simpa using hu
theorem RT.cell (h : RT B R L cap nT tv xs τ M w) (hy : M[i]? = some y) : (w.cell? ⟨L, i * 6, none⟩ = some (.int .i64 y.x.k) ∧ w.cell? ⟨L, i * 6 + 1, none⟩ = some (.string y.x.tag) ∧ w.cell? ⟨L, i * 6 + 2, none⟩ = some (.string y.x.txt)) ∧
    w.cell? ⟨L, i * 6 + 3, none⟩ = some y.va ∧ w.cell? ⟨L, i * 6 + 4, none⟩ = some (.int .i64 y.x.pa) ∧ w.cell? ⟨L, i * 6 + 5, none⟩ = some y.vk := by
  have key : ∀ j, j < 6 → ∀ u, (nvc y)[j]? = some u → w.cell? ⟨L, i * 6 + j, none⟩ = some u := fun j hj u hu => h.flat ((flat_get nvc 6 (fun _ => rfl) M i j y hy hj).trans hu)
  exact ⟨⟨key 0 (by omega) _ rfl, key 1 (by omega) _ rfl, key 2 (by omega) _ rfl⟩, key 3 (by omega) _ rfl, key 4 (by omega) _ rfl, key 5 (by omega) _ rfl⟩
theorem RT.free (h : RT B R L cap nT tv xs τ M w) (j : Nat) : w.frozen? ⟨L, j, none⟩ = false := by
  obtain ⟨cur, h1, _⟩ := h.row
  simp [World.frozen?, h1]
theorem RT.keep (h : RT B R L cap nT tv xs τ M w) (hk : ∀ k, τ k ≠ 0 → w'.heap[k]? = w.heap[k]?) (hs : w.heap.size ≤ w'.heap.size) : RT B R L cap nT tv xs τ M w' := by
  refine ⟨(hk R (by rw [h.tR]; omega)).trans h.root, h.row.at_ (hk L (by rw [h.tL]; omega)), own_keep h.ow (fun k e => hk k (by rw [h.tT k e]; omega)), fun i y hy => own_keep (h.at_ i y hy) (fun k e => hk k (by rw [h.tA i y hy k e]; omega)), fun i y hy => (h.ki i y hy).keep (fun k e => hk k (by rw [show τ k = 4 from e]; omega)) (fun _ h => h), h.tR, h.tL, h.tT, h.tA, fun k hf => ?_⟩
  have := h.tB k hf; omega
theorem RT.below (h : RT B R L cap nT tv xs τ M w) (hb : Below w.heap.size w w') : RT B R L cap nT tv xs τ M w' := h.keep (fun k hf => hb.block k (h.tB k hf).2) hb.size
/-- a block of nobody's is taken -/
theorem RT.tag (h : RT B R L cap nT tv xs τ M w) (P : Nat → Prop) [DecidablePred P] (t : Nat) (hP : ∀ k, P k → B ≤ k ∧ k < w.heap.size ∧ τ k = 0) : RT B R L cap nT tv xs (fun k => if P k then t else τ k) M w := by
  have key : ∀ k, τ k ≠ 0 → (if P k then t else τ k) = τ k := fun k hk => if_neg (fun e => hk (hP k e).2.2)
  refine ⟨h.root, h.row, h.ow, h.at_, fun i y hy => (h.ki i y hy).keep (fun _ _ => rfl) (fun k e => ?_), ?_, ?_, fun k e => ?_, fun i y hy k e => ?_, fun k hk => ?_⟩
  · have e : τ k = 4 := e
    show (if P k then t else τ k) = 4
    rw [key k (by omega)]; exact e
  · show (if P R then t else τ R) = 1
    rw [key R (by rw [h.tR]; omega)]; exact h.tR
  · show (if P L then t else τ L) = 2
    rw [key L (by rw [h.tL]; omega)]; exact h.tL
  · have := h.tT k e
    show (if P k then t else τ k) = 3
    rw [key k (by omega)]; exact this
  · have := h.tA i y hy k e
    show (if P k then t else τ k) = 5 + i
    rw [key k (by omega)]; exact this
  · by_cases e : P k
    · exact ⟨(hP k e).1, (hP k e).2.1⟩
    · have hk : (if P k then t else τ k) ≠ 0 := hk
      rw [if_neg e] at hk
      exact h.tB k hk
/-- a node's cell is written: not its attributes -/
theorem RT.setN (h : RT B R L cap nT tv xs τ M w) (hy : M[i]? = some y) (j : Nat) (hj : j < 6) (u : Value) (hu : (nvc y).set j u = nvc y') (ha : y'.va = y.va ∧ y'.x.at_ = y.x.at_) (hr : RdZ w (fun k => τ k = 4) 1 y'.vk y'.x.ki.length (kic y'.x.ki)) :
    RT B R L cap nT tv xs τ (M.set i y') (w.setCell ⟨L, i * 6 + j, none⟩ u) := by
  have hk : ∀ k, k ≠ L → (w.setCell ⟨L, i * 6 + j, none⟩ u).heap[k]? = w.heap[k]? := fun k hk => Below.heap_setCell w ⟨L, i * 6 + j, none⟩ u k hk
  have hs : (w.setCell ⟨L, i * 6 + j, none⟩ u).heap.size = w.heap.size := by simp [World.setCell]
  have hnL : ∀ k, τ k ≠ 2 → k ≠ L := fun k h1 e => h1 (by rw [e]; exact h.tL)
  have get : ∀ (q : Nat) z, (M.set i y')[q]? = some z → (q = i ∧ z = y') ∨ M[q]? = some z := fun q z hz => by
    rw [List.getElem?_set] at hz
    by_cases e : i = q
    · rw [if_pos e] at hz
      split at hz
      · injection hz with hz; exact .inl ⟨e.symm, hz.symm⟩
      · cases hz
    · rw [if_neg e] at hz; exact .inr hz
  refine ⟨?_, ?_, own_keep h.ow (fun k e => hk k (hnL k (by rw [h.tT k e]; omega))), fun q z hz => ?_, fun q z hz => ?_, h.tR, h.tL, h.tT, fun q z hz k e => ?_, fun k hf => by rw [hs]; exact h.tB k hf⟩
  · rw [List.length_set]
    exact h.root.far (p := ⟨L, i * 6 + j, none⟩) h.ne u
  · obtain ⟨cur, h1, h2, h3, h4, h5, h6⟩ := h.row
    refine ⟨cur.setIfInBounds (i * 6 + j) u, ?_, by simpa using h2, ?_, by rw [List.length_set]; exact h4, h5, by rw [List.length_set]; exact nvs_len _ |>.trans (by rw [List.length_set])⟩
    · simp [World.setCell, Array.getElem?_modify, h1]
    · have hi := (List.getElem?_eq_some_iff.1 hy).1
      rw [List.length_set, ← flat_set nvc 6 (fun _ => rfl) M i j y y' u hy hj hu, ← h3, Array.toList_setIfInBounds, List.take_set]
  · rcases get q z hz with ⟨rfl, rfl⟩ | hz
    · rw [ha.1, ha.2]
      exact own_keep (h.at_ q y hy) (fun k e => hk k (hnL k (by rw [h.tA q y hy k e]; omega)))
    · exact own_keep (h.at_ q z hz) (fun k e => hk k (hnL k (by rw [h.tA q z hz k e]; omega)))
  · rcases get q z hz with ⟨rfl, rfl⟩ | hz
    · exact hr.keep (fun k e => hk k (hnL k (by rw [show τ k = 4 from e]; omega))) (fun _ h => h)
    · exact (h.ki q z hz).keep (fun k e => hk k (hnL k (by rw [show τ k = 4 from e]; omega))) (fun _ h => h)
  · rcases get q z hz with ⟨rfl, rfl⟩ | hz
    · rw [ha.1] at e; exact h.tA q y hy k e
    · exact h.tA q z hz k e
/-- the row of what was is another one -/
theorem RT.setT {w6 : World} {nT' : Nat} {xs' : List Value} (h : RT B R L cap nT tv xs τ M w) (tv' : Value) (hk : ∀ k, k < w.heap.size → tv.ownBlock ≠ some k → w6.heap[k]? = w.heap[k]?) (hs : w.heap.size ≤ w6.heap.size)
    (ho : w6.ownsRow B 25 1 tv' nT' xs') (ha : ∀ k, tv'.ownBlock = some k → tv.ownBlock = some k ∨ w.heap.size ≤ k) :
    RT B R L cap nT' tv' xs' (fun k => if tv'.ownBlock = some k then 3 else τ k) M (w6.setCell ⟨R, 1, none⟩ tv') := by
  have hnT : ∀ k, τ k ≠ 0 → τ k ≠ 3 → w6.heap[k]? = w.heap[k]? := fun k h1 h2 => hk k (h.tB k h1).2 (fun e => h2 (h.tT k e))
  have hkR : ∀ k, k ≠ R → (w6.setCell ⟨R, 1, none⟩ tv').heap[k]? = w6.heap[k]? := fun k hk => Below.heap_setCell w6 ⟨R, 1, none⟩ tv' k hk
  have hnR : ∀ k, τ k ≠ 1 → k ≠ R := fun k h1 e => h1 (by rw [e]; exact h.tR)
  have hs6 : (w6.setCell ⟨R, 1, none⟩ tv').heap.size = w6.heap.size := by simp [World.setCell]
  have key : ∀ k, τ k ≠ 0 → τ k ≠ 3 → (if tv'.ownBlock = some k then 3 else τ k) = τ k := fun k h1 h2 => if_neg (fun e => by
    rcases ha k e with e | e
    · exact h2 (h.tT k e)
    · have := (h.tB k h1).2; omega)
  have both : ∀ k, τ k ≠ 0 → τ k ≠ 3 → τ k ≠ 1 → (w6.setCell ⟨R, 1, none⟩ tv').heap[k]? = w.heap[k]? := fun k h1 h2 h3 => (hkR k (hnR k h3)).trans (hnT k h1 h2)
  refine ⟨?_, h.row.at_ (both L (by rw [h.tL]; omega) (by rw [h.tL]; omega) (by rw [h.tL]; omega)), own_keep ho (fun k e => hkR k ?_), fun i y hy => own_keep (h.at_ i y hy) (fun k e => ?_), fun i y hy => (h.ki i y hy).keep (fun k e => ?_) (fun k e => ?_), ?_, ?_, fun k e => if_pos e, fun i y hy k e => ?_, fun k hf => ?_⟩
  · have : Bk w6 R 28 #[.slice (some ⟨L, 0, none⟩) M.length cap, tv] := (hnT R (by rw [h.tR]; omega) (by rw [h.tR]; omega)).trans h.root
    have := this.set_ 1 tv'
    simpa using this
  · intro e2; subst e2
    rcases ha k e with e | e
    · have := h.tT k e; have := h.tR; omega
    · have := h.ltR; omega
  · have := h.tA i y hy k e
    exact both k (by omega) (by omega) (by omega)
  · have : τ k = 4 := e
    exact both k (by omega) (by omega) (by omega)
  · have : τ k = 4 := e
    show (if tv'.ownBlock = some k then 3 else τ k) = 4
    rw [key k (by omega) (by omega)]; exact this
  · show (if tv'.ownBlock = some R then 3 else τ R) = 1
    rw [key R (by rw [h.tR]; omega) (by rw [h.tR]; omega)]; exact h.tR
  · show (if tv'.ownBlock = some L then 3 else τ L) = 2
    rw [key L (by rw [h.tL]; omega) (by rw [h.tL]; omega)]; exact h.tL
  · have := h.tA i y hy k e
    show (if tv'.ownBlock = some k then 3 else τ k) = 5 + i
    rw [key k (by omega) (by omega)]; exact this
  · rw [hs6]
    by_cases e : tv'.ownBlock = some k
    · exact ho.lt k e
    · have hf : (if tv'.ownBlock = some k then 3 else τ k) ≠ 0 := hf
      rw [if_neg e] at hf
      have := h.tB k hf; omega
/-- a node is appended -/
theorem RT.app {w6 : World} {gg cap6 : Nat} (h : RT B R L cap nT tv xs τ M w) (y : NV) (hya : y.va = .slice none 0 0 ∧ y.x.at_ = []) (hyk : y.vk = .slice none 0 0 ∧ y.x.ki = []) (hrow : Row w6 gg 46 6 cap6 (M.length + 1) (M.flatMap nvc ++ nvc y))
    (hk : ∀ k, k < w.heap.size → k ≠ L → w6.heap[k]? = w.heap[k]?) (hs : w.heap.size ≤ w6.heap.size) (hg : gg = L ∨ w.heap.size ≤ gg) (hlt : gg < w6.heap.size) : RT B R gg cap6 nT tv xs (fun k => if k = gg then 2 else τ k) (M ++ [y]) (w6.setCell ⟨R, 0, none⟩ (.slice (some ⟨gg, 0, none⟩) (M.length + 1) cap6)) := by
  obtain ⟨u, hu⟩ : ∃ u, u = Value.slice (some ⟨gg, 0, none⟩) (M.length + 1) cap6 := ⟨_, rfl⟩
  rw [← hu]
  have hkR : ∀ k, k ≠ R → (w6.setCell ⟨R, 0, none⟩ u).heap[k]? = w6.heap[k]? := fun k hk => Below.heap_setCell w6 ⟨R, 0, none⟩ u k hk
  have hs6 : (w6.setCell ⟨R, 0, none⟩ u).heap.size = w6.heap.size := by simp [World.setCell]
  have hnL : ∀ k, τ k ≠ 2 → k ≠ L := fun k h1 e => h1 (by rw [e]; exact h.tL)
  have hnR : ∀ k, τ k ≠ 1 → k ≠ R := fun k h1 e => h1 (by rw [e]; exact h.tR)
  have hng : ∀ k, τ k ≠ 0 → τ k ≠ 2 → k ≠ gg := fun k h1 h2 e => by
    rcases hg with e2 | e2
    · exact hnL k h2 (e.trans e2)
    · have := (h.tB k h1).2; omega
  have both : ∀ k, τ k ≠ 0 → τ k ≠ 2 → τ k ≠ 1 → (w6.setCell ⟨R, 0, none⟩ u).heap[k]? = w.heap[k]? := fun k h1 h2 h3 => (hkR k (hnR k h3)).trans (hk k (h.tB k h1).2 (hnL k h2))
  have hgR : gg ≠ R := fun e => hng R (by rw [h.tR]; omega) (by rw [h.tR]; omega) e.symm
  have get : ∀ (q : Nat) z, (M ++ [y])[q]? = some z → (q = M.length ∧ z = y) ∨ M[q]? = some z := fun q z hz => by
    rcases Nat.lt_or_ge q M.length with e | e
    · rw [List.getElem?_append_left e] at hz; exact .inr hz
    · rw [List.getElem?_append_right e] at hz
      have h1 := (List.getElem?_eq_some_iff.1 hz).1
      have h2 : q - M.length = 0 := by simp at h1; omega
      rw [h2] at hz
      injection hz with hz
      exact .inl ⟨by omega, hz.symm⟩
  refine ⟨?_, ?_, own_keep h.ow (fun k e => ?_), fun i z hz => ?_, fun i z hz => ?_, ?_, if_pos rfl, fun k e => ?_, fun i z hz k e => ?_, fun k hf => ?_⟩
  · have : Bk w6 R 28 #[.slice (some ⟨L, 0, none⟩) M.length cap, tv] := (hk R h.ltR h.ne).trans h.root
    have := this.set_ 0 u
    rw [hu] at this ⊢
    simpa using this
  · rw [List.length_append, List.flatMap_append]
    refine Row.at_ ?_ (hkR gg hgR)
    simpa using hrow
  · have := h.tT k e
    exact both k (by omega) (by omega) (by omega)
  · rcases get i z hz with ⟨rfl, rfl⟩ | hz
    · rw [hya.1, hya.2]; exact World.ownsRow_nil _ _ _ _
    · refine own_keep (h.at_ i z hz) (fun k e => ?_)
      have := h.tA i z hz k e
      exact both k (by omega) (by omega) (by omega)
  · rcases get i z hz with ⟨rfl, rfl⟩ | hz
    · rw [hyk.1, hyk.2]; exact RdZ.nil _ _ _
    · refine (h.ki i z hz).keep (fun k e => ?_) (fun k e => ?_)
      · have : τ k = 4 := e
        exact both k (by omega) (by omega) (by omega)
      · have e : τ k = 4 := e
        show (if k = gg then 2 else τ k) = 4
        rw [if_neg (hng k (by omega) (by omega))]; exact e
  · show (if R = gg then 2 else τ R) = 1
    rw [if_neg (Ne.symm hgR)]; exact h.tR
  · have := h.tT k e
    show (if k = gg then 2 else τ k) = 3
    rw [if_neg (hng k (by omega) (by omega))]; exact this
  · rcases get i z hz with ⟨rfl, rfl⟩ | hz
    · rw [hya.1] at e; simp [Value.ownBlock] at e
    · have := h.tA i z hz k e
      show (if k = gg then 2 else τ k) = 5 + i
      rw [if_neg (hng k (by omega) (by omega))]; exact this
  · rw [hs6]
    by_cases e : k = gg
    · subst e
      refine ⟨?_, hlt⟩
      rcases hg with e | e
      · rw [e]; exact (h.tB L (by rw [h.tL]; omega)).1
      · have := h.hB; omega
    · have hf : (if k = gg then 2 else τ k) ≠ 0 := hf
      rw [if_neg e] at hf
      have := h.tB k hf; omega
/-- a node's attributes are another list -/
theorem RT.setA {w6 : World} (h : RT B R L cap nT tv xs τ M w) (hy : M[i]? = some y) (hy' : y'.x = { y.x with at_ := y'.x.at_ } ∧ y'.vk = y.vk) (hk : ∀ k, k < w.heap.size → y.va.ownBlock ≠ some k → w6.heap[k]? = w.heap[k]?) (hs : w.heap.size ≤ w6.heap.size)
    (ho : w6.ownsRow B 79 2 y'.va y'.x.at_.length (atc y'.x.at_)) (ha : ∀ k, y'.va.ownBlock = some k → y.va.ownBlock = some k ∨ w.heap.size ≤ k) :
    RT B R L cap nT tv xs (fun k => if y'.va.ownBlock = some k then 5 + i else τ k) (M.set i y') (w6.setCell ⟨L, i * 6 + 3, none⟩ y'.va) := by
  obtain ⟨u, hu⟩ : ∃ u, u = y'.va := ⟨_, rfl⟩
  rw [← hu] at ho ha ⊢
  have hkL : ∀ k, k ≠ L → (w6.setCell ⟨L, i * 6 + 3, none⟩ u).heap[k]? = w6.heap[k]? := fun k hk => Below.heap_setCell w6 ⟨L, i * 6 + 3, none⟩ u k hk
  have hs6 : (w6.setCell ⟨L, i * 6 + 3, none⟩ u).heap.size = w6.heap.size := by simp [World.setCell]
  have hnL : ∀ k, τ k ≠ 2 → k ≠ L := fun k h1 e => h1 (by rw [e]; exact h.tL)
  have hnA : ∀ k, τ k ≠ 0 → τ k ≠ 5 + i → w6.heap[k]? = w.heap[k]? := fun k h1 h2 => hk k (h.tB k h1).2 (fun e => h2 (h.tA i y hy k e))
  have key : ∀ k, τ k ≠ 0 → τ k ≠ 5 + i → (if u.ownBlock = some k then 5 + i else τ k) = τ k := fun k h1 h2 => if_neg (fun e => by
    rcases ha k e with e | e
    · exact h2 (h.tA i y hy k e)
    · have := (h.tB k h1).2; omega)
  have both : ∀ k, τ k ≠ 0 → τ k ≠ 5 + i → τ k ≠ 2 → (w6.setCell ⟨L, i * 6 + 3, none⟩ u).heap[k]? = w.heap[k]? := fun k h1 h2 h3 => (hkL k (hnL k h3)).trans (hnA k h1 h2)
  have get : ∀ (q : Nat) z, (M.set i y')[q]? = some z → (q = i ∧ z = y') ∨ (q ≠ i ∧ M[q]? = some z) := fun q z hz => by
    rw [List.getElem?_set] at hz
    by_cases e : i = q
    · rw [if_pos e] at hz
      split at hz
      · injection hz with hz; exact .inl ⟨e.symm, hz.symm⟩
      · cases hz
    · rw [if_neg e] at hz; exact .inr ⟨fun e2 => e e2.symm, hz⟩
  have hset : (nvc y).set 3 u = nvc y' := by
    unfold nvc
    rw [hy'.1, hy'.2, hu]; rfl
  have hkl : y'.x.ki = y.x.ki := by rw [hy'.1]
  have hro : Row w6 L 46 6 cap M.length (M.flatMap nvc) := h.row.at_ (hnA L (by rw [h.tL]; omega) (by rw [h.tL]; omega))
  refine ⟨?_, ?_, own_keep h.ow (fun k e => ?_), fun q z hz => ?_, fun q z hz => ?_, ?_, ?_, fun k e => ?_, fun q z hz k e => ?_, fun k hf => ?_⟩
  · rw [List.length_set]
    have : Bk w6 R 28 #[.slice (some ⟨L, 0, none⟩) M.length cap, tv] := (hnA R (by rw [h.tR]; omega) (by rw [h.tR]; omega)).trans h.root
    exact this.far (p := ⟨L, i * 6 + 3, none⟩) h.ne u
  · obtain ⟨cur, h1, h2, h3, h4, h5, h6⟩ := hro
    refine ⟨cur.setIfInBounds (i * 6 + 3) u, ?_, by simpa using h2, ?_, by rw [List.length_set]; exact h4, h5, by rw [List.length_set]; exact nvs_len _ |>.trans (by rw [List.length_set])⟩
    · simp [World.setCell, Array.getElem?_modify, h1]
    · rw [List.length_set, ← flat_set nvc 6 (fun _ => rfl) M i 3 y y' u hy (by omega) hset, ← h3, Array.toList_setIfInBounds, List.take_set]
  · have := h.tT k e
    exact both k (by omega) (by omega) (by omega)
  · rcases get q z hz with ⟨rfl, rfl⟩ | ⟨hq, hz⟩
    · rw [← hu]
      refine own_keep ho (fun k e => hkL k ?_)
      intro e2; subst e2
      rcases ha k e with e | e
      · have := h.tA q y hy k e; have := h.tL; omega
      · have := h.ltL; omega
    · refine own_keep (h.at_ q z hz) (fun k e => ?_)
      have := h.tA q z hz k e
      exact both k (by omega) (by omega) (by omega)
  · have hkk : ∀ k, τ k = 4 → (w6.setCell ⟨L, i * 6 + 3, none⟩ u).heap[k]? = w.heap[k]? ∧ (if u.ownBlock = some k then 5 + i else τ k) = 4 := fun k e =>
      ⟨both k (by omega) (by omega) (by omega), by rw [key k (by omega) (by omega)]; exact e⟩
    rcases get q z hz with ⟨rfl, rfl⟩ | ⟨hq, hz⟩
    · rw [hy'.2, hkl]
      exact (h.ki q y hy).keep (fun k e => (hkk k e).1) (fun k e => (hkk k e).2)
    · exact (h.ki q z hz).keep (fun k e => (hkk k e).1) (fun k e => (hkk k e).2)
  · show (if u.ownBlock = some R then 5 + i else τ R) = 1
    rw [key R (by rw [h.tR]; omega) (by rw [h.tR]; omega)]; exact h.tR
  · show (if u.ownBlock = some L then 5 + i else τ L) = 2
    rw [key L (by rw [h.tL]; omega) (by rw [h.tL]; omega)]; exact h.tL
  · have := h.tT k e
    show (if u.ownBlock = some k then 5 + i else τ k) = 3
    rw [key k (by omega) (by omega)]; exact this
  · rcases get q z hz with ⟨rfl, rfl⟩ | ⟨hq, hz⟩
    · rw [← hu] at e; exact if_pos e
    · have := h.tA q z hz k e
      show (if u.ownBlock = some k then 5 + i else τ k) = 5 + q
      rw [key k (by omega) (by omega)]; exact this
  · rw [hs6]
    by_cases e : u.ownBlock = some k
    · exact ho.lt k e
    · have hf : (if u.ownBlock = some k then 5 + i else τ k) ≠ 0 := hf
      rw [if_neg e] at hf
      have := h.tB k hf; omega
end
/-- the document's tree, and what a change of it leaves -/
def RS (B R : Nat) (T : List Nod) (n : Nat) (τ : Nat → Nat) (w : World) : Prop := ∃ L cap tv xs M, RT B R L cap n tv xs τ M w ∧ M.map NV.x = T
def ROp (B R : Nat) (T : List Nod) (n : Nat) (τ : Nat → Nat) (w w' : World) : Prop := ∃ τ', RS B R T n τ' w' ∧ (∀ k, k < w.heap.size → τ' k ≠ 0 → τ k ≠ 0) ∧ Kept w w' (fun k => τ k ≠ 0)
theorem RS.below {B R n : Nat} {T : List Nod} {τ : Nat → Nat} {w w' : World} (h : RS B R T n τ w) (hb : Below w.heap.size w w') : RS B R T n τ w' := by
  obtain ⟨L, cap, tv, xs, M, h1, h2⟩ := h
  exact ⟨L, cap, tv, xs, M, h1.below hb, h2⟩
theorem ROp.same {B R n : Nat} {T : List Nod} {τ : Nat → Nat} {w w' : World} (h : RS B R T n τ w) (hb : Below w.heap.size w w') : ROp B R T n τ w w' := ⟨τ, h.below hb, fun _ _ e => e, Kept.of_below hb _⟩
end Go.Proofs.YtimlmekgapdkiaaGreatDoor
