/- the document's Undo: the trees that were, and the last of them again; the document's Undo of nothing; what was is forgotten -/
import Derived.Test.YtimlmekgapdkiaaGreatDoorWg
namespace Go.Proofs.YtimlmekgapdkiaaGreatDoor
set_option linter.unusedVariables false
set_option linter.unusedSimpArgs false
open Go.RowKit Go.Cas

/-- the trees that were (the last one ahead), each in blocks of its own below hi -/
def Stk (τ : Nat → Nat) (G : Nat → Prop) (w : World) (B : Nat) : Nat → List Value → List (List Nod) → Prop
  | _, [], [] => True
  | hi, v :: vs, T :: D => 0 < T.length ∧ ∃ lo h', B ≤ lo ∧ lo ≤ h' ∧ h' ≤ hi ∧ Snp lo h' v T w ∧ (∀ k, lo ≤ k → k < h' → τ k = 0 ∧ G k) ∧ Stk τ G w B lo vs D
  | _, _, _ => False
theorem Stk.keep {τ τ' : Nat → Nat} {G G' : Nat → Prop} {w w' : World} {B : Nat} : ∀ {vs : List Value} {D : List (List Nod)} {hi hi' : Nat}, Stk τ G w B hi vs D → hi ≤ hi' → hi ≤ w.heap.size → (∀ k, k < hi → τ k = 0 → G k → w'.heap[k]? = w.heap[k]?) → (∀ k, k < hi → τ k = 0 → τ' k = 0) → (∀ k, k < hi → G k → G' k) → w.heap.size ≤ w'.heap.size → Stk τ' G' w' B hi' vs D := by
  intro vs
  induction vs with
  | nil =>
    intro D hi hi' h _ _ _ _ _ _
    cases D with
    | nil => trivial
    | cons _ _ => exact h
  | cons v vs ih =>
    intro D hi hi' h h1 h2 h3 h4 h6 h5
    cases D with
    | nil => exact h
    | cons T D =>
      obtain ⟨hT, lo, h', a1, a2, a3, a4, a5, a6⟩ := h
      refine ⟨hT, lo, h', a1, a2, by omega, a4.keep (fun k k1 k2 => h3 k (by omega) (a5 k k1 k2).1 (a5 k k1 k2).2) (by omega), fun k k1 k2 => ⟨h4 k (by omega) (a5 k k1 k2).1, h6 k (by omega) (a5 k k1 k2).2⟩, ?_⟩
      exact ih a6 (Nat.le_refl _) (by omega) (fun k k1 => h3 k (by omega)) (fun k k1 => h4 k (by omega)) (fun k k1 => h6 k (by omega)) h5
theorem Stk.len {τ : Nat → Nat} {G : Nat → Prop} {w : World} {B : Nat} : ∀ {vs : List Value} {D : List (List Nod)} {hi : Nat}, Stk τ G w B hi vs D → vs.length = D.length := by
  intro vs
  induction vs with
  | nil => intro D hi h; cases D with | nil => rfl | cons _ _ => exact h.elim
  | cons v vs ih =>
    intro D hi h
    cases D with
    | nil => exact h.elim
    | cons T D => obtain ⟨_, _, _, _, _, _, _, _, h⟩ := h; rw [List.length_cons, List.length_cons, ih h]
/-- the document's tree with all that it was; G: its blocks -/
def RD (B R : Nat) (T : List Nod) (D : List (List Nod)) (G : Nat → Prop) (w : World) : Prop :=
  ∃ τ xs, RSx B R T D.length xs τ w ∧ Stk τ G w B w.heap.size xs.reverse D ∧ (∀ k, G k → B ≤ k ∧ k < w.heap.size) ∧ ∀ k, τ k ≠ 0 → G k
def RDop (B R : Nat) (T : List Nod) (D : List (List Nod)) (G : Nat → Prop) (w w' : World) : Prop := ∃ G', RD B R T D G' w' ∧ (∀ k, k < w.heap.size → G' k → G k) ∧ Kept w w' G
section
variable {B R : Nat} {T T' : List Nod} {D : List (List Nod)} {G : Nat → Prop} {w w' : World}
theorem RD.keep (h : RD B R T D G w) (hk : ∀ k, G k → w'.heap[k]? = w.heap[k]?) (hs : w.heap.size ≤ w'.heap.size) : RD B R T D G w' := by
  obtain ⟨τ, xs, ⟨L, cap, tv, M, h1, h2⟩, h3, h4, h5⟩ := h
  exact ⟨τ, xs, ⟨L, cap, tv, M, h1.keep (fun k e => hk k (h5 k e)) hs, h2⟩, h3.keep hs (Nat.le_refl _) (fun k _ _ g => hk k g) (fun _ _ e => e) (fun _ _ g => g) hs, fun k g => ⟨(h4 k g).1, Nat.lt_of_lt_of_le (h4 k g).2 hs⟩, h5⟩
theorem RD.below (h : RD B R T D G w) (hb : Below w.heap.size w w') : RD B R T D G w' := h.keep (fun k g => hb.block k (by obtain ⟨_, _, _, _, h4, _⟩ := h; exact (h4 k g).2)) hb.size
theorem ROpX.rd {n : Nat} {τ : Nat → Nat} {xs : List Value} (h : ROpX B R T' T n xs τ w w') (hn : n = D.length) (hs : Stk τ G w B w.heap.size xs.reverse D) (hg : ∀ k, G k → B ≤ k ∧ k < w.heap.size) (ht : ∀ k, τ k ≠ 0 → G k) (hB : B ≤ w.heap.size) (hT : 0 < T.length) : RDop B R T' (T :: D) G w w' := by
  obtain ⟨τ', v, hi, h1, h2, h3, h4, h5, h6, h7⟩ := h
  subst hn
  have hsz := h3.size
  have htB : ∀ k, τ' k ≠ 0 → k < w'.heap.size := by
    obtain ⟨L, cap, tv, M, a, _⟩ := h1
    exact fun k e => (a.tB k e).2
  refine ⟨fun k => G k ∨ (w.heap.size ≤ k ∧ k < w'.heap.size), ⟨τ', xs ++ [v], h1, ?_, fun k g => ?_, fun k e => ?_⟩, fun k k1 g => ?_, h3.mono fun k _ e => ht k e⟩
  · rw [List.reverse_append]
    refine ⟨hT, w.heap.size, hi, hB, h6, h7, h4, fun k k1 k2 => ⟨h5 k k1 k2, .inr ⟨k1, by omega⟩⟩, ?_⟩
    exact hs.keep (Nat.le_refl _) (Nat.le_refl _) (fun k k1 e _ => h3.block k k1 (fun e2 => e2 e)) (fun k k1 e => Decidable.byContradiction fun e2 => h2 k k1 e2 e) (fun k _ g => .inl g) hsz
  · rcases g with g | g
    · have := hg k g; omega
    · omega
  · by_cases k1 : k < w.heap.size
    · exact .inl (ht k (h2 k k1 e))
    · exact .inr ⟨by omega, htB k e⟩
  · rcases g with g | g
    · exact g
    · omega
end
/-- the last tree that was stands in the root again -/
theorem RT.undo {B R L cap m lo h' gT cT : Nat} {v : Value} {ys : List Value} {τ θ : Nat → Nat} {M K : List NV} {w : World} {g c : Nat} (h : RT B R L cap (m + 1) (.slice (some ⟨gT, 0, none⟩) (m + 1) cT) (ys ++ [v]) τ M w) (hs : SnM lo h' θ v K w) (hv : v = .slice (some ⟨g, 0, none⟩) K.length c) (hB : B ≤ lo) (hfr : ∀ k, lo ≤ k → k < h' → τ k = 0) (hy : ys.length = m) :
    RT B R g c m (.slice (some ⟨gT, 0, none⟩) m cT) ys (fun k => if k = R then 1 else if gT = k then 3 else θ k) K ((w.setCell ⟨R, 0, none⟩ v).setCell ⟨R, 1, none⟩ (.slice (some ⟨gT, 0, none⟩) m cT)) := by
  subst hv
  have hkR : ∀ k, k ≠ R → ((w.setCell ⟨R, 0, none⟩ (.slice (some ⟨g, 0, none⟩) K.length c)).setCell ⟨R, 1, none⟩ (.slice (some ⟨gT, 0, none⟩) m cT)).heap[k]? = w.heap[k]? := fun k hk => (Below.heap_setCell _ ⟨R, 1, none⟩ _ k hk).trans (Below.heap_setCell _ ⟨R, 0, none⟩ _ k hk)
  have hsz : ((w.setCell ⟨R, 0, none⟩ (.slice (some ⟨g, 0, none⟩) K.length c)).setCell ⟨R, 1, none⟩ (.slice (some ⟨gT, 0, none⟩) m cT)).heap.size = w.heap.size := by simp [World.setCell]
  have hτR : τ R = 1 := h.tR
  have hτT : τ gT = 3 := h.tT gT rfl
  have hθ : ∀ k, θ k ≠ 0 → k ≠ R ∧ gT ≠ k := fun k e => by
    have h1 := hs.tB k e
    have h2 := hfr k h1.1 h1.2
    exact ⟨fun e2 => by rw [e2] at h2; omega, fun e2 => by rw [← e2] at h2; omega⟩
  have tag : ∀ k, θ k ≠ 0 → (if k = R then 1 else if gT = k then 3 else θ k) = θ k := fun k e => by rw [if_neg (hθ k e).1, if_neg (hθ k e).2]
  have hTR : gT ≠ R := fun e => by rw [e] at hτT; omega
  have hgθ : θ g = 2 := hs.tL g rfl
  refine ⟨?_, ?_, ?_, fun i y hy => ?_, fun i y hy => ?_, if_pos rfl, ?_, fun k e => ?_, fun i y hy k e => ?_, fun k e => ?_⟩
  · have := (h.root.set_ 0 (.slice (some ⟨g, 0, none⟩) K.length c)).set_ 1 (.slice (some ⟨gT, 0, none⟩) m cT)
    simpa using this
  · have h1 := hs.row
    rcases h1.2 with ⟨e, _⟩ | ⟨g', cap', cur, e1, hb, hh, hn, hm, hc, ht⟩
    · cases e
    · injection e1 with e1 _ e2
      injection e1 with e1
      injection e1 with e1
      subst e1 e2
      exact ⟨cur, (hkR g (hθ g (by rw [hgθ]; omega)).1).trans hh, by omega, ht, hn, hm, h1.1⟩
  · exact own_keep (own_less h.ow (by rw [hy, Nat.mul_one])) (fun k e => hkR k (by injection e with e; have e2 : gT = k := e; rw [← e2]; exact hTR))
  · exact own_keep (own_mono (hs.at_ i y hy) hB) (fun k e => hkR k (hθ k (by rw [hs.tA i y hy k e]; omega)).1)
  · exact RdZ.of_own (own_keep (hs.ki i y hy) (fun k e => hkR k (hθ k (by rw [hs.tK i y hy k e]; omega)).1)) (fun k e => by
      have h1 := hs.tK i y hy k e
      show (if k = R then 1 else if gT = k then 3 else θ k) = 4
      rw [tag k (by omega)]; exact h1)
  · show (if g = R then 1 else if gT = g then 3 else θ g) = 2
    rw [tag g (by omega)]; exact hgθ
  · injection e with e
    have e2 : gT = k := e
    show (if k = R then 1 else if gT = k then 3 else θ k) = 3
    rw [if_neg (by rw [← e2]; exact hTR), if_pos e2]
  · have h1 := hs.tA i y hy k e
    show (if k = R then 1 else if gT = k then 3 else θ k) = 5 + i
    rw [tag k (by omega)]; exact h1
  · rw [hsz]
    by_cases e1 : k = R
    · rw [e1]; exact h.tB R (by omega)
    · by_cases e2 : gT = k
      · rw [← e2]; exact h.tB gT (by omega)
      · have e : (if k = R then 1 else if gT = k then 3 else θ k) ≠ 0 := e
        rw [if_neg e1, if_neg e2] at e
        have := hs.tB k e
        have := hs.hw
        omega
def UnR (B R : Nat) (T : List Nod) (D : List (List Nod)) (G : Nat → Prop) (w : World) (e : Ending) (w' : World) : Prop := e = .returned (.bool true) ∧ RDop B R T D G w w'
set_option maxRecDepth 100000 in
set_option maxHeartbeats 8000000 in
theorem c_rUndo {w : World} {B R : Nat} {T T' : List Nod} {D : List (List Nod)} {G : Nat → Prop} (h : RD B R T (T' :: D) G w) (hD : D.length ≤ 1000000) :
    Calls Tryz.prog 39 #[.pointer (some ⟨R, 0, none⟩)] w (UnR B R T' D G w) := by
  obtain ⟨τ, xs, ⟨L, cap, tv, M, h1, hM⟩, h3, h4, h5⟩ := h
  obtain ⟨m, hm⟩ : ∃ m, m = D.length := ⟨_, rfl⟩
  rw [List.length_cons, ← hm] at h1
  obtain ⟨v, vs, hxs⟩ : ∃ v vs, xs.reverse = v :: vs := by
    cases hr : xs.reverse with
    | nil => rw [hr] at h3; exact h3.elim
    | cons v vs => exact ⟨v, vs, rfl⟩
  rw [hxs] at h3
  obtain ⟨hT0, lo, h', a1, a2, a3, ⟨θ, K, a4, hK⟩, a5, a6⟩ := h3
  have hvl := a6.len
  obtain ⟨ys, hys⟩ : ∃ ys, ys = vs.reverse := ⟨_, rfl⟩
  have hxs2 : xs = ys ++ [v] := by
    have := congrArg List.reverse hxs
    rw [List.reverse_reverse, List.reverse_cons] at this
    rw [this, hys]
  subst hxs2
  have hyl : ys.length = m := by rw [hys, List.length_reverse, hvl, hm]
  have hyv : ys.reverse = vs := by rw [hys, List.reverse_reverse]
  obtain ⟨gT, cT, rfl, _, hgT⟩ := h1.ow.form (by omega)
  have hcT : m + 1 ≤ cT := by
    obtain ⟨_, A', c', e, hc, _⟩ := RdS.of_own h1.ow
    injection e with _ _ e
    omega
  have hcT2 : (m : Int) ≤ (cT : Int) := by omega
  have hcT3 : ¬ (cT : Int) < (m : Int) := by omega
  have hKl : 0 < K.length := by rw [← hK, List.length_map] at hT0; exact hT0
  obtain ⟨g, c, rfl, _, hgg⟩ := a4.row.form hKl
  have hcv := h1.ow.cells (g := gT) rfl m (.slice (some ⟨g, 0, none⟩) K.length c) (by rw [List.getElem?_append_right (by omega)]; simp [hyl])
  rw [add_none, Nat.zero_add] at hcv
  obtain ⟨g0, g1, g2, g3⟩ := h1.heads
  have hr := h1.ltR
  have hTR : gT ≠ R := fun e => by have e1 := h1.tT gT rfl; have e2 := h1.tR; rw [e] at e1; omega
  have hm6 : m ≤ 1000000 := by omega
  have hm0 : ((m : Int) + 1 == 0) = false := by rw [beq_eq_false_iff_ne]; omega
  have hw1 : IntKind.i64.wrap ((m : Int) + 1 - 1) = (m : Int) := by rw [show (m : Int) + 1 - 1 = (m : Int) by omega]; exact IntWalk.i64_in _ (by omega)
  have HU := Lib.hid (h1.undo (g := g) (c := c) a4 rfl a1 (fun k k1 k2 => (a5 k k1 k2).1) hyl)
  have HK := Lib.hid hK
  have HS := Lib.hid a6
  have H1 := Lib.hid h1
  have H4 := Lib.hid h4
  have H5 := Lib.hid h5
  have H6 := Lib.hid a5
  have HLH := Lib.hid (And.intro a1 (And.intro a2 a3))
  have HTB := Lib.hid a4.tB
  have HM := Lib.hid hm
  have HYV := Lib.hid hyv
  clear h1 h4 h5 a1 a2 a3 a4 a5 a6 hM hm hK hT0 hxs hvl hys hyl hyv hKl hgg hgT
  go_enter Tryz.func39, Tryz.ntmps39
  go_wp2_with fail
  go_ret
  refine ⟨rfl, fun k => G k, ⟨_, ys, ⟨_, _, _, K, by rw [← HM.out]; exact HU.out, HK.out⟩, ?_, fun k gk => ?_, fun k e => ?_⟩, fun _ _ e => e, ?_⟩
  · rw [HYV.out]
    have hτR : τ R = 1 := H1.out.tR
    have hτT : τ gT = 3 := H1.out.tT gT rfl
    refine HS.out.keep ?_ ?_ (fun k k1 e _ => ?_) (fun k k1 e => ?_) (fun _ _ g => g) ?_
    · have := HLH.out.2
      simp [World.setCell]; omega
    · have := HLH.out.2; omega
    · have hkR : k ≠ R := fun e2 => by rw [e2, hτR] at e; omega
      exact (Below.heap_setCell _ ⟨R, 1, none⟩ _ k hkR).trans (Below.heap_setCell _ ⟨R, 0, none⟩ _ k hkR)
    · show (if k = R then 1 else if gT = k then 3 else θ k) = 0
      rw [if_neg (fun e2 => by rw [e2, hτR] at e; omega), if_neg (fun e2 => by rw [← e2, hτT] at e; omega)]
      exact Decidable.byContradiction fun e2 => by have := HTB.out k e2; omega
    · simp [World.setCell]
  · have := H4.out k gk
    simpa [World.setCell] using this
  · by_cases e1 : k = R
    · rw [e1]; exact H5.out R (by rw [H1.out.tR]; omega)
    · by_cases e2 : gT = k
      · rw [← e2]; exact H5.out gT (by rw [H1.out.tT gT rfl]; omega)
      · have e : (if k = R then 1 else if gT = k then 3 else θ k) ≠ 0 := e
        rw [if_neg e1, if_neg e2] at e
        have h1 := HTB.out k e
        exact (H6.out k h1.1 h1.2).2
  · have hGR : G R := H5.out R (by rw [H1.out.tR]; omega)
    exact ((Kept.refl w G).set_ R 0 (fun _ => hGR) _).set_ R 1 (fun _ => hGR) _
end Go.Proofs.YtimlmekgapdkiaaGreatDoor
namespace Go.Proofs.YtimlmekgapdkiaaGreatDoor
set_option linter.unusedVariables false
set_option linter.unusedSimpArgs false
open Go.RowKit Go.Cas

theorem c_rUndo_none {w : World} {B R : Nat} {T : List Nod} {G : Nat → Prop} (h : RD B R T [] G w) : Calls Tryz.prog 39 #[.pointer (some ⟨R, 0, none⟩)] w fun e w' => e = .returned (.bool false) ∧ w = w' := by
  obtain ⟨τ, xs, ⟨L, cap, tv, M, h1, hM⟩, h3, h4, h5⟩ := h
  obtain ⟨_, A, c, rfl, _, _⟩ := RdS.of_own h1.ow
  obtain ⟨g0, g1, _⟩ := h1.heads
  have hr := h1.ltR
  clear h1 h3 h4 h5 hM
  go_enter Tryz.func39, Tryz.ntmps39
  go_wp2_with fail
  go_ret
  exact ⟨rfl, rfl⟩
theorem RD.settle {w : World} {B R : Nat} {T : List Nod} {D : List (List Nod)} {G : Nat → Prop} (h : RD B R T D G w) : RD B R T [] G (w.setCell ⟨R, 1, none⟩ (.slice none 0 0)) ∧ Kept w (w.setCell ⟨R, 1, none⟩ (.slice none 0 0)) G := by
  obtain ⟨τ, xs, ⟨L, cap, tv, M, h1, hM⟩, h3, h4, h5⟩ := h
  have h2 := h1.setT (w6 := w) (nT' := 0) (xs' := []) (.slice none 0 0) (fun _ _ _ => rfl) (Nat.le_refl _) (World.ownsRow_nil _ _ _ _) (fun k e => by cases e)
  refine ⟨⟨_, [], ⟨L, cap, _, M, h2, hM⟩, trivial, fun k g => ?_, fun k e => ?_⟩, (Kept.refl w G).set_ R 1 (fun _ => h5 R (by rw [h1.tR]; omega)) _⟩
  · have := h4 k g
    simpa [World.setCell] using this
  · have e : (if (Value.slice none 0 0).ownBlock = some k then 3 else τ k) ≠ 0 := e
    rw [if_neg (by intro e2; cases e2)] at e
    exact h5 k e
end Go.Proofs.YtimlmekgapdkiaaGreatDoor
