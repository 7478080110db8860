/- the grid: small contracts of the program and the reference -/
import Derived.Test.YtnjckpgacbibhaaGrc
namespace Go.Proofs.Ytnjckpgacbibhaa
set_option linter.unusedVariables false
set_option linter.unusedSimpArgs false
open Go.RowKit Go.Cas

def ic (x : Itm) : List Value := [.int .i64 x.c, .int .i64 x.p, .int .i64 x.r, .int .i64 x.q]
def ics (L : List Itm) : List Value := L.flatMap ic
theorem ics_len (L : List Itm) : (ics L).length = L.length * 4 := by
  unfold ics
  induction L with
  | nil => rfl
  | cons f L ih => rw [List.flatMap_cons, List.length_append, ih]; simp [ic]; omega
theorem ics_get (L : List Itm) (k j : Nat) (f : Itm) (h : L[k]? = some f) (hj : j < 4) : (ics L)[k * 4 + j]? = (ic f)[j]? := by
  unfold ics
  induction L generalizing k with
  | nil => simp at h
  | cons g L ih =>
    rw [List.flatMap_cons]
    cases k with
    | zero => simp at h; subst h; rw [Nat.zero_mul, Nat.zero_add, List.getElem?_append_left (by simpa [ic] using hj)]
    | succ k =>
      simp at h
      rw [List.getElem?_append_right (by simp [ic]; omega), ← ih k h]
      congr 1; simp [ic]; omega
theorem ic_cells {w : World} {g o : Nat} {L : List Itm} {k : Nat} {f : Itm} (hc : ∀ j u, (ics L)[j]? = some u → w.cell? ⟨g, o + j, none⟩ = some u) (hk : L[k]? = some f) :
    w.cell? ⟨g, o + k * 4, none⟩ = some (.int .i64 f.c) ∧ w.cell? ⟨g, o + k * 4 + 1, none⟩ = some (.int .i64 f.p) ∧ w.cell? ⟨g, o + k * 4 + 2, none⟩ = some (.int .i64 f.r) ∧ w.cell? ⟨g, o + k * 4 + 3, none⟩ = some (.int .i64 f.q) := by
  have h : ∀ j, j < 4 → ∀ u, (ic f)[j]? = some u → w.cell? ⟨g, o + k * 4 + j, none⟩ = some u := fun j hj u hu => by
    have := hc (k * 4 + j) u (by rw [ics_get L k j f hk hj]; exact hu)
    rwa [← Nat.add_assoc] at this
  exact ⟨h 0 (by omega) _ rfl, h 1 (by omega) _ rfl, h 2 (by omega) _ rfl, h 3 (by omega) _ rfl⟩
/-- bounds of one that is placed -/
def IB (x : Itm) : Prop := (-1000000 ≤ x.c ∧ x.c ≤ 1000000) ∧ (-1000000 ≤ x.r ∧ x.r ≤ 1000000) ∧ (1 ≤ x.p ∧ x.p ≤ 20) ∧ (1 ≤ x.q ∧ x.q ≤ 20)
theorem c_between (n a b : Int) (w : World) : Calls Try.prog 84 #[.int .i64 n, .int .i64 a, .int .i64 b] w fun e w' => e = .returned (.int .i64 (min (max n a) b)) ∧ w = w' := by
  go_enter Try.func84, Try.ntmps84
  go_wp2_with (first | (go_at_call 71; refine (c_most4 _ _ _).mono ?_; rintro e w' ⟨rfl, rfl⟩) | (go_at_call 79; refine (c_least4 _ _ _).mono ?_; rintro e w' ⟨rfl, rfl⟩))
  go_ret
  exact ⟨rfl, rfl⟩
set_option maxHeartbeats 2000000 in
theorem c_over (a b : Itm) (W : World) (ha : IB a) (hb : IB b) : Calls Try.prog 95 #[agI a.c a.p a.r a.q, agI b.c b.p b.r b.q] W fun e w' => e = .returned (.bool (decide (ovI a b))) ∧ Below W.heap.size W w' := by
  obtain ⟨ac, ap, ar, aq⟩ := a
  obtain ⟨bc, bp, br, bq⟩ := b
  obtain ⟨⟨a1, a2⟩, ⟨a3, a4⟩, ⟨a5, a6⟩, a7, a8⟩ := ha
  obtain ⟨⟨b1, b2⟩, ⟨b3, b4⟩, ⟨b5, b6⟩, b7, b8⟩ := hb
  simp only at a1 a2 a3 a4 a5 a6 a7 a8 b1 b2 b3 b4 b5 b6 b7 b8
  by_cases c1 : ac < bc + (bp : Int)
  · by_cases c2 : bc < ac + (ap : Int)
    · by_cases c3 : ar < br + (bq : Int)
      · by_cases c4 : br < ar + (aq : Int)
        · have R := Lib.hid (show decide (ovI ⟨ac, ap, ar, aq⟩ ⟨bc, bp, br, bq⟩) = true from decide_eq_true ⟨c1, c2, c3, c4⟩)
          go_enter Try.func95, Try.ntmps95
          go_wp2_with fail
          go_ret
          exact ⟨ret_bool (by rw [R.out] <;> first | rfl | (simp; done) | (simp; omega)), by repeat (first | with_reducible refine bl_drewN ?_ _ | with_reducible refine bl_alloc ?_ _ | exact Below.refl _ _)⟩
        · have R := Lib.hid (show decide (ovI ⟨ac, ap, ar, aq⟩ ⟨bc, bp, br, bq⟩) = false from decide_eq_false (fun e => by unfold ovI at e; simp only at e; omega))
          go_enter Try.func95, Try.ntmps95
          go_wp2_with fail
          go_ret
          exact ⟨ret_bool (by rw [R.out] <;> first | rfl | (simp; done) | (simp; omega)), by repeat (first | with_reducible refine bl_drewN ?_ _ | with_reducible refine bl_alloc ?_ _ | exact Below.refl _ _)⟩
      · have R := Lib.hid (show decide (ovI ⟨ac, ap, ar, aq⟩ ⟨bc, bp, br, bq⟩) = false from decide_eq_false (fun e => by unfold ovI at e; simp only at e; omega))
        go_enter Try.func95, Try.ntmps95
        go_wp2_with fail
        go_ret
        exact ⟨ret_bool (by rw [R.out] <;> first | rfl | (simp; done) | (simp; omega)), by repeat (first | with_reducible refine bl_drewN ?_ _ | with_reducible refine bl_alloc ?_ _ | exact Below.refl _ _)⟩
    · have R := Lib.hid (show decide (ovI ⟨ac, ap, ar, aq⟩ ⟨bc, bp, br, bq⟩) = false from decide_eq_false (fun e => by unfold ovI at e; simp only at e; omega))
      go_enter Try.func95, Try.ntmps95
      go_wp2_with fail
      go_ret
      exact ⟨ret_bool (by rw [R.out] <;> first | rfl | (simp; done) | (simp; omega)), by repeat (first | with_reducible refine bl_drewN ?_ _ | with_reducible refine bl_alloc ?_ _ | exact Below.refl _ _)⟩
  · have R := Lib.hid (show decide (ovI ⟨ac, ap, ar, aq⟩ ⟨bc, bp, br, bq⟩) = false from decide_eq_false (fun e => by unfold ovI at e; simp only at e; omega))
    go_enter Try.func95, Try.ntmps95
    go_wp2_with fail
    go_ret
    exact ⟨ret_bool (by rw [R.out] <;> first | rfl | (simp; done) | (simp; omega)), by repeat (first | with_reducible refine bl_drewN ?_ _ | with_reducible refine bl_alloc ?_ _ | exact Below.refl _ _)⟩

def FrRetR (L : List Itm) (S : List Bool) (x : Itm) (w : World) (e : Ending) (w' : World) : Prop := ∃ v : Bool, e = .returned (.bool v) ∧ (v = true ↔ FreeP L S x) ∧ Below w.heap.size w w'
theorem belowG {B : Nat} {a w : World} (h : Below B a w) : Below B a w.drew := ⟨h.os, h.tape, h.output, h.size, h.block⟩
set_option maxRecDepth 100000 in
set_option maxHeartbeats 8000000 in
theorem c_freeR (u v : Value) (n : Nat) (L : List Itm) (S : List Bool) (x : Itm) (w : World) (hl : RdS w w.heap.size 4 u n (ics L)) (hs : RdS w w.heap.size 1 v n (S.map Value.bool)) (hn : n ≤ 1000) (hL : ∀ f ∈ L, IB f) (hx : IB x) :
    Calls Try.prog 85 #[u, v, agI x.c x.p x.r x.q] w (FrRetR L S x w) := by
  obtain ⟨hl1, A1, k1, rfl, hnk1, hc1⟩ := hl
  obtain ⟨hl2, A2, k2, rfl, hnk2, hc2⟩ := hs
  have e1 : L.length = n := by rw [ics_len] at hl1; omega
  have e2 : S.length = n := by simpa using hl2
  have HN1 := Lib.hid e1; have HN2 := Lib.hid e2
  have HC1 := Lib.hid hc1; have HC2 := Lib.hid hc2
  have HIB := Lib.hid hL; have HXB := Lib.hid hx
  obtain ⟨xc, xp, xr, xq⟩ := x
  have HB := Lib.hid (bl_alloc (Below.refl _ w) (.cells #[.int .i64 xc, .int .i64 xp, .int .i64 xr, .int .i64 xq] 100))
  have HX := Lib.hid (Bk.new w 100 #[.int .i64 xc, .int .i64 xp, .int .i64 xr, .int .i64 xq])
  obtain ⟨R, hR⟩ : ∃ R, R = w.heap.size := ⟨_, rfl⟩
  have HRR := Lib.hid hR
  rw [← hR] at HX
  clear e1 e2 hc1 hc2 hl1 hl2 hL hx hR
  go_enter Try.func85, Try.ntmps85
  go_wp2_with fail
  rw [← HRR.out]
  go_loopw [7] (fun i wr => ∃ (k : Nat), k ≤ n ∧ i = .int .i64 k ∧ Hid (∀ (j : Nat) f, j < k → L[j]? = some f → S[j]? = some true → ¬ ovI f ⟨xc, xp, xr, xq⟩) ∧ Hid (Below w.heap.size w wr) ∧ Hid (Bk wr R 100 #[.int .i64 xc, .int .i64 xp, .int .i64 xr, .int .i64 xq])) (fun i _ => n - (intOf i).toNat)
  case atStart => exact ⟨0, by omega, rfl, fun j f h => by omega, HB.out, HX.out⟩
  case round =>
    obtain ⟨k, hk, rfl, H1, HBL, HXR⟩ := hrel
    by_cases hlt : k < n
    · have hik : (k : Int) < (n : Int) := by omega
      have hkL : k < L.length := by rw [HN1.out]; exact hlt
      have hkS : k < S.length := by rw [HN2.out]; exact hlt
      obtain ⟨g, o, rfl, hg, hcg⟩ := HC1.out (by omega)
      obtain ⟨g2, o2, rfl, hg2, hcg2⟩ := HC2.out (by omega)
      obtain ⟨f, hf⟩ : ∃ f, L[k]? = some f := ⟨_, List.getElem?_eq_getElem hkL⟩
      obtain ⟨b, hb⟩ : ∃ b, S[k]? = some b := ⟨_, List.getElem?_eq_getElem hkS⟩
      have hs0 := (HBL.out.cell (p := ⟨g2, _, none⟩) hg2).trans (hcg2 k (.bool b) (by simp [hb]))
      have f8 : ∀ w', Below w.heap.size w w' → w'.cell? ⟨g, o + k * 4, none⟩ = some (.int .i64 f.c) ∧ w'.cell? ⟨g, o + k * 4 + 1, none⟩ = some (.int .i64 f.p) ∧ w'.cell? ⟨g, o + k * 4 + 2, none⟩ = some (.int .i64 f.r) ∧ w'.cell? ⟨g, o + k * 4 + 3, none⟩ = some (.int .i64 f.q) := fun w' hbw => by
        obtain ⟨d0, d1, d2, d3⟩ := ic_cells hcg hf
        have l := fun {q u} (e : w.cell? ⟨g, q, none⟩ = some u) => (hbw.cell (p := ⟨g, q, none⟩) hg).trans e
        exact ⟨l d0, l d1, l d2, l d3⟩
      have HFB := Lib.hid (HIB.out f (List.mem_of_getElem? hf))
      have HF := Lib.hid hf; have HBB := Lib.hid hb
      obtain ⟨fc, fp, fr, fq⟩ := f
      have f9 : ∀ w', Below w.heap.size w w' → Bk w' R 100 #[.int .i64 xc, .int .i64 xp, .int .i64 xr, .int .i64 xq] → (w'.cell? ⟨g, o + k * 4, none⟩ = some (.int .i64 fc) ∧ w'.cell? ⟨g, o + k * 4 + 1, none⟩ = some (.int .i64 fp) ∧ w'.cell? ⟨g, o + k * 4 + 2, none⟩ = some (.int .i64 fr) ∧ w'.cell? ⟨g, o + k * 4 + 3, none⟩ = some (.int .i64 fq) ∧ w'.cell? ⟨R, 0, none⟩ = some (.int .i64 xc) ∧ w'.cell? ⟨R, 1, none⟩ = some (.int .i64 xp) ∧ w'.cell? ⟨R, 2, none⟩ = some (.int .i64 xr) ∧ w'.cell? ⟨R, 3, none⟩ = some (.int .i64 xq)) := fun w' h1 h2 => by
        obtain ⟨d0, d1, d2, d3⟩ := f8 w' h1
        have e := h2.cell
        exact ⟨d0, d1, d2, d3, by rw [e]; rfl, by rw [e]; rfl, by rw [e]; rfl, by rw [e]; rfl⟩
      have F9 := Lib.hid f9
      clear hf hb hcg hcg2 f8 f9
      cases b
      · go_wp2_with fail
        go_roundw
        case rel =>
          refine ⟨k + 1, by omega, by go_num, fun j q hj hq hs => ?_, HBL.out, HXR.out⟩
          by_cases e : j = k
          · subst e; rw [HBB.out] at hs; cases hs
          · exact H1.out j q (by omega) hq hs
        case measure => simp [intOf]; omega
      · by_cases hov : ovI ⟨fc, fp, fr, fq⟩ ⟨xc, xp, xr, xq⟩
        all_goals
          have HOV := Lib.hid hov
          clear hov
          go_wp2_with fail
          go_region_held3 (fun w' => w'.cell? ⟨g, o + k * 4, none⟩ = some (.int .i64 fc) ∧ w'.cell? ⟨g, o + k * 4 + 1, none⟩ = some (.int .i64 fp) ∧ w'.cell? ⟨g, o + k * 4 + 2, none⟩ = some (.int .i64 fr) ∧ w'.cell? ⟨g, o + k * 4 + 3, none⟩ = some (.int .i64 fq) ∧ w'.cell? ⟨R, 0, none⟩ = some (.int .i64 xc) ∧ w'.cell? ⟨R, 1, none⟩ = some (.int .i64 xp) ∧ w'.cell? ⟨R, 2, none⟩ = some (.int .i64 xr) ∧ w'.cell? ⟨R, 3, none⟩ = some (.int .i64 xq))
            (first | exact F9.out _ HBL.out HXR.out | exact F9.out _ (belowG HBL.out) (Bk.drew HXR.out) | exact F9.out _ HB9.out HX9.out)
            ((go_at_call 95; refine (c_over _ _ _ HFB.out HXB.out).mono ?_; (first | rw [decide_eq_true HOV.out] | rw [decide_eq_false HOV.out]); rintro e w9 ⟨rfl, hb9⟩; have HB9 := Lib.hid (bl_trans (belowG HBL.out) hb9); have HX9 := Lib.hid ((Bk.drew HXR.out).below hb9 HXR.out.lt); clear hb9))
          go_wp2_with fail
        · go_ret
          refine ⟨_, rfl, ⟨(fun h => by cases h), (fun h => absurd HOV.out (h k _ HF.out HBB.out))⟩, HB9.out⟩
        · go_roundw
          case rel =>
            refine ⟨k + 1, by omega, by go_num, fun j q hj hq hs => ?_, HB9.out, HX9.out⟩
            by_cases e : j = k
            · subst e; rw [HF.out] at hq; injection hq with hq; subst hq; exact HOV.out
            · exact H1.out j q (by omega) hq hs
          case measure => simp [intOf]; omega
    · obtain rfl : k = n := by omega
      have hik : ¬ (k : Int) < (k : Int) := by omega
      go_wp2_with fail
      go_ret
      exact ⟨_, rfl, ⟨fun _ j f hf hs => H1.out j f (by have := (List.getElem?_eq_some_iff.1 hf).1; have := HN1.out; omega) hf hs, fun _ => rfl⟩, HBL.out⟩
end Go.Proofs.Ytnjckpgacbibhaa
