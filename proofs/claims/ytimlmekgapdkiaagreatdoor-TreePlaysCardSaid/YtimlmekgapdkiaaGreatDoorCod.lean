/- which error an error is: plain.Code of nil and of the sentinels; the laid variables -/
import Derived.Test.YtimlmekgapdkiaaGreatDoorErr
namespace Go.Proofs.YtimlmekgapdkiaaGreatDoor
set_option linter.unusedVariables false
set_option linter.unusedSimpArgs false
open Go.RowKit Go.Cas

/-- the q-th error -/
def errW (p : Nat → Addr) (k : Nat) : Value := .iface 135 (.pointer (some (p k)))
/-- the variable of the q-th error -/
def gvr (q : Nat) : Nat := [0, 4, 3, 0, 1, 2, 5, 6].getD q 0
structure G7 (w : World) (B : Nat) (p : Nat → Addr) : Prop where
  cell : ∀ q, 1 ≤ q → q ≤ 7 → w.cell? ⟨gvr q, 0, none⟩ = some (errW p q)
  ne : ∀ i j, 1 ≤ i → i ≤ 7 → 1 ≤ j → j ≤ 7 → p i = p j → i = j
  row : ∀ i, 1 ≤ i → i ≤ 7 → (p i).block < B ∧ ∃ c t, w.heap[(p i).block]? = some (.cells c t (0, 0))
  et : w.cell? ⟨7, 0, none⟩ = some (.iface 121 (.agg #[.pointer (some ⟨8, 55, none⟩)]))
  lt : 8 ≤ B ∧ B ≤ w.heap.size
theorem gvr_lt (q : Nat) : gvr q < 8 := by
  unfold gvr
  rcases q with _ | _ | _ | _ | _ | _ | _ | _ | q <;> simp
theorem G7.below {w w' : World} {B : Nat} {p : Nat → Addr} (h : G7 w B p) (hb : Below B w w') : G7 w' B p :=
  ⟨fun q h1 h2 => (hb.cell (p := ⟨gvr q, 0, none⟩) (Nat.lt_of_lt_of_le (gvr_lt q) h.lt.1)).trans (h.cell q h1 h2), h.ne, fun i h1 h2 => by
    obtain ⟨h3, c, t, h4⟩ := h.row i h1 h2
    exact ⟨h3, c, t, (hb.block _ h3).trans h4⟩, (hb.cell (p := ⟨7, 0, none⟩) (Nat.lt_of_lt_of_le (by decide) h.lt.1)).trans h.et, h.lt.1, Nat.le_trans h.lt.2 hb.size⟩
theorem c_Is {w : World} {B i j : Nat} {p : Nat → Addr} (h : G7 w B p) (hi : 1 ≤ i ∧ i ≤ 7) (hj : 1 ≤ j ∧ j ≤ 7) : Calls Tryz.prog 76 #[errW p i, errW p j] w fun e w' => e = .returned (.bool (decide (i = j))) ∧ w = w' := by
  by_cases e : i = j
  · subst e
    rw [decide_eq_true rfl]
    exact is_same (p i) w
  · rw [decide_eq_false e]
    obtain ⟨_, c1, t1, h1⟩ := h.row i hi.1 hi.2
    obtain ⟨_, c2, t2, h2⟩ := h.row j hj.1 hj.2
    exact is_other (p i) (p j) c1 c2 t1 t2 w (fun e2 => e (h.ne i j hi.1 hi.2 hj.1 hj.2 e2)) h1 h2
def CoRet (a b : Int) (w : World) (e : Ending) (w' : World) : Prop := e = .returned (.tuple #[.int .i64 a, .int .i64 b]) ∧ Below w.heap.size w w'
theorem c_Code_nil (w : World) : Calls Tryz.prog 57 #[.nilIface] w (CoRet 0 (-1) w) := by
  go_enter Tryz.func57, Tryz.ntmps57
  go_wp2_with fail
  go_ret2
  exact ⟨rfl, Below.refl _ _⟩
set_option maxRecDepth 100000 in
set_option maxHeartbeats 8000000 in
theorem c_Code {w : World} {B q : Nat} {p : Nat → Addr} (h : G7 w B p) (hq : 1 ≤ q ∧ q ≤ 7) : Calls Tryz.prog 57 #[errW p q] w (CoRet (q : Int) (-1) w) := by
  have H := Lib.hid h
  have HQ := Lib.hid hq
  have e1 := h.cell 1 (by decide) (by decide)
  have e2 := h.cell 2 (by decide) (by decide)
  have e3 := h.cell 3 (by decide) (by decide)
  have e4 := h.cell 4 (by decide) (by decide)
  have e5 := h.cell 5 (by decide) (by decide)
  have e6 := h.cell 6 (by decide) (by decide)
  have e7 := h.cell 7 (by decide) (by decide)
  have g1 : 8 ≤ w.heap.size := by have := h.lt; omega
  simp only [gvr, List.getD_cons_zero, List.getD_cons_succ] at e1 e2 e3 e4 e5 e6 e7
  unfold errW at *
  clear h hq
  go_enter Tryz.func57, Tryz.ntmps57
  go_wp2_with fail
  obtain ⟨b, hb⟩ : ∃ b, b = w.heap.size := ⟨_, rfl⟩
  obtain ⟨w1, hw1⟩ : ∃ w1, w1 = w.alloc (.cells #[.iface 135 (.pointer (some (p 1))), .iface 135 (.pointer (some (p 2))), .iface 135 (.pointer (some (p 3))), .iface 135 (.pointer (some (p 4))), .iface 135 (.pointer (some (p 5))), .iface 135 (.pointer (some (p 6))), .iface 135 (.pointer (some (p 7)))] 55) := ⟨_, rfl⟩
  rw [← hw1, ← hb]
  have hbl : Below w.heap.size w w1 := by rw [hw1]; exact bl_alloc (Below.refl _ _) _
  have HC : Hid (∀ k, k < 7 → w1.cell? ⟨b, k, none⟩ = some (errW p (k + 1))) := by
    have hbk : Bk w1 b 55 #[.iface 135 (.pointer (some (p 1))), .iface 135 (.pointer (some (p 2))), .iface 135 (.pointer (some (p 3))), .iface 135 (.pointer (some (p 4))), .iface 135 (.pointer (some (p 5))), .iface 135 (.pointer (some (p 6))), .iface 135 (.pointer (some (p 7)))] := by rw [hw1]; exact bk_new' _ _ _ hb
    intro k hk
    rw [hbk.cell k]
    rcases k with _ | _ | _ | _ | _ | _ | _ | k
    all_goals first | rfl | (exfalso; omega)
  have H1 := Lib.hid (H.out.below (hbl.mono H.out.lt.2))
  have HBL := Lib.hid hbl
  have hl1 : 8 ≤ w1.heap.size := by have := hbl.size; omega
  obtain ⟨vq, hvq⟩ : ∃ vq, vq = Value.iface 135 (.pointer (some (p q))) := ⟨_, rfl⟩
  have HVQ : Hid (vq = errW p q) := hvq
  rw [← hvq]
  have HNE : Hid (vq ≠ .nilIface) := by unfold Hid; rw [hvq]; intro e; cases e
  clear hw1 hbl hvq hb e1 e2 e3 e4 e5 e6 e7 g1
  go_loop [4, 19] (fun n a => ∃ (k : Nat), k ≤ 7 ∧ a = .int .i64 (k : Int) ∧ n = .int .i64 (if q ≤ k then (q : Int) else 0)) (fun _ a => 7 - (intOf a).toNat)
  case atStart => exact ⟨0, by omega, rfl, by rw [if_neg (by have := HQ.out; omega)]⟩
  case round =>
    obtain ⟨k, hk, rfl, rfl⟩ := hrel
    by_cases hlt : k < 7
    · have hki : (k : Int) < 7 := by omega
      have h0k : 0 ≤ (k : Int) := by omega
      have hcell := HC.out k hlt
      have HI := Lib.hid (c_Is (j := k + 1) H1.out HQ.out ⟨by omega, by omega⟩)
      rw [← HVQ.out] at HI
      by_cases hq : q = k + 1
      · rw [decide_eq_true hq] at HI
        have e0 : (if q ≤ k then (q : Int) else 0) = 0 := by rw [if_neg (by omega)]
        have e1 : (if q ≤ k + 1 then (q : Int) else 0) = (k : Int) + 1 := by rw [if_pos (by omega), hq]; rfl
        rw [e0]
        have HE1 := Lib.hid e1
        clear e1 e0 hq hlt
        go_wp2_with (go_at_call 76; refine (HI.out).mono ?_; rintro e w' ⟨rfl, rfl⟩)
        go_round
        case rel => exact ⟨k + 1, by omega, by go_num, by rw [HE1.out]⟩
        case measure => simp [intOf]; omega
      · rw [decide_eq_false hq] at HI
        have e1 : (if q ≤ k + 1 then (q : Int) else 0) = (if q ≤ k then (q : Int) else 0) := by
          by_cases h : q ≤ k
          · rw [if_pos h, if_pos (by omega)]
          · rw [if_neg h, if_neg (by omega)]
        obtain ⟨nn, hnn⟩ : ∃ nn, nn = (if q ≤ k then (q : Int) else 0) := ⟨_, rfl⟩
        rw [← hnn] at e1 ⊢
        have HE1 := Lib.hid e1
        clear e1 hq hnn hlt
        go_wp2_with (go_at_call 76; refine (HI.out).mono ?_; rintro e w' ⟨rfl, rfl⟩)
        go_round
        case rel => exact ⟨k + 1, by omega, by go_num, by rw [HE1.out]⟩
        case measure => simp [intOf]; omega
    · obtain rfl : k = 7 := by omega
      rw [if_pos HQ.out.2]
      have hq0 : ((q : Int) == 0) = false := by rw [beq_eq_false_iff_ne]; have := HQ.out; omega
      clear hlt
      have HA : Hid (∀ f W', Below w1.heap.size w1 W' → Calls Tryz.prog 77 #[vq, .iface 100 (.pointer (some ⟨f, 0, none⟩))] W' fun e w' => e = .returned (.bool false) ∧ Below W'.heap.size W' w') := fun f W' hb => by
        rw [HVQ.out]
        exact as_no (p q) f W' ((hb.cell (p := ⟨7, 0, none⟩) (Nat.lt_of_lt_of_le (by decide) hl1)).trans H1.out.et) (Nat.lt_of_lt_of_le (by decide) (Nat.le_trans hl1 hb.size))
      go_wp2_with (go_at_call 77; refine (HA.out _ _ (bl_alloc (Below.refl _ _) _)).mono ?_; rintro e w2 ⟨rfl, hb2⟩; have HB2 := Lib.hid (bl_trans HBL.out (bl_trans (bl_alloc (Below.refl _ _) _) hb2)); clear hb2)
      go_ret2
      exact ⟨rfl, HB2.out⟩
end Go.Proofs.YtimlmekgapdkiaaGreatDoor
