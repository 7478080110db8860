/- the reference's breaks of a text -/
import Derived.Test.YtnjckpgacbibhaaIf
import Derived.Test.YtnjckpgacbibhaaBreaksP
namespace Go.Proofs.Ytnjckpgacbibhaa
set_option linter.unusedVariables false
set_option linter.unusedSimpArgs false
open Go.RowKit Go.Cas

theorem RdS.lit (w : World) (ys : List Value) (t : TypeId) (n : Nat) (hn : ys.length = n) : RdS (w.alloc (.cells ys.toArray t)) (w.heap.size + 1) 1 (.slice (some ⟨w.heap.size, 0, none⟩) n n) n ys :=
  ⟨by omega, _, _, rfl, Nat.le_refl _, fun _ => ⟨_, 0, rfl, by omega, fun j u hu => by rw [World.cell?_alloc_new]; simpa using hu⟩⟩

set_option maxHeartbeats 1000000 in
theorem c_oneOf (r : Int) (v : Value) (xs : List Int) (lim N : Nat) (w : World) (h : RdS w lim 1 v N (vInts xs)) (hn : N ≤ 1000) : Calls Try.prog 89 #[.int .i64 r, v] w fun e w' => e = .returned (.bool (decide (r ∈ xs))) ∧ w = w' := by
  obtain ⟨hl, A, c, rfl, hnc, hcell⟩ := h
  have hl' : xs.length = N := by simpa [vInts] using hl
  have HN := Lib.hid hl'
  have HC := Lib.hid hcell
  clear hcell hl hl'
  go_enter Try.func89, Try.ntmps89
  go_wp2_with fail
  go_loopw [5] (fun i wr => ∃ (k : Nat), k ≤ N ∧ w = wr ∧ i = .int .i64 k ∧ Hid (∀ x ∈ xs.take k, x ≠ r)) (fun i _ => N - (intOf i).toNat)
  case atStart => exact ⟨0, by omega, rfl, rfl, by simp [Hid]⟩
  case round =>
    obtain ⟨k, hk, rfl, rfl, H⟩ := hrel
    by_cases hlt : k < N
    · have hkL : k < xs.length := by rw [HN.out]; exact hlt
      obtain ⟨g, o, rfl, hg, hc⟩ := HC.out (by omega)
      have hcx := hc k (.int .i64 (xs[k]'hkL)) (vInts_get xs k hkL)
      have hst : Hid (xs.take (k + 1) = xs.take k ++ [xs[k]'hkL]) := List.take_succ_eq_append_getElem hkL
      have hmem : Hid (xs[k]'hkL ∈ xs) := List.getElem_mem hkL
      clear hc
      generalize xs[k]'hkL = x at *
      have hi : (k : Int) < (N : Int) := by omega
      go_wp2_with fail
      · go_ret
        refine ⟨ret_bool ?_, rfl⟩
        have := hmem.out
        simp_all
      · go_roundw
        case rel =>
          refine ⟨k + 1, by omega, by first | rfl | trivial, by go_num, ?_⟩
          have h1 := hst.out
          have h2 := H.out
          unfold Hid
          rw [h1]
          intro y hy
          rw [List.mem_append] at hy
          rcases hy with hy | hy
          · exact h2 y hy
          · simp only [List.mem_singleton] at hy
            subst hy
            rename_i q
            simpa using q
        case measure => simp [intOf]; omega
    · go_wp2_with fail
      go_ret
      refine ⟨ret_bool ?_, rfl⟩
      have h2 := H.out
      rw [List.take_of_length_le (by rw [HN.out]; omega)] at h2
      simp
      intro hr
      exact h2 r hr rfl
theorem c_oneGlue (r : Int) (k : Nat) (w : World) (hk : k = w.heap.size) : Calls Try.prog 89 #[.int .i64 r, .slice (some ⟨k, 0, none⟩) 2 2] (w.alloc (.cells #[.int .i64 160, .int .i64 8288] 3)) fun e w' => e = .returned (.bool (glueB r)) ∧ w.alloc (.cells #[.int .i64 160, .int .i64 8288] 3) = w' := by
  subst hk
  refine (c_oneOf r _ [160, 8288] _ 2 _ (RdS.lit w [.int .i64 160, .int .i64 8288] 3 2 rfl) (by omega)).mono ?_
  rintro e w' ⟨rfl, rfl⟩
  exact ⟨by congr 2; simp [glueB], rfl⟩
theorem c_oneOpens (r : Int) (k : Nat) (w : World) (hk : k = w.heap.size) : Calls Try.prog 89 #[.int .i64 r, .slice (some ⟨k, 0, none⟩) 3 3] (w.alloc (.cells #[.int .i64 12300, .int .i64 12302, .int .i64 65288] 3)) fun e w' => e = .returned (.bool (opensB r)) ∧ w.alloc (.cells #[.int .i64 12300, .int .i64 12302, .int .i64 65288] 3) = w' := by
  subst hk
  refine (c_oneOf r _ [12300, 12302, 65288] _ 3 _ (RdS.lit w [.int .i64 12300, .int .i64 12302, .int .i64 65288] 3 3 rfl) (by omega)).mono ?_
  rintro e w' ⟨rfl, rfl⟩
  exact ⟨by congr 2; simp [opensB], rfl⟩
theorem c_oneCloses (r : Int) (k : Nat) (w : World) (hk : k = w.heap.size) : Calls Try.prog 89 #[.int .i64 r, .slice (some ⟨k, 0, none⟩) 6 6] (w.alloc (.cells #[.int .i64 12289, .int .i64 12290, .int .i64 12301, .int .i64 12303, .int .i64 65289, .int .i64 65292] 3)) fun e w' => e = .returned (.bool (closesB r)) ∧ w.alloc (.cells #[.int .i64 12289, .int .i64 12290, .int .i64 12301, .int .i64 12303, .int .i64 65289, .int .i64 65292] 3) = w' := by
  subst hk
  refine (c_oneOf r _ [12289, 12290, 12301, 12303, 65289, 65292] _ 6 _ (RdS.lit w [.int .i64 12289, .int .i64 12290, .int .i64 12301, .int .i64 12303, .int .i64 65289, .int .i64 65292] 3 6 rfl) (by omega)).mono ?_
  rintro e w' ⟨rfl, rfl⟩
  exact ⟨by congr 2; simp [closesB], rfl⟩

set_option maxRecDepth 100000 in
set_option maxHeartbeats 2000000 in
theorem c_between (g o N cap i : Nat) (a b c : Int) (w : World) (hg : g < w.heap.size) (h1 : 1 ≤ i) (hi : i < N) (hN : N ≤ 100000) (ha : w.cell? ⟨g, o + (i - 1), none⟩ = some (.int .i64 a)) (hb : w.cell? ⟨g, o + i, none⟩ = some (.int .i64 b)) (hc : 2 ≤ i → w.cell? ⟨g, o + (i - 2), none⟩ = some (.int .i64 c))
    (ra : 0 ≤ a ∧ a ≤ 1114111) (rb : 0 ≤ b ∧ b ≤ 1114111) : Calls Try.prog 69 #[.slice (some ⟨g, o, none⟩) N cap, .int .i64 i] w fun e w' => e = .returned (.bool (mayB a b c (decide (1 < i)))) ∧ Below w.heap.size w w' := by
  go_enter Try.func69, Try.ntmps69
  have hi' : (i : Int) < (N : Int) := by omega
  have e1 : ((i : Int) - 1).toNat = i - 1 := by omega
  have e2 : ((i : Int) - 2).toNat = i - 2 := by omega
  by_cases h2 : 2 ≤ i
  · have hcx := hc h2
    have h2' : (2 : Int) ≤ (i : Int) := by omega
    go_wp2_with (first | (go_at_call 89; with_reducible refine (c_oneGlue _ _ _ (by simp)).mono ?_; rintro e w' ⟨rfl, rfl⟩) | (go_at_call 89; with_reducible refine (c_oneOpens _ _ _ (by simp)).mono ?_; rintro e w' ⟨rfl, rfl⟩) | (go_at_call 89; with_reducible refine (c_oneCloses _ _ _ (by simp)).mono ?_; rintro e w' ⟨rfl, rfl⟩) | (go_at_call 90; refine (c_isLetter _ _).mono ?_; rintro e w' ⟨rfl, rfl⟩) | (go_at_call 66; refine (c_Wide _ _).mono ?_; rintro e w' ⟨rfl, rfl⟩))
    all_goals
      go_ret
      refine ⟨ret_bool ?_, ?_⟩
      · clear hcx ha hb hc hg hi hi' hN e1 e2 ra rb
        first
        | (simp_all [mayB, hypB, digB]; done)
        | (simp_all [mayB, hypB, digB] <;> omega)
      · repeat (with_reducible refine bl_alloc ?_ _)
        exact Below.refl _ _
  · have h2' : ¬ (2 : Int) ≤ (i : Int) := by omega
    go_wp2_with (first | (go_at_call 89; with_reducible refine (c_oneGlue _ _ _ (by simp)).mono ?_; rintro e w' ⟨rfl, rfl⟩) | (go_at_call 89; with_reducible refine (c_oneOpens _ _ _ (by simp)).mono ?_; rintro e w' ⟨rfl, rfl⟩) | (go_at_call 89; with_reducible refine (c_oneCloses _ _ _ (by simp)).mono ?_; rintro e w' ⟨rfl, rfl⟩) | (go_at_call 90; refine (c_isLetter _ _).mono ?_; rintro e w' ⟨rfl, rfl⟩) | (go_at_call 66; refine (c_Wide _ _).mono ?_; rintro e w' ⟨rfl, rfl⟩))
    all_goals
      go_ret
      refine ⟨ret_bool ?_, ?_⟩
      · clear ha hb hc hg hi hi' hN e1 e2 ra rb
        first
        | (simp_all [mayB, hypB, digB]; done)
        | (simp_all [mayB, hypB, digB] <;> omega)
      · repeat (with_reducible refine bl_alloc ?_ _)
        exact Below.refl _ _
end Go.Proofs.Ytnjckpgacbibhaa
