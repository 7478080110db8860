import Derived.Test.YtnjckpgacbibhaaIa
import Derived.Below
namespace Go.Proofs.Ytnjckpgacbibhaa
open Go.RowKit
/- FlowsMargins: the walk: margins that meet are one join -/
theorem below_alloc {w w' : World} (h : Below w.heap.size w w') (o : Obj) : Below w.heap.size w (w'.alloc o) := h.alloc h.size o
def mUp (a b c : Int) : Nat → Int | 0 => 0 | 1 => max 0 a | 2 => max (max 0 a) b | _ => max (max (max 0 a) b) c
def mDown (a b c : Int) : Nat → Int | 0 => 0 | 1 => min 0 a | 2 => min (min 0 a) b | _ => min (min (min 0 a) b) c
theorem mUp_Down (a b c : Int) : mUp a b c 3 = max (max (max 0 a) b) c ∧ mDown a b c 3 = min (min (min 0 a) b) c := ⟨rfl, rfl⟩
set_option maxRecDepth 100000 in
set_option maxHeartbeats 2000000 in
theorem W_flowsMargins (a b c : Int) (w : World) (_ : (Lit.int .i64 a).wf = true) (_ : (Lit.int .i64 b).wf = true) (_ : (Lit.int .i64 c).wf = true) : Calls Try.prog 3 #[.int .i64 a, .int .i64 b, .int .i64 c] w fun e w' => e = .returned (.bool true) ∧ Below w.heap.size w w' := by
  have ha := hld_bd a
  have e1 : wrap64 (max (hld a) 0 + min (hld a) 0) = hld a := by rw [IntWalk.wrap64_in _ ⟨by omega, by omega⟩]; omega
  go_enter Try.func3, Try.ntmps3
  go_wp2_with (first
    | (go_at_call 15; refine (c_Of _ _).mono ?_; rintro e w' ⟨rfl, rfl⟩)
    | (go_at_call 16; refine (c_Size _ _ _).mono ?_; rintro e w' ⟨rfl, rfl⟩)
    | (go_at_call 18; refine (c_Join _ _ _ _ _).mono ?_; rintro e w' ⟨rfl, rfl⟩)
    | (go_at_call 17; refine (c_Held4 _ _).mono ?_; rintro e w' ⟨rfl, rfl⟩))
  go_loop [16, 17, 19] (fun u d i => ∃ k : Nat, k ≤ 3 ∧ i = .int .i64 k ∧ u = .int .i64 (mUp (hld a) (hld b) (hld c) k) ∧ d = .int .i64 (mDown (hld a) (hld b) (hld c) k)) (fun _ _ i => 3 - (intOf i).toNat)
  case atStart => exact ⟨0, by omega, rfl, rfl, rfl⟩
  case round =>
    obtain ⟨k, hk, rfl, rfl, rfl⟩ := hrel
    rcases (show k = 0 ∨ k = 1 ∨ k = 2 ∨ k = 3 from by omega) with rfl | rfl | rfl | rfl
    · go_wp2
      all_goals
        go_round
        case rel => exact ⟨1, by omega, by go_num, by congr 1; simp only [mUp, mDown] at *; omega, by congr 1; simp only [mUp, mDown] at *; omega⟩
        case measure => simp [intOf]
    · go_wp2
      all_goals
        go_round
        case rel => exact ⟨2, by omega, by go_num, by congr 1; simp only [mUp, mDown] at *; omega, by congr 1; simp only [mUp, mDown] at *; omega⟩
        case measure => simp [intOf]
    · go_wp2
      all_goals
        go_round
        case rel => exact ⟨3, by omega, by go_num, by congr 1; simp only [mUp, mDown] at *; omega, by congr 1; simp only [mUp, mDown] at *; omega⟩
        case measure => simp [intOf]
    · have g1 := mUp_Down (hld a) (hld b) (hld c)
      go_wp2
      go_ret
      refine ⟨rfl, ?_⟩
      repeat (with_reducible refine below_alloc ?_ _)
      exact Below.refl _ _
end Go.Proofs.Ytnjckpgacbibhaa
