/- widths of a block: the program's (flows.Width).Solve -/
import Derived.Test.YtnjckpgacbibhaaWd
import Derived.Handy
namespace Go.Proofs.Ytnjckpgacbibhaa
set_option linter.unusedVariables false
set_option linter.unusedSimpArgs false
open Go.RowKit Go.Cas

theorem hld_Hd (n : Int) : Hd (hld n) := hld_bd n
theorem low_Hd (n : Int) : Hd (max 0 (hld n)) := by have := hld_bd n; unfold Hd; omega


section
variable (a b c d e f g : Int) (x y z : Bool)
def sA : Prop := 0 ≤ hld g ∧ hld g < oneI (hld a) (hld b) (hld c) (hld d) (hld e) x y z
instance : Decidable (sA a b c d e g x y z) := by unfold sA; infer_instance
def sC2 : Int := if sA a b c d e g x y z then hld g else hld c
def sY2 : Bool := if sA a b c d e g x y z then false else y
def sB : Prop := oneI (hld a) (hld b) (sC2 a b c d e g x y z) (hld d) (hld e) x (sY2 a b c d e g x y z) z < max 0 (hld f)
instance : Decidable (sB a b c d e f g x y z) := by unfold sB; infer_instance
def sC3 : Int := if sB a b c d e f g x y z then max 0 (hld f) else sC2 a b c d e g x y z
def sY3 : Bool := if sB a b c d e f g x y z then false else sY2 a b c d e g x y z
end
def solW (a b c d e f g : Int) (x y z : Bool) : Value := .tuple #[.int .i64 (oneL (hld a) (hld b) (sC3 a b c d e f g x y z) (hld d) (hld e) x (sY3 a b c d e f g x y z) z),
  .int .i64 (oneI (hld a) (hld b) (sC3 a b c d e f g x y z) (hld d) (hld e) x (sY3 a b c d e f g x y z) z), .int .i64 (oneR (hld a) (hld b) (sC3 a b c d e f g x y z) (hld d) (hld e) x (sY3 a b c d e f g x y z) z)]
theorem ret_v {a b : Value} (h : a = b) : Ending.returned a = .returned b := by rw [h]

set_option maxHeartbeats 8000000 in
theorem c_SolveW (a b c d e f g : Int) (x y z : Bool) (w : World) :
    Calls Try.prog 32 #[aggW a b c d e f g x y z] w fun en w' => en = .returned (solW a b c d e f g x y z) ∧ Below w.heap.size w w' := by
  have f1 := fold_max
  have F : Hid (∀ C Y, C = sC3 a b c d e f g x y z → Y = sY3 a b c d e f g x y z → solW a b c d e f g x y z = .tuple #[.int .i64 (oneL (hld a) (hld b) C (hld d) (hld e) x Y z), .int .i64 (oneI (hld a) (hld b) C (hld d) (hld e) x Y z), .int .i64 (oneR (hld a) (hld b) C (hld d) (hld e) x Y z)]) := by
    rintro _ _ rfl rfl; rfl
  go_enter Try.func32, Try.ntmps32
  go_wp2_with fail
  refine wp_loop_rounds 8 ?_
  repeat any_goals (rw [rounds_succ]; go_wp2_with (go_at_call 54; refine (c_held _ _).mono ?_; rintro e w' ⟨rfl, rfl⟩))
  refine (c_onceW _ _ _ _ _ _ _ _ _ _ _ (hld_Hd _) (hld_Hd _) (hld_Hd _) (hld_Hd _) (hld_Hd _)).mono ?_; rintro en w1 ⟨rfl, hb1⟩
  have k1 : Bk w1 w.heap.size 52 #[.int .i64 (hld a), .int .i64 (hld b), .int .i64 (hld c), .int .i64 (hld d), .int .i64 (hld e), .int .i64 (hld f), .int .i64 (hld g), .bool x, .bool y, .bool z] := ((Bk.new _ _ _).alloc _).below hb1 (by simp; omega)
  have b1 : Below w.heap.size w w1 := bl_trans (bl_alloc (bl_alloc (Below.refl _ _) _) _) hb1
  have c1 := k1.cell; have f1' := k1.free; have l1 := k1.lt
  clear hb1
  by_cases hA : sA a b c d e g x y z
  · have e2 := Lib.hid (show sC2 a b c d e g x y z = hld g from if_pos hA)
    have e3 := Lib.hid (show sY2 a b c d e g x y z = false from if_pos hA)
    obtain ⟨hA1, hA2⟩ := hA
    go_wp2_with fail
    refine (c_onceW _ _ _ _ _ _ _ _ _ _ _ (hld_Hd _) (hld_Hd _) (hld_Hd _) (hld_Hd _) (hld_Hd _)).mono ?_; rintro en w2 ⟨rfl, hb2⟩
    have k2 : Bk w2 w.heap.size 52 #[.int .i64 (hld a), .int .i64 (hld b), .int .i64 (hld g), .int .i64 (hld d), .int .i64 (hld e), .int .i64 (hld f), .int .i64 (hld g), .bool x, .bool false, .bool z] := ((k1.set_ 2 _).set_ 8 _).below hb2 (by simp [World.setCell]; omega)
    have b2 : Below w.heap.size w w2 := bl_trans (bl_set (bl_set b1 _ _ (Nat.le_refl _) _) _ _ (Nat.le_refl _) _) hb2
    have c2 := k2.cell; have f2' := k2.free; have l2 := k2.lt
    clear hb2 c1 f1' l1 k1 b1
    have eI : sB a b c d e f g x y z ↔ oneI (hld a) (hld b) (hld g) (hld d) (hld e) x false z < max 0 (hld f) := by unfold sB; rw [e2.out, e3.out]
    have EI := Lib.hid eI; clear eI
    by_cases hB : oneI (hld a) (hld b) (hld g) (hld d) (hld e) x false z < max 0 (hld f)
    · have q2 : max 0 (hld f) = sC3 a b c d e f g x y z := (if_pos (EI.out.2 hB)).symm
      have q3 : false = sY3 a b c d e f g x y z := (if_pos (EI.out.2 hB)).symm
      have Q := Lib.hid (F.out _ _ q2 q3); clear q2 q3
      go_wp2_with fail
      refine (c_onceW _ _ _ _ _ _ _ _ _ _ _ (hld_Hd _) (hld_Hd _) (low_Hd _) (hld_Hd _) (hld_Hd _)).mono ?_; rintro en w9 ⟨rfl, hb9⟩
      go_wp2_with fail
      go_ret3
      exact ⟨(ret_v Q.out).symm, bl_trans (bl_set (bl_set b2 _ _ (Nat.le_refl _) _) _ _ (Nat.le_refl _) _) hb9⟩
    · have q2 : (hld g) = sC3 a b c d e f g x y z := ((if_neg (fun h => hB (EI.out.1 h))).trans e2.out).symm
      have q3 : false = sY3 a b c d e f g x y z := ((if_neg (fun h => hB (EI.out.1 h))).trans e3.out).symm
      have Q := Lib.hid (F.out _ _ q2 q3); clear q2 q3
      go_wp2_with fail
      go_ret3
      exact ⟨(ret_v Q.out).symm, b2⟩
  · have e2 := Lib.hid (show sC2 a b c d e g x y z = hld c from if_neg hA)
    have e3 := Lib.hid (show sY2 a b c d e g x y z = y from if_neg hA)
    unfold sA at hA
    by_cases hg : 0 ≤ hld g
    · have hg2 : ¬ hld g < oneI (hld a) (hld b) (hld c) (hld d) (hld e) x y z := fun h => hA ⟨hg, h⟩
      clear hA
      have eI : sB a b c d e f g x y z ↔ oneI (hld a) (hld b) (hld c) (hld d) (hld e) x y z < max 0 (hld f) := by unfold sB; rw [e2.out, e3.out]
      have EI := Lib.hid eI; clear eI
      by_cases hB : oneI (hld a) (hld b) (hld c) (hld d) (hld e) x y z < max 0 (hld f)
      · have q2 : max 0 (hld f) = sC3 a b c d e f g x y z := (if_pos (EI.out.2 hB)).symm
        have q3 : false = sY3 a b c d e f g x y z := (if_pos (EI.out.2 hB)).symm
        have Q := Lib.hid (F.out _ _ q2 q3); clear q2 q3
        go_wp2_with fail
        refine (c_onceW _ _ _ _ _ _ _ _ _ _ _ (hld_Hd _) (hld_Hd _) (low_Hd _) (hld_Hd _) (hld_Hd _)).mono ?_; rintro en w9 ⟨rfl, hb9⟩
        go_wp2_with fail
        go_ret3
        exact ⟨(ret_v Q.out).symm, bl_trans (bl_set (bl_set b1 _ _ (Nat.le_refl _) _) _ _ (Nat.le_refl _) _) hb9⟩
      · have q2 : (hld c) = sC3 a b c d e f g x y z := ((if_neg (fun h => hB (EI.out.1 h))).trans e2.out).symm
        have q3 : y = sY3 a b c d e f g x y z := ((if_neg (fun h => hB (EI.out.1 h))).trans e3.out).symm
        have Q := Lib.hid (F.out _ _ q2 q3); clear q2 q3
        go_wp2_with fail
        go_ret3
        exact ⟨(ret_v Q.out).symm, b1⟩
    · clear hA
      have eI : sB a b c d e f g x y z ↔ oneI (hld a) (hld b) (hld c) (hld d) (hld e) x y z < max 0 (hld f) := by unfold sB; rw [e2.out, e3.out]
      have EI := Lib.hid eI; clear eI
      by_cases hB : oneI (hld a) (hld b) (hld c) (hld d) (hld e) x y z < max 0 (hld f)
      · have q2 : max 0 (hld f) = sC3 a b c d e f g x y z := (if_pos (EI.out.2 hB)).symm
        have q3 : false = sY3 a b c d e f g x y z := (if_pos (EI.out.2 hB)).symm
        have Q := Lib.hid (F.out _ _ q2 q3); clear q2 q3
        go_wp2_with fail
        refine (c_onceW _ _ _ _ _ _ _ _ _ _ _ (hld_Hd _) (hld_Hd _) (low_Hd _) (hld_Hd _) (hld_Hd _)).mono ?_; rintro en w9 ⟨rfl, hb9⟩
        go_wp2_with fail
        go_ret3
        exact ⟨(ret_v Q.out).symm, bl_trans (bl_set (bl_set b1 _ _ (Nat.le_refl _) _) _ _ (Nat.le_refl _) _) hb9⟩
      · have q2 : (hld c) = sC3 a b c d e f g x y z := ((if_neg (fun h => hB (EI.out.1 h))).trans e2.out).symm
        have q3 : y = sY3 a b c d e f g x y z := ((if_neg (fun h => hB (EI.out.1 h))).trans e3.out).symm
        have Q := Lib.hid (F.out _ _ q2 q3); clear q2 q3
        go_wp2_with fail
        go_ret3
        exact ⟨(ret_v Q.out).symm, b1⟩
end Go.Proofs.Ytnjckpgacbibhaa
