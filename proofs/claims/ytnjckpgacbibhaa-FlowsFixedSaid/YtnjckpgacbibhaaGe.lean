/- a box at a place: the program's (flows.Fixed).Solve -/
import Derived.Test.YtnjckpgacbibhaaGd
import Derived.Handy
namespace Go.Proofs.Ytnjckpgacbibhaa
set_option linter.unusedVariables false
set_option linter.unusedSimpArgs false
open Go.RowKit Go.Cas
theorem hld_HdF (n : Int) : Hd (hld n) := hld_bd n
theorem low_HdF (n : Int) : Hd (max 0 (hld n)) := by have := hld_bd n; unfold Hd; omega
section
variable (a b c d e f g h m n q : Int) (u v x y z : Bool)
def gA : Prop := 0 ≤ n ∧ n < (fI a b c d e f g h u v x y z)
instance : Decidable (gA a b c d e f g h n u v x y z) := by unfold gA; infer_instance
def gI2 : Int := if gA a b c d e f g h n u v x y z then n else (fI a b c d e f g h u v x y z)
def gY2 : Bool := if gA a b c d e f g h n u v x y z then false else y
def gB : Prop := gI2 a b c d e f g h n u v x y z < max 0 m
instance : Decidable (gB a b c d e f g h m n u v x y z) := by unfold gB; infer_instance
def gI3 : Int := if gB a b c d e f g h m n u v x y z then max 0 m else gI2 a b c d e f g h n u v x y z
def gY3 : Bool := if gB a b c d e f g h m n u v x y z then false else gY2 a b c d e f g h n u v x y z
def refF : Value := .tuple #[.int .i64 (oF a b c d f g (gI3 a b c d e f g h m n u v x y z) q u v x z), .int .i64 (oL a b c d f g (gI3 a b c d e f g h m n u v x y z) u v x (gY3 a b c d e f g h m n u v x y z) z), .int .i64 (gI3 a b c d e f g h m n u v x y z), .int .i64 (oR a b c d f g (gI3 a b c d e f g h m n u v x y z) u v x (gY3 a b c d e f g h m n u v x y z) z)]
def solF : Value := refF (hld a) (hld b) (hld c) (hld d) (hld e) (hld f) (hld g) (hld h) (hld m) (hld n) (hld q) u v x y z
end
theorem sol_of (a b c d e f g h m n q : Int) (u v x y z : Bool) {I : Int} {Y : Bool} (hI : I = gI3 a b c d e f g h m n u v x y z) (hY : Y = gY3 a b c d e f g h m n u v x y z) : Ending.returned (.tuple #[.int .i64 (oF a b c d f g I q u v x z), .int .i64 (oL a b c d f g I u v x Y z), .int .i64 I, .int .i64 (oR a b c d f g I u v x Y z)]) = .returned (refF a b c d e f g h m n q u v x y z) := by
  subst hI hY; rfl
theorem gY3_iff (a b c d e f g h m n : Int) (u v x y z : Bool) : (gY3 a b c d e f g h m n u v x y z = false) ↔ (gB a b c d e f g h m n u v x y z ∨ gA a b c d e f g h n u v x y z ∨ y = false) := by
  unfold gY3 gY2
  by_cases h1 : gB a b c d e f g h m n u v x y z
  · simp [h1]
  · by_cases h2 : gA a b c d e f g h n u v x y z
    · simp [h1, h2]
    · simp [h1, h2]
theorem fI_false (a b c d e f g h : Int) (u v x z : Bool) : fI a b c d e f g h u v x false z = e := rfl

set_option maxHeartbeats 8000000 in
theorem c_SolveF (a b c d e f g h m n q : Int) (u v x y z : Bool) (w : World) :
    Calls Try.prog 39 #[aggF a b c d e f g h m n q u v x y z] w fun en w' => en = .returned (solF a b c d e f g h m n q u v x y z) ∧ Below w.heap.size w w' := by
  have f1 := fold_max
  have F : Hid (∀ I Y, I = gI3 (hld a) (hld b) (hld c) (hld d) (hld e) (hld f) (hld g) (hld h) (hld m) (hld n) u v x y z → Y = gY3 (hld a) (hld b) (hld c) (hld d) (hld e) (hld f) (hld g) (hld h) (hld m) (hld n) u v x y z → Ending.returned (.tuple #[.int .i64 (oF (hld a) (hld b) (hld c) (hld d) (hld f) (hld g) I (hld q) u v x z), .int .i64 (oL (hld a) (hld b) (hld c) (hld d) (hld f) (hld g) I u v x Y z), .int .i64 I, .int .i64 (oR (hld a) (hld b) (hld c) (hld d) (hld f) (hld g) I u v x Y z)]) = .returned (solF a b c d e f g h m n q u v x y z)) := Lib.hid (fun _ _ h1 h2 => sol_of _ _ _ _ _ _ _ _ _ _ _ _ _ _ _ _ h1 h2)
  go_enter Try.func39, Try.ntmps39
  go_wp2_with fail
  refine wp_loop_rounds 12 ?_
  repeat any_goals (rw [rounds_succ]; go_wp2_with (go_at_call 54; refine (c_held _ _).mono ?_; rintro e w' ⟨rfl, rfl⟩))
  refine (c_onceF _ _ _ _ _ _ _ _ _ _ _ _ _ _ _ _ _ (hld_HdF _) (hld_HdF _) (hld_HdF _) (hld_HdF _) (hld_HdF _) (hld_HdF _) (hld_HdF _) (hld_HdF _)).mono ?_; rintro en w1 ⟨rfl, hb1⟩
  have k1 : Bk w1 w.heap.size 62 #[.int .i64 (hld a), .int .i64 (hld b), .int .i64 (hld c), .int .i64 (hld d), .int .i64 (hld e), .int .i64 (hld f), .int .i64 (hld g), .int .i64 (hld h), .int .i64 (hld m), .int .i64 (hld n), .int .i64 (hld q), .bool u, .bool v, .bool x, .bool y, .bool z] := ((Bk.new _ _ _).alloc _).below hb1 (by simp; omega)
  have b1 : Below w.heap.size w w1 := bl_trans (bl_alloc (bl_alloc (Below.refl _ _) _) _) hb1
  have c1 := k1.cell; have f1' := k1.free; have l1 := k1.lt
  clear hb1
  by_cases hA : gA (hld a) (hld b) (hld c) (hld d) (hld e) (hld f) (hld g) (hld h) (hld n) u v x y z
  · have e2 := Lib.hid (show gI2 (hld a) (hld b) (hld c) (hld d) (hld e) (hld f) (hld g) (hld h) (hld n) u v x y z = hld n from if_pos hA)
    have e3 := Lib.hid (show gY2 (hld a) (hld b) (hld c) (hld d) (hld e) (hld f) (hld g) (hld h) (hld n) u v x y z = false from if_pos hA)
    obtain ⟨hA1, hA2⟩ := hA
    go_wp2_with fail
    refine (c_onceF _ _ _ _ _ _ _ _ _ _ _ _ _ _ _ _ _ (hld_HdF _) (hld_HdF _) (hld_HdF _) (hld_HdF _) (hld_HdF _) (hld_HdF _) (hld_HdF _) (hld_HdF _)).mono ?_; rintro en w2 ⟨rfl, hb2⟩
    have k2 : Bk w2 w.heap.size 62 #[.int .i64 (hld a), .int .i64 (hld b), .int .i64 (hld c), .int .i64 (hld d), .int .i64 (hld n), .int .i64 (hld f), .int .i64 (hld g), .int .i64 (hld h), .int .i64 (hld m), .int .i64 (hld n), .int .i64 (hld q), .bool u, .bool v, .bool x, .bool false, .bool z] := ((k1.set_ 4 _).set_ 14 _).below hb2 (by simp [World.setCell]; omega)
    have b2 : Below w.heap.size w w2 := bl_trans (bl_set (bl_set b1 _ _ (Nat.le_refl _) _) _ _ (Nat.le_refl _) _) hb2
    have c2 := k2.cell; have f2' := k2.free; have l2 := k2.lt
    clear hb2 c1 f1' l1 k1 b1 hA1 hA2
    rw [fI_false]
    have eI : gB (hld a) (hld b) (hld c) (hld d) (hld e) (hld f) (hld g) (hld h) (hld m) (hld n) u v x y z ↔ (hld n) < max 0 (hld m) := by unfold gB; rw [e2.out]
    have EI := Lib.hid eI; clear eI
    by_cases hB : (hld n) < max 0 (hld m)
    · have Q := Lib.hid (F.out (max 0 (hld m)) false (if_pos (EI.out.2 hB)).symm (if_pos (EI.out.2 hB)).symm)
      go_wp2_with fail
      refine (c_onceF _ _ _ _ _ _ _ _ _ _ _ _ _ _ _ _ _ (hld_HdF _) (hld_HdF _) (hld_HdF _) (hld_HdF _) (low_HdF _) (hld_HdF _) (hld_HdF _) (hld_HdF _)).mono ?_; rintro en w9 ⟨rfl, hb9⟩
      go_wp2_with fail
      refine bodyPost_ret (results_four rfl _ _ _) rfl ?_
      exact ⟨Q.out, bl_trans (bl_set (bl_set b2 _ _ (Nat.le_refl _) _) _ _ (Nat.le_refl _) _) hb9⟩
    · have Q := Lib.hid (F.out ((hld n)) false ((if_neg (fun h => hB (EI.out.1 h))).trans e2.out).symm ((if_neg (fun h => hB (EI.out.1 h))).trans e3.out).symm)
      go_wp2_with fail
      refine bodyPost_ret (results_four rfl _ _ _) rfl ?_
      exact ⟨Q.out, b2⟩
  · have e2 := Lib.hid (show gI2 (hld a) (hld b) (hld c) (hld d) (hld e) (hld f) (hld g) (hld h) (hld n) u v x y z = (fI (hld a) (hld b) (hld c) (hld d) (hld e) (hld f) (hld g) (hld h) u v x y z) from if_neg hA)
    have e3 := Lib.hid (show gY2 (hld a) (hld b) (hld c) (hld d) (hld e) (hld f) (hld g) (hld h) (hld n) u v x y z = y from if_neg hA)
    unfold gA at hA
    by_cases hg : 0 ≤ hld n
    · have hg2 : ¬ hld n < (fI (hld a) (hld b) (hld c) (hld d) (hld e) (hld f) (hld g) (hld h) u v x y z) := fun h => hA ⟨hg, h⟩
      clear hA
      have eI : gB (hld a) (hld b) (hld c) (hld d) (hld e) (hld f) (hld g) (hld h) (hld m) (hld n) u v x y z ↔ (fI (hld a) (hld b) (hld c) (hld d) (hld e) (hld f) (hld g) (hld h) u v x y z) < max 0 (hld m) := by unfold gB; rw [e2.out]
      have EI := Lib.hid eI; clear eI
      by_cases hB : (fI (hld a) (hld b) (hld c) (hld d) (hld e) (hld f) (hld g) (hld h) u v x y z) < max 0 (hld m)
      · have Q := Lib.hid (F.out (max 0 (hld m)) false (if_pos (EI.out.2 hB)).symm (if_pos (EI.out.2 hB)).symm)
        go_wp2_with fail
        refine (c_onceF _ _ _ _ _ _ _ _ _ _ _ _ _ _ _ _ _ (hld_HdF _) (hld_HdF _) (hld_HdF _) (hld_HdF _) (low_HdF _) (hld_HdF _) (hld_HdF _) (hld_HdF _)).mono ?_; rintro en w9 ⟨rfl, hb9⟩
        go_wp2_with fail
        refine bodyPost_ret (results_four rfl _ _ _) rfl ?_
        exact ⟨Q.out, bl_trans (bl_set (bl_set b1 _ _ (Nat.le_refl _) _) _ _ (Nat.le_refl _) _) hb9⟩
      · have Q := Lib.hid (F.out ((fI (hld a) (hld b) (hld c) (hld d) (hld e) (hld f) (hld g) (hld h) u v x y z)) y ((if_neg (fun h => hB (EI.out.1 h))).trans e2.out).symm ((if_neg (fun h => hB (EI.out.1 h))).trans e3.out).symm)
        go_wp2_with fail
        refine bodyPost_ret (results_four rfl _ _ _) rfl ?_
        exact ⟨Q.out, b1⟩
    · clear hA
      have eI : gB (hld a) (hld b) (hld c) (hld d) (hld e) (hld f) (hld g) (hld h) (hld m) (hld n) u v x y z ↔ (fI (hld a) (hld b) (hld c) (hld d) (hld e) (hld f) (hld g) (hld h) u v x y z) < max 0 (hld m) := by unfold gB; rw [e2.out]
      have EI := Lib.hid eI; clear eI
      by_cases hB : (fI (hld a) (hld b) (hld c) (hld d) (hld e) (hld f) (hld g) (hld h) u v x y z) < max 0 (hld m)
      · have Q := Lib.hid (F.out (max 0 (hld m)) false (if_pos (EI.out.2 hB)).symm (if_pos (EI.out.2 hB)).symm)
        go_wp2_with fail
        refine (c_onceF _ _ _ _ _ _ _ _ _ _ _ _ _ _ _ _ _ (hld_HdF _) (hld_HdF _) (hld_HdF _) (hld_HdF _) (low_HdF _) (hld_HdF _) (hld_HdF _) (hld_HdF _)).mono ?_; rintro en w9 ⟨rfl, hb9⟩
        go_wp2_with fail
        refine bodyPost_ret (results_four rfl _ _ _) rfl ?_
        exact ⟨Q.out, bl_trans (bl_set (bl_set b1 _ _ (Nat.le_refl _) _) _ _ (Nat.le_refl _) _) hb9⟩
      · have Q := Lib.hid (F.out ((fI (hld a) (hld b) (hld c) (hld d) (hld e) (hld f) (hld g) (hld h) u v x y z)) y ((if_neg (fun h => hB (EI.out.1 h))).trans e2.out).symm ((if_neg (fun h => hB (EI.out.1 h))).trans e3.out).symm)
        go_wp2_with fail
        refine bodyPost_ret (results_four rfl _ _ _) rfl ?_
        exact ⟨Q.out, b1⟩
end Go.Proofs.Ytnjckpgacbibhaa
