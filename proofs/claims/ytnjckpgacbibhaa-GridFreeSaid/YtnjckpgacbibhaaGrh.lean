/- the grid: what an item is held to -/
import Derived.Test.YtnjckpgacbibhaaGrg
import Derived.StillTailTactics
namespace Go.Proofs.Ytnjckpgacbibhaa
set_option linter.unusedVariables false
set_option linter.unusedSimpArgs false
open Go.RowKit Go.Cas
theorem c_held1 (n : Int) (w : World) : Calls Try.prog 94 #[.int .i64 n] w fun e w' => e = .returned (.int .i64 (max 1 (min n 20))) ∧ w = w' := by
  have f1 := fold_max
  have f2 := fold_min
  go_enter Try.func94, Try.ntmps94
  go_wp2_with fail
  go_ret
  exact ⟨rfl, rfl⟩
set_option maxRecDepth 100000 in
set_option maxHeartbeats 4000000 in
theorem c_heldI (c p r q : Int) (w : World) : Calls Try.prog 81 #[.agg #[.int .i64 c, .int .i64 p, .int .i64 r, .int .i64 q]] w fun e w' => e = .returned (.agg #[.int .i64 (max 0 (min c 200)), .int .i64 (max 1 (min p 20)), .int .i64 (max 0 (min r 200)), .int .i64 (max 1 (min q 20))]) ∧ Below w.heap.size w w' := by
  have f1 := fold_max
  have f2 := fold_min
  have HB := Lib.hid (bl_drew (bl_alloc (bl_alloc (Below.refl _ w) (.cells #[.int .i64 c, .int .i64 p, .int .i64 r, .int .i64 q] 99)) (.cells #[.int .i64 0, .int .i64 0, .int .i64 0, .int .i64 0] 99)))
  obtain ⟨R, hR⟩ : ∃ R, R = w.heap.size := ⟨_, rfl⟩
  have HX : Hid (Bk ((w.alloc (.cells #[.int .i64 c, .int .i64 p, .int .i64 r, .int .i64 q] 99)).alloc (.cells #[.int .i64 0, .int .i64 0, .int .i64 0, .int .i64 0] 99)).drew R 99 #[.int .i64 c, .int .i64 p, .int .i64 r, .int .i64 q]) := by subst hR; exact Bk.drew ((Bk.new _ _ _).alloc _)
  have HY : Hid (Bk ((w.alloc (.cells #[.int .i64 c, .int .i64 p, .int .i64 r, .int .i64 q] 99)).alloc (.cells #[.int .i64 0, .int .i64 0, .int .i64 0, .int .i64 0] 99)).drew (R + 1) 99 #[.int .i64 0, .int .i64 0, .int .i64 0, .int .i64 0]) := Bk.drew (bk_new' _ _ _ (by subst hR; simp))
  have HRR := Lib.hid hR
  clear hR
  go_enter Try.func81, Try.ntmps81
  go_wp2_with fail
  refine wp_region_still_tail 17 (by kernel_rfl) (by kernel_rfl) ?_
  simp only [List.take_succ_cons, List.take_zero, List.drop_succ_cons, List.drop_zero]
  change wpStill _ _ (World.drew _) _ _ _
  rw [← HRR.out]
  obtain ⟨w2, hw2⟩ : ∃ w2, w2 = ((w.alloc (.cells #[.int .i64 c, .int .i64 p, .int .i64 r, .int .i64 q] 99)).alloc (.cells #[.int .i64 0, .int .i64 0, .int .i64 0, .int .i64 0] 99)).drew := ⟨_, rfl⟩
  rw [← hw2]
  rw [← hw2] at HB HX HY
  have HW2 := Lib.hid hw2
  clear hw2
  have q1 := HX.out.cell; have q2 := HX.out.lt
  repeat (first | still_step | still_call ((c_held1 _ _).mono fun _ _ h => ⟨h.1, h.2.symm⟩))
  refine wpStill_nil ?_
  change wpList _ _ _ _ _ (World.drew _)
  rw [← HW2.out]
  have q3 := HY.out.cell; have q4 := HY.out.free; have q5 := HY.out.lt
  go_wp2_with fail
  exact bodyPost_ret (v := .agg #[.int .i64 (max 0 (min c 200)), .int .i64 (max 1 (min p 20)), .int .i64 (max 0 (min r 200)), .int .i64 (max 1 (min q 20))]) (by simp [results, Try.results81, go_sem, q3, q4, q5]) rfl ⟨rfl, by repeat (first | exact HB.out | with_reducible refine bl_set ?_ _ _ (by rw [HRR.out]; omega) _)⟩
theorem c_heldG (x : CIn) (w : World) : Calls Try.prog 81 #[.agg #[.int .i64 x.c, .int .i64 x.p, .int .i64 x.r, .int .i64 x.q]] w fun e w' => e = .returned (agI (atI x.c) (spanN x.p) (atI x.r) (spanN x.q)) ∧ Below w.heap.size w w' :=
  (c_heldI x.c x.p x.r x.q w).mono fun e w' ⟨h1, h2⟩ => ⟨by rw [h1, spanN_eq, spanN_eq]; rfl, h2⟩
theorem inf_Item : (Try.prog.info? 99).map (fun i => (i.zero, i.size, i.bytes)) = some (some (.agg #[.int .i64 0, .int .i64 0, .int .i64 0, .int .i64 0]), 4, 32) := by kernel_rfl
end Go.Proofs.Ytnjckpgacbibhaa
