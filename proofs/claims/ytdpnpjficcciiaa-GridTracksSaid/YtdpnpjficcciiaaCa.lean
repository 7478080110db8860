/- seat C: the little functions on integers -/
import Derived.Test.YtdpnpjficcciiaaProg
import Derived.WalkKit
import Derived.WalkLawsBesides
import Derived.Lib.Hide
import Derived.StillTailTactics
import Derived.Test.Ytdpnpjficcciiaamem2
import Derived.Test.Ytdpnpjficcciiaaopen2
import Derived.Test.YtdpnpjficcciiaaSha
import Derived.Deep.LoopGhost
import Derived.Deep.DeepCutAuto
namespace Go.Proofs.Ytdpnpjficcciiaa
set_option linter.unusedVariables false
set_option linter.unusedSimpArgs false
open Go.RowKit Go.Cas

theorem ret_int {k : IntKind} {a b : Int} (h : a = b) : Ending.returned (.int k a) = .returned (.int k b) := by rw [h]
theorem ret_bool {a b : Bool} (h : a = b) : Ending.returned (.bool a) = .returned (.bool b) := by rw [h]
theorem fold_max : ∀ a b : Int, (if a < b then b else a) = max a b := fun a b => by omega
theorem fold_min : ∀ a b : Int, (if b < a then b else a) = min a b := fun a b => by omega
theorem c_heldF (n : Int) (w : World) : Calls Try.prog 15 #[.int .i64 n] w fun e w' => e = .returned (.int .i64 (hld n)) ∧ w = w' := by
  have f1 := fold_max; have f2 := fold_min
  go_enter Try.func15, Try.ntmps15
  go_wp2_with fail
  go_ret
  exact ⟨rfl, rfl⟩
theorem c_facF (n : Int) (w : World) : Calls Try.prog 45 #[.int .i64 n] w fun e w' => e = .returned (.int .i64 (fac n)) ∧ w = w' := by
  have f1 := fold_max; have f2 := fold_min
  go_enter Try.func45, Try.ntmps45
  go_wp2_with fail
  go_ret
  exact ⟨rfl, rfl⟩
abbrev agF (x : FI) : Value := .agg #[.int .i64 x.b, .int .i64 x.mn, .int .i64 x.mx, .int .i64 x.ar, .int .i64 x.g, .int .i64 x.s]
set_option maxRecDepth 100000 in
set_option maxHeartbeats 4000000 in
theorem c_heldI (x : FI) (w : World) : Calls Try.prog 39 #[agF x] w fun e w' => e = .returned (agF (hdI x)) ∧ Below w.heap.size w w' := by
  obtain ⟨b, mn, mx, ar, g, s⟩ := x
  have f1 := fold_max; have f2 := fold_min
  have HB := Lib.hid (bl_drew (bl_alloc (bl_alloc (Below.refl _ w) (.cells #[.int .i64 b, .int .i64 mn, .int .i64 mx, .int .i64 ar, .int .i64 g, .int .i64 s] 26)) (.cells #[.int .i64 0, .int .i64 0, .int .i64 0, .int .i64 0, .int .i64 0, .int .i64 0] 26)))
  obtain ⟨R, hR⟩ : ∃ R, R = w.heap.size := ⟨_, rfl⟩
  have HX : Hid (Bk ((w.alloc (.cells #[.int .i64 b, .int .i64 mn, .int .i64 mx, .int .i64 ar, .int .i64 g, .int .i64 s] 26)).alloc (.cells #[.int .i64 0, .int .i64 0, .int .i64 0, .int .i64 0, .int .i64 0, .int .i64 0] 26)).drew R 26 #[.int .i64 b, .int .i64 mn, .int .i64 mx, .int .i64 ar, .int .i64 g, .int .i64 s]) := by subst hR; exact Bk.drew ((Bk.new _ _ _).alloc _)
  have HY : Hid (Bk ((w.alloc (.cells #[.int .i64 b, .int .i64 mn, .int .i64 mx, .int .i64 ar, .int .i64 g, .int .i64 s] 26)).alloc (.cells #[.int .i64 0, .int .i64 0, .int .i64 0, .int .i64 0, .int .i64 0, .int .i64 0] 26)).drew (R + 1) 26 #[.int .i64 0, .int .i64 0, .int .i64 0, .int .i64 0, .int .i64 0, .int .i64 0]) := Bk.drew (bk_new' _ _ _ (by subst hR; simp))
  have HRR := Lib.hid hR
  clear hR
  go_enter Try.func39, Try.ntmps39
  go_wp2_with fail
  refine wp_region_still_tail 21 (by kernel_rfl) (by kernel_rfl) ?_
  simp only [List.take_succ_cons, List.take_zero, List.drop_succ_cons, List.drop_zero]
  change wpStill _ _ (World.drew _) _ _ _
  rw [← HRR.out]
  obtain ⟨w2, hw2⟩ : ∃ w2, w2 = ((w.alloc (.cells #[.int .i64 b, .int .i64 mn, .int .i64 mx, .int .i64 ar, .int .i64 g, .int .i64 s] 26)).alloc (.cells #[.int .i64 0, .int .i64 0, .int .i64 0, .int .i64 0, .int .i64 0, .int .i64 0] 26)).drew := ⟨_, rfl⟩
  rw [← hw2]
  rw [← hw2] at HB HX HY
  have HW2 := Lib.hid hw2
  clear hw2
  have q1 := HX.out.cell; have q2 := HX.out.lt
  repeat (first | still_step | still_call ((c_heldF _ _).mono fun _ _ h => ⟨h.1, h.2.symm⟩) | still_call ((c_facF _ _).mono fun _ _ h => ⟨h.1, h.2.symm⟩))
  refine wpStill_nil ?_
  change wpList _ _ _ _ _ (World.drew _)
  rw [← HW2.out]
  have q3 := HY.out.cell; have q4 := HY.out.free; have q5 := HY.out.lt
  go_wp2_with fail
  exact bodyPost_ret (v := agF (hdI ⟨b, mn, mx, ar, g, s⟩)) (by simp [results, Try.results39, go_sem, q3, q4, q5, hdI]) rfl ⟨rfl, by repeat (first | exact HB.out | with_reducible refine bl_set ?_ _ _ (by rw [HRR.out]; omega) _)⟩
end Go.Proofs.Ytdpnpjficcciiaa
