/- the law MarkupNothing: its walk: the empty text; the nil tree -/
import Derived.Test.YtjamjebagcpmkaaGreatDoorCda
import Derived.Tactics
import Derived.Tactics2
import Derived.Defers
import Derived.Recover
import Derived.Laws.Pointers
import Derived.Deep.CutBlock
namespace Go.Proofs.YtjamjebagcpmkaaGreatDoor
set_option linter.unusedVariables false
set_option linter.unusedSimpArgs false
open Go.RowKit Go.Cas

theorem c_door (p q : Addr) (w : World) : CallsD Tryz.prog 7 #[.pointer (some p), .pointer (some q)] .returning w fun e u' w' => e = .returned (.tuple #[]) ∧ u' = .returning ∧ w' = w := by
  refine callsD_of_wpS Tryz.func7 rfl fun c₀ cs hu => ?_
  apply wpS_seq
  apply wpS_region
  simp [wpOpsS, go_sem, recoverD, hu, Tryz.ntmps7, Exit.thenS]
  apply wpS_seq
  apply wpS_region
  simp [wpOpsS, go_sem, hu, Exit.thenS]
  refine wpS_cond (t := false) (by simp [Act.eval, Array.replicate]) ?_
  simp only [Bool.false_eq_true, if_false]
  refine wpS_of_wp (wp_skip ?_)
  cases c₀
  simp_all [bodyPostS, results, Tryz.results7]
def R0Ret (w : World) (e : Ending) (w' : World) : Prop := ∃ t A c, e = .returned (.tuple #[.pointer (some ⟨t, 0, none⟩), .nilIface]) ∧ t < w'.heap.size ∧ w'.cell? ⟨t, 0, none⟩ = some (.slice A 1 c) ∧ Below w.heap.size w w'
set_option maxRecDepth 100000 in
set_option maxHeartbeats 4000000 in
theorem c_Read0 (w : World) : Calls Tryz.prog 4 #[.string ⟨#[]⟩] w (R0Ret w) := by
  have hmf : ∀ (fn : Fn) (first cap : Array Value) (w : World), (Instr.makeFunc fn first cap).run Tryz.prog w = .ok (.func fn first cap) w := fun _ _ _ _ => rfl
  go_enter_defers Tryz.func4, Tryz.ntmps4
  go_wp2
  refine wp_loop_rounds 1 ?_
  rw [rounds_succ]
  go_wp2
  refine leaves_cons (f := 7) (args := #[.pointer (some ⟨w.heap.size, 0, none⟩), .pointer (some ⟨w.heap.size + 1, 0, none⟩)]) (by simp) (by simp [go_sem]) ?_
  refine (c_door ⟨w.heap.size, 0, none⟩ ⟨w.heap.size + 1, 0, none⟩ _).mono ?_
  rintro e u' w'' ⟨rfl, rfl, rfl⟩
  have hend : R0Ret w (.returned (.tuple #[.pointer (some ⟨w.heap.size + 1 + 1 + 1, 0, none⟩), .nilIface])) (((((((w.alloc (.cells #[.pointer (some ⟨w.heap.size + 1 + 1 + 1, 0, none⟩)] 22)).alloc (.cells #[.nilIface] 24)).alloc (.cells #[.int .i64 1, .string ⟨#[]⟩, .string ⟨#[]⟩, .slice none 0 0, .int .i64 (-1), .slice none 0 0] 50)).alloc (.cells #[.slice (some ⟨w.heap.size + 1 + 1, 0, none⟩) 1 1, .slice none 0 0] 44)).alloc (.cells #[.int .i64 0] 3)).alloc (.cells #[.string ⟨#[]⟩, .int .i64 0, .pointer (some ⟨w.heap.size + 1 + 1 + 1, 0, none⟩), .slice (some ⟨w.heap.size + 1 + 1 + 1 + 1, 0, none⟩) 1 1, .int .i64 0] 40))) := by
    refine ⟨w.heap.size + 1 + 1 + 1, some ⟨w.heap.size + 1 + 1, 0, none⟩, 1, rfl, by simp, ?_, bl_alloc (bl_alloc (bl_alloc (bl_alloc (bl_alloc (bl_alloc (Below.refl _ _) _) _) _) _) _) _⟩
    exact (((bk_new' _ _ _ (by simp)).alloc _).alloc _).cell 0
  simp [Leaves, settle, results, Tryz.results4, go_sem]
  exact hend
def CsRet (w : World) (e : Ending) (w' : World) : Prop := e = .returned (.bool true) ∧ Below w.heap.size w w'
theorem c_Write0 {w : World} {p : Nat → Addr} {B : Nat} (h : G7 w B p) : Calls Tryz.prog 11 #[.pointer none, .int .i64 0] w fun e w' => e = .returned (.tuple #[.string ⟨#[]⟩, errW p 4]) ∧ Below w.heap.size w w' := by
  have e4 := h.cell 4 (by decide) (by decide)
  have g1 : 8 ≤ w.heap.size := by have := h.lt; omega
  simp only [gvr, List.getD_cons_zero, List.getD_cons_succ] at e4
  clear h
  go_enter Tryz.func11, Tryz.ntmps11
  go_wp2_with fail
  go_quiet (fail)
  go_wp2_with fail
  go_ret2
  exact ⟨rfl, bl_drewN (Below.refl _ _) _⟩
theorem c_nothing {w : World} {p : Nat → Addr} {B : Nat} (h : G7 w B p) : Calls Tryz.prog 6 #[] w (CsRet w) := by
  have HW := Lib.hid (c_Write0 h)
  have HC : Hid (∀ W', Below w.heap.size w W' → Calls Tryz.prog 12 #[errW p 4, .int .i64 4] W' (CdRet (((4 : Nat) : Int) == 4) W')) := fun W' hb => c_coded (h.below (hb.mono h.lt.2)) (by decide) 4
  clear h
  go_enter Tryz.func6, Tryz.ntmps6
  go_wp2_with (first | (go_at_call 11; refine (HW.out).mono ?_; rintro e w1 ⟨rfl, hb⟩; have HB1 := Lib.hid hb; clear hb) | (go_at_call 12; refine (HC.out _ HB1.out).mono ?_; rintro e w2 ⟨rfl, hb⟩; have HB2 := Lib.hid (bl_trans HB1.out hb); clear hb))
  go_ret
  exact ⟨rfl, HB2.out⟩
theorem W_markupNothing {w : World} {p : Nat → Addr} (h : G7 w w.heap.size p) (s : ByteArray) : Calls Tryz.prog 3 #[.string s] w (CsRet w) := by
  have HR := Lib.hid (c_Read0 w)
  have HN : Hid (∀ W', Below w.heap.size w W' → Calls Tryz.prog 6 #[] W' (CsRet W')) := fun W' hb => c_nothing (h.below hb)
  clear h
  go_enter Tryz.func3, Tryz.ntmps3
  go_upto_region 2 with (go_at_call 4; refine (HR.out).mono ?_; rintro e w1 ⟨t, A, c, rfl, ht, hc, hb⟩; have HB1 := Lib.hid hb; clear hb)
  have HSZ : Hid (Calls Tryz.prog 5 #[.pointer (some ⟨t, 0, none⟩)] w1 fun e w' => e = .returned (.int .i64 1) ∧ w1 = w') := by
    unfold Hid
    clear HR HN
    go_enter Tryz.func5, Tryz.ntmps5
    go_wp2_with fail
    go_ret
    exact ⟨rfl, rfl⟩
  clear ht hc
  go_wp2_with (first | (go_at_call 5; refine (HSZ.out).mono ?_; rintro e w' ⟨rfl, rfl⟩) | (go_at_call 6; refine (HN.out _ HB1.out).mono ?_; rintro e w2 ⟨rfl, hb⟩; have HB2 := Lib.hid (bl_trans HB1.out hb); clear hb))
  go_ret
  exact ⟨rfl, HB2.out⟩
end Go.Proofs.YtjamjebagcpmkaaGreatDoor
