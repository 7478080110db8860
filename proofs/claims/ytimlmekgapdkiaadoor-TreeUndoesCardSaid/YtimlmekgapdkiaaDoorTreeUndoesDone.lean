/- the law TreeUndoes: from its walk to the given card -/
import Derived.Test.YtimlmekgapdkiaaDoorCards
import Derived.Test.YtimlmekgapdkiaaDoorTie
import Derived.Test.YtimlmekgapdkiaaDoorVt
import Derived.Test.YtimlmekgapdkiaaDoorTmy
import Derived.WalkKit
import Derived.ProofKit
import Derived.OpenShut
import Derived.ShutString
import Derived.ChangeOld
import Derived.Below
import Derived.LaidMore
import Derived.Stop.Joined
import Derived.SevenTiedAt
namespace Go.Proofs.YtimlmekgapdkiaaDoor.treeUndoesDone
set_option linter.unusedVariables false
set_option linter.unusedSimpArgs false
open Go.ChangeShapes Go.WideShapes Go.ChangeAt Go.RowKit Go.Cas
open Go.ChangeMaps (open_string shut_string)

theorem own : ownKnob Tryd.prog.godebug = none := by kernel_rfl
theorem laidOut : laidOutB Tryd.prog = true := by kernel_rfl
theorem cells_Op : Tryd.prog.cellsOf 47 = 6 := by kernel_rfl
section
variable {H : Type} {enc : TypeId × Value → H} {b0 base : Nat} {r : Reach} {spare : Nat → Bool} {held : Bool} {d : DataW H} {p : List MemPlace} {v : Value} {w : World}
set_option maxRecDepth 100000 in
theorem open_Ops (hv : Value.okWide Tryd.prog w r b0 40 v) (h : DataW.Trod enc Tryd.prog w base spare held 40 v d p) :
    ∃ (n : Nat) (L : List OpX), L.length = n ∧ n ≤ maxLen ∧ RdS w w.heap.size 6 v n (L.flatMap opc) ∧ ∀ y ∈ L, y.s.size ≤ maxLen ∧ y.t.size ≤ maxLen :=
  open_rows opc (fun y => y.s.size ≤ maxLen ∧ y.t.size ≤ maxLen) 6 (fun _ => rfl) (by omega) Tryd.underlying40 cells_Op (fun m cs y hl hf' => by
    match cs, hl with
    | [c0, c1, c2, c3, c4, c5], _ =>
      obtain ⟨v0, m0, y0, e0, p0⟩ := trod_field Tryd.underlying47 (by kernel_rfl) hf' rfl 0 _ rfl
      obtain ⟨v1, m1, y1, e1, p1⟩ := trod_field Tryd.underlying47 (by kernel_rfl) hf' rfl 1 _ rfl
      obtain ⟨v2, m2, y2, e2, p2⟩ := trod_field Tryd.underlying47 (by kernel_rfl) hf' rfl 2 _ rfl
      obtain ⟨v3, m3, y3, e3, p3⟩ := trod_field Tryd.underlying47 (by kernel_rfl) hf' rfl 3 _ rfl
      obtain ⟨v4, m4, y4, e4, p4⟩ := trod_field Tryd.underlying47 (by kernel_rfl) hf' rfl 4 _ rfl
      obtain ⟨v5, m5, y5, e5, p5⟩ := trod_field Tryd.underlying47 (by kernel_rfl) hf' rfl 5 _ rfl
      obtain ⟨k0, q0, _⟩ := DataW.trod_int Tryd.underlying3 p0
      obtain ⟨k1, q1, _⟩ := DataW.trod_int Tryd.underlying3 p1
      obtain ⟨k2, q2, _⟩ := DataW.trod_int Tryd.underlying3 p2
      obtain ⟨k3, q3, _⟩ := DataW.trod_int Tryd.underlying3 p3
      obtain ⟨s4, q4, _, z4⟩ := DataW.trod_string Tryd.underlying9 p4
      obtain ⟨s5, q5, _, z5⟩ := DataW.trod_string Tryd.underlying9 p5
      simp only [List.getElem?_cons_zero, List.getElem?_cons_succ, Option.some.injEq] at e0 e1 e2 e3 e4 e5
      injection q0 with q0
      injection q1 with q1
      injection q2 with q2
      injection q3 with q3
      injection q4 with q4
      injection q5 with q5
      subst e0 e1 e2 e3 e4 e5 q0 q1 q2 q3 q4 q5
      exact ⟨⟨k0, k1, k2, k3, s4, s5⟩, rfl, z4, z5⟩) hv h
end
/-- the door's own heap meets the condition -/
theorem door_met (os : Os) (args : Array Value) : laidMetH Tryd.prog laid4 ((World.doorLaid Tryd.prog 400 os).forCall (fun _ _ => 0) ⟨#[], args, []⟩).memory :=
  laidMetH_of_parts3 (fuel := 8) (laidMet_of_run' 8 (by kernel_rfl) (by kernel_rfl)) (by kernel_rfl) (by kernel_rfl)

set_option maxRecDepth 100000 in
theorem lifted (os : Os) (started : os.Started) (H : Type) (enc : TypeId × Value → H) :
    ReturnsInHanded {} Tryd.checked os 6 .any (fun w args => (Rows.treeUndoesSpec.pre enc Tryd.prog Tryd.f6 [] false w args ∧ laidMetH Tryd.prog laid4 w) ∧ sizedMet enc Tryd.prog Tryd.f6 (OpenSpec.ofChange Rows.treeUndoesSpec) false w args)
      (Rows.treeUndoesSpec.post enc Tryd.prog Tryd.f6 false true false false) := by
  refine returnsInHanded_of_change_and (C := Tryd.checked) (X := fun w _ => laidMetH Tryd.prog laid4 w) (fun _ _ _ hh h => h.of_heap hh) own started (by kernel_rfl) Tryd.func6
    (ChangeSpec.witness_shaped (enc := enc) (C := Tryd.checked) (os := os) (X := fun w _ => laidMetH Tryd.prog laid4 w) false (World.doorLaid Tryd.prog 400 os) #[.slice none 0 0, .int .i64 0] 8 rfl (World.shaped_of_RefB (by kernel_rfl) (by kernel_rfl)) (by kernel_rfl) (by kernel_rfl) (by kernel_rfl) (door_met os _)) ?_
  intro W base args ds gs before hval0 hW _ _ hL _
  have hval : ∀ (j : Nat) t v, Tryd.f6.params[j]? = some t → args[j]? = some v → Value.okWide Tryd.prog W .any base t v := hval0
  have hW' := hW
  obtain ⟨p, q, hA0, hV, rfl, hfz, hnd⟩ := hW
  have hA : DataW.TrodAll enc Tryd.prog W 0 (fun _ => true) true Tryd.f6.params.toList args.toList ds p := hA0
  rw [Tryd.params6] at hA hval
  obtain ⟨v0, vs0, d0, ds0, p0, q0, hargs, rfl, rfl, h0, r0⟩ := trodAll_cons hA
  obtain ⟨v1, vs1, d1, ds1, p1, q1, rfl, rfl, rfl, h1, r1⟩ := trodAll_cons r0
  obtain ⟨rfl, rfl, rfl⟩ := trodAll_nil r1
  obtain rfl : args = #[v0, v1] := by cases args; simp_all
  obtain ⟨rfl, rfl⟩ := trodVars_none hV
  have k0 := h0
  have lt0 : ∀ x ∈ p0, x.block < W.heap.size := by obtain ⟨m, hm⟩ := k0; exact DataW.trod_lt m _ _ _ hm
  have k1 := h1
  have lt1 : ∀ x ∈ p1, x.block < W.heap.size := by obtain ⟨m, hm⟩ := k1; exact DataW.trod_lt m _ _ _ hm
  obtain ⟨a1, rfl, rfl, rfl, w1⟩ := open_int Tryd.underlying3 (hval 1 3 v1 rfl rfl) h1
  clear hA0
  obtain ⟨n, L, hn, hn2, hr, hm⟩ := open_Ops (hval 0 40 v0 rfl rfl) h0
  obtain ⟨pe, hG⟩ := GE_of_laid hL
  clear hval0
  refine (W_treeUndoes hr hn hn2 hm hG a1).mono fun e W' ⟨he, bel⟩ => ?_
  subst he
  exact ⟨_, rfl, _, _, _, [], _, [], hW', trodAll_mk1 (shut_bool Tryd.underlying4 _), (trodAll_cons_mk (Below.trod laidOut (by kernel_rfl) (of_decide_eq_true (by kernel_rfl)) k0 bel lt0) (trodAll_cons_mk (Below.trod laidOut (by kernel_rfl) (of_decide_eq_true (by kernel_rfl)) k1 bel lt1) trodAll_mk0)), rfl, bel.frame _, fun h => by cases h⟩

theorem over : Rows.TreeUndoesSaid :=
  OpenClaim.holds_of_wide 6 Tryd.f6 rfl rfl rfl rfl rfl rfl rfl ⟨rfl, rfl, rfl, rfl, rfl⟩ rfl rfl rfl rfl rfl (by kernel_rfl) Tryd.func6 (by kernel_rfl)
    (of_decide_eq_true (by kernel_rfl)) (by unfold Func.isWrapper; first | (rw [if_pos (by decide +kernel)]; kernel_rfl) | (rw [if_neg (by decide +kernel)]; exact ⟨rfl, rfl⟩))
    (fun os started H enc _ => lifted os started H enc)

theorem proved : Rows.TreeUndoesCardSaid :=
  Claim7.holds_tied_plain_at .later [] [.sentinel, .sentinel, .sentinel, .sentinel] true (true, "ab45896ab801c3528d82ec32637c6c85c7bf43221072e26fb1a405ab03266510") true
    over (fun _ h => by cases h) (by kernel_rfl) (fun _ h => by cases h) treeUndoes_row_tie rfl ⟨rfl, rfl⟩ (by kernel_rfl) rfl
    (fun f fn hf hfn => by
      obtain rfl : f = 6 := Option.some.inj ((show Tryd.prog.funcNamed "casement/casementlaw1.TreeUndoes" = some 6 by kernel_rfl).symm.trans hf) |>.symm
      obtain rfl : fn = Tryd.f6 := (Option.some.inj (Tryd.func6.symm.trans hfn)).symm
      exact ⟨by kernel_rfl, fun j t ht => by
        rw [Tryd.params6] at ht
        have hm : t ∈ [40, 3] := by simpa using Array.mem_of_getElem? ht
        have hall : ([40, 3].all fun u => !Tryd.prog.wantsStandIn u) = true := by kernel_rfl
        exact (show Tryd.prog.wantsStandIn t = false by simpa using List.all_eq_true.1 hall t hm)⟩)
    (by kernel_rfl)
#print axioms proved
end Go.Proofs.YtimlmekgapdkiaaDoor.treeUndoesDone
