/- the law TreePlays: from its walk to the given card -/
import Derived.Test.YtimlmekgapdkiaaGreatDoorCards
import Derived.Test.YtimlmekgapdkiaaGreatDoorTie
import Derived.Test.YtimlmekgapdkiaaGreatDoorWza
import Derived.WalkKit
import Derived.ProofKit
import Derived.OpenShut
import Derived.ShutString
import Derived.ChangeOld
import Derived.Below
import Derived.LaidMore
import Derived.Stop.Joined
import Derived.SevenTiedAt
namespace Go.Proofs.YtimlmekgapdkiaaGreatDoor.treePlaysDone
set_option linter.unusedVariables false
set_option linter.unusedSimpArgs false
open Go.ChangeShapes Go.WideShapes Go.ChangeAt Go.RowKit Go.Cas
open Go.ChangeMaps (open_string shut_string)

theorem own : ownKnob Tryz.prog.godebug = none := by kernel_rfl
theorem laidOut : laidOutB Tryz.prog = true := by kernel_rfl
theorem cells_Op : Tryz.prog.cellsOf 33 = 6 := by kernel_rfl
section
variable {H : Type} {enc : TypeId × Value → H} {b0 base : Nat} {r : Reach} {spare : Nat → Bool} {held : Bool} {d : DataW H} {p : List MemPlace} {v : Value} {w : World}
set_option maxRecDepth 100000 in
theorem open_Ops (hv : Value.okWide Tryz.prog w r b0 22 v) (h : DataW.Trod enc Tryz.prog w base spare held 22 v d p) :
    ∃ (n : Nat) (L : List OpX), L.length = n ∧ n ≤ maxLen ∧ RdS w w.heap.size 6 v n (L.flatMap opc) ∧ ∀ y ∈ L, y.s.size ≤ maxLen ∧ y.t.size ≤ maxLen :=
  open_rows opc (fun y => y.s.size ≤ maxLen ∧ y.t.size ≤ maxLen) 6 (fun _ => rfl) (by omega) Tryz.underlying22 cells_Op (fun m cs y hl hf' => by
    match cs, hl with
    | [c0, c1, c2, c3, c4, c5], _ =>
      obtain ⟨v0, m0, y0, e0, p0⟩ := trod_field Tryz.underlying33 (by kernel_rfl) hf' rfl 0 _ rfl
      obtain ⟨v1, m1, y1, e1, p1⟩ := trod_field Tryz.underlying33 (by kernel_rfl) hf' rfl 1 _ rfl
      obtain ⟨v2, m2, y2, e2, p2⟩ := trod_field Tryz.underlying33 (by kernel_rfl) hf' rfl 2 _ rfl
      obtain ⟨v3, m3, y3, e3, p3⟩ := trod_field Tryz.underlying33 (by kernel_rfl) hf' rfl 3 _ rfl
      obtain ⟨v4, m4, y4, e4, p4⟩ := trod_field Tryz.underlying33 (by kernel_rfl) hf' rfl 4 _ rfl
      obtain ⟨v5, m5, y5, e5, p5⟩ := trod_field Tryz.underlying33 (by kernel_rfl) hf' rfl 5 _ rfl
      obtain ⟨k0, q0, _⟩ := DataW.trod_int Tryz.underlying3 p0
      obtain ⟨k1, q1, _⟩ := DataW.trod_int Tryz.underlying3 p1
      obtain ⟨k2, q2, _⟩ := DataW.trod_int Tryz.underlying3 p2
      obtain ⟨k3, q3, _⟩ := DataW.trod_int Tryz.underlying3 p3
      obtain ⟨s4, q4, _, z4⟩ := DataW.trod_string Tryz.underlying9 p4
      obtain ⟨s5, q5, _, z5⟩ := DataW.trod_string Tryz.underlying9 p5
      simp only [List.getElem?_cons_zero, List.getElem?_cons_succ, Option.some.injEq] at e0 e1 e2 e3 e4 e5
      injection q0 with q0
      injection q1 with q1
      injection q2 with q2
      injection q3 with q3
      injection q4 with q4
      injection q5 with q5
      subst e0 e1 e2 e3 e4 e5 q0 q1 q2 q3 q4 q5
      exact ⟨⟨k0, k1, k2, k3, s4, s5⟩, rfl, z4, z5⟩) hv h
end
/-- it meets the condition -/
theorem door_met (os : Os) (args : Array Value) : laidMetH Tryz.prog Rows.treePlaysRow.laid ((World.doorLaid Tryz.prog 400 os).forCall (fun _ _ => 0) ⟨#[], args, []⟩).memory :=
  laidMetH_of_parts3 (fuel := 8) (laidMet_of_run' 8 (by kernel_rfl) (by kernel_rfl)) (by kernel_rfl) (by kernel_rfl)
theorem laid8_of {W : World} (h : laidMetH Tryz.prog Rows.treePlaysRow.laid W) : laidMetH Tryz.prog laid8 W := by
  have h1 := h.filter (fun x => laid8.any fun y => y.1 == x.1)
  have e : Rows.treePlaysRow.laid.filter (fun x => laid8.any fun y => y.1 == x.1) = laid8 := by kernel_rfl
  rw [e] at h1
  exact h1
set_option maxRecDepth 100000 in
theorem lifted (os : Os) (started : os.Started) (H : Type) (enc : TypeId × Value → H) :
    ReturnsInHanded {} Tryz.checked os 3 .any (fun w args => (Rows.treePlaysSpec.pre enc Tryz.prog Tryz.f3 [] false w args ∧ laidMetH Tryz.prog Rows.treePlaysRow.laid w) ∧ sizedMet enc Tryz.prog Tryz.f3 (OpenSpec.ofChange Rows.treePlaysSpec) false w args)
      (Rows.treePlaysSpec.post enc Tryz.prog Tryz.f3 false true false false) := by
  refine returnsInHanded_of_change_and (C := Tryz.checked) (X := fun w _ => laidMetH Tryz.prog Rows.treePlaysRow.laid w) (fun _ _ _ hh h => h.of_heap hh) own started (by kernel_rfl) Tryz.func3
    (ChangeSpec.witness_shaped (enc := enc) (C := Tryz.checked) (os := os) (X := fun w _ => laidMetH Tryz.prog Rows.treePlaysRow.laid w) false (World.doorLaid Tryz.prog 400 os) #[.slice none 0 0] 8 rfl (World.shaped_of_RefB (by kernel_rfl) (by kernel_rfl)) (by kernel_rfl) (by kernel_rfl) (by kernel_rfl) (door_met os _)) ?_
  intro W base args ds gs before hval0 hW _ _ hL _
  have hval : ∀ (j : Nat) t v, Tryz.f3.params[j]? = some t → args[j]? = some v → Value.okWide Tryz.prog W .any base t v := hval0
  have hW' := hW
  obtain ⟨p, q, hA0, hV, rfl, hfz, hnd⟩ := hW
  have hA : DataW.TrodAll enc Tryz.prog W 0 (fun _ => true) true Tryz.f3.params.toList args.toList ds p := hA0
  rw [Tryz.params3] at hA hval
  obtain ⟨v0, vs0, d0, ds0, p0, q0, hargs, rfl, rfl, h0, r0⟩ := trodAll_cons hA
  obtain ⟨rfl, rfl, rfl⟩ := trodAll_nil r0
  obtain rfl : args = #[v0] := by cases args; simp_all
  obtain ⟨rfl, rfl⟩ := trodVars_none hV
  have k0 := h0
  have lt0 : ∀ x ∈ p0, x.block < W.heap.size := by obtain ⟨m, hm⟩ := k0; exact DataW.trod_lt m _ _ _ hm
  clear hA0
  obtain ⟨n, L, hn, hn2, hr, hm⟩ := open_Ops (hval 0 22 v0 rfl rfl) h0
  obtain ⟨pe, hG⟩ := G7_of_laid (laid8_of hL)
  clear hval0
  refine (W_treePlays hr hn hn2 hm hG).mono fun e W' ⟨he, bel⟩ => ?_
  subst he
  exact ⟨_, rfl, _, _, _, [], _, [], hW', trodAll_mk1 (shut_bool Tryz.underlying4 _), (trodAll_cons_mk (Below.trod laidOut (by kernel_rfl) (of_decide_eq_true (by kernel_rfl)) k0 bel lt0) trodAll_mk0), rfl, bel.frame _, fun h => by cases h⟩

theorem over : Rows.TreePlaysSaid :=
  OpenClaim.holds_of_wide 3 Tryz.f3 rfl rfl rfl rfl rfl rfl rfl ⟨rfl, rfl, rfl, rfl, rfl⟩ rfl rfl rfl rfl rfl (by kernel_rfl) Tryz.func3 (by kernel_rfl)
    (of_decide_eq_true (by kernel_rfl)) (by unfold Func.isWrapper; first | (rw [if_pos (by decide +kernel)]; kernel_rfl) | (rw [if_neg (by decide +kernel)]; exact ⟨rfl, rfl⟩))
    (fun os started H enc _ => lifted os started H enc)

theorem proved : Rows.TreePlaysCardSaid :=
  Claim7.holds_tied_plain_at .later [] _ _ _ _
    over (fun _ h => by cases h) (by kernel_rfl) (fun _ h => by cases h) treePlays_row_tie rfl ⟨rfl, rfl⟩ (by kernel_rfl) rfl
    (fun f fn hf hfn => by
      obtain rfl : f = 3 := Option.some.inj ((show Tryz.prog.funcNamed "casement/casementlaw1.TreePlays" = some 3 by kernel_rfl).symm.trans hf) |>.symm
      obtain rfl : fn = Tryz.f3 := (Option.some.inj (Tryz.func3.symm.trans hfn)).symm
      exact ⟨by kernel_rfl, fun j t ht => by
        rw [Tryz.params3] at ht
        obtain rfl : t = 22 := by simpa using Array.mem_of_getElem? ht
        exact (show Tryz.prog.wantsStandIn 22 = false by kernel_rfl)⟩)
    (by kernel_rfl)
#print axioms proved
end Go.Proofs.YtimlmekgapdkiaaGreatDoor.treePlaysDone
