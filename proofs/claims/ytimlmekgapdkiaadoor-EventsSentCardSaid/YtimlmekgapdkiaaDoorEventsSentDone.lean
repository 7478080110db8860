/- the law EventsSent: from its walk to the given card -/
import Derived.Test.YtimlmekgapdkiaaDoorCards
import Derived.Test.YtimlmekgapdkiaaDoorTie
import Derived.Test.YtimlmekgapdkiaaDoorKq
import Derived.Test.YtimlmekgapdkiaaDoorTmy
import Derived.Test.YtimlmekgapdkiaaDoorTmz
import Derived.WalkKit
import Derived.ProofKit
import Derived.OpenShut
import Derived.ShutString
import Derived.ChangeOld
import Derived.Below
import Derived.LaidMore
import Derived.Stop.Joined
import Derived.SevenTiedAt
namespace Go.Proofs.YtimlmekgapdkiaaDoor.eventsSentDone
set_option linter.unusedVariables false
set_option linter.unusedSimpArgs false
open Go.ChangeShapes Go.WideShapes Go.ChangeAt Go.RowKit Go.Cas Go.Deep
open Go.ChangeMaps (open_string shut_string)

theorem own : ownKnob Tryd.prog.godebug = none := by kernel_rfl
theorem laidOut : laidOutB Tryd.prog = true := by kernel_rfl
theorem cellsI : Tryd.prog.cellsOf 3 = 1 := by kernel_rfl
theorem cellsStr : Tryd.prog.cellsOf 9 = 1 := by kernel_rfl
theorem cellsBool : Tryd.prog.cellsOf 4 = 1 := by kernel_rfl
theorem cellsEar : Tryd.prog.cellsOf 60 = 8 := by kernel_rfl
theorem cells_Step : Tryd.prog.cellsOf 62 = 12 := by kernel_rfl
section
variable {H : Type} {enc : TypeId × Value → H} {b0 base : Nat} {r : Reach} {spare : Nat → Bool} {held : Bool} {d : DataW H} {p : List MemPlace} {v : Value} {w : World}
theorem field_str {t : TypeId} {fs : Array Field} {fuel : Nat} {cs : List Value} {x : DataW H × List MemPlace} {P : Program} (ht : P.underlying t = some (.struct fs)) (hone : oneCellFields P fs = true)
    (h : DataW.trod enc P w base spare held fuel t cs = some x) (hl : cs.length = fs.size) {i : Nat} {f : Field} (hi : fs[i]? = some f) (hf : P.underlying f.type = some .string) : ∃ s : ByteArray, cs[i]? = some (.string s) ∧ s.size ≤ maxLen := by
  obtain ⟨v, m, y, hv, hy⟩ := trod_field ht hone h hl i f hi
  obtain ⟨n, h1, _, h2⟩ := DataW.trod_string hf hy
  injection h1 with h1
  exact ⟨n, by rw [hv, h1], h2⟩
set_option maxRecDepth 100000 in
theorem open_Steps (hv : Value.okWide Tryd.prog w r b0 51 v) (h : DataW.Trod enc Tryd.prog w base spare held 51 v d p) :
    ∃ (n : Nat) (L : List StpX), L.length = n ∧ n ≤ maxLen ∧ RdS w w.heap.size 12 v n (L.flatMap stpc) ∧ ∀ y ∈ L, y.e.name.size ≤ maxLen ∧ y.s.size ≤ maxLen :=
  open_rows stpc (fun y => y.e.name.size ≤ maxLen ∧ y.s.size ≤ maxLen) 12 (fun _ => rfl) (by omega) Tryd.underlying51 cells_Step (fun m cs y hl hf' => by
    match cs, hl with
    | [c0, c1, c2, c3, c4, c5, c6, c7, c8, c9, c10, c11], _ =>
      obtain ⟨m0, y0, p0⟩ := trod_part Tryd.underlying62 hf' 0 _ rfl
      obtain ⟨m1, y1, p1⟩ := trod_part Tryd.underlying62 hf' 1 _ rfl
      obtain ⟨m2, y2, p2⟩ := trod_part Tryd.underlying62 hf' 2 _ rfl
      obtain ⟨m3, y3, p3⟩ := trod_part Tryd.underlying62 hf' 3 _ rfl
      obtain ⟨m4, y4, p4⟩ := trod_part Tryd.underlying62 hf' 4 _ rfl
      replace p0 : DataW.trod enc Tryd.prog w base spare held m0 3 ((([c0, c1, c2, c3, c4, c5, c6, c7, c8, c9, c10, c11] : List Value).drop 0).take (Tryd.prog.cellsOf 3)) = some y0 := p0
      rw [cellsI] at p0
      replace p1 : DataW.trod enc Tryd.prog w base spare held m1 60 ((([c0, c1, c2, c3, c4, c5, c6, c7, c8, c9, c10, c11] : List Value).drop 1).take (Tryd.prog.cellsOf 60)) = some y1 := p1
      rw [cellsEar] at p1
      replace p2 : DataW.trod enc Tryd.prog w base spare held m2 3 ((([c0, c1, c2, c3, c4, c5, c6, c7, c8, c9, c10, c11] : List Value).drop 9).take (Tryd.prog.cellsOf 3)) = some y2 := p2
      rw [cellsI] at p2
      replace p3 : DataW.trod enc Tryd.prog w base spare held m3 9 ((([c0, c1, c2, c3, c4, c5, c6, c7, c8, c9, c10, c11] : List Value).drop 10).take (Tryd.prog.cellsOf 9)) = some y3 := p3
      rw [cellsStr] at p3
      replace p4 : DataW.trod enc Tryd.prog w base spare held m4 4 ((([c0, c1, c2, c3, c4, c5, c6, c7, c8, c9, c10, c11] : List Value).drop 11).take (Tryd.prog.cellsOf 4)) = some y4 := p4
      rw [cellsBool] at p4
      obtain ⟨x0, e0, _⟩ := DataW.trod_int Tryd.underlying3 p0
      obtain ⟨x1, e1, _⟩ := field_int (k := .i64) Tryd.underlying60 (by kernel_rfl) p1 rfl (i := 0) rfl Tryd.underlying3
      obtain ⟨x2, e2, z2⟩ := field_str Tryd.underlying60 (by kernel_rfl) p1 rfl (i := 1) rfl Tryd.underlying9
      obtain ⟨x3, e3⟩ := field_bool Tryd.underlying60 (by kernel_rfl) p1 rfl (i := 2) rfl Tryd.underlying4
      obtain ⟨x4, e4⟩ := field_bool Tryd.underlying60 (by kernel_rfl) p1 rfl (i := 3) rfl Tryd.underlying4
      obtain ⟨x5, e5⟩ := field_bool Tryd.underlying60 (by kernel_rfl) p1 rfl (i := 4) rfl Tryd.underlying4
      obtain ⟨x6, e6⟩ := field_bool Tryd.underlying60 (by kernel_rfl) p1 rfl (i := 5) rfl Tryd.underlying4
      obtain ⟨x7, e7⟩ := field_bool Tryd.underlying60 (by kernel_rfl) p1 rfl (i := 6) rfl Tryd.underlying4
      obtain ⟨x8, e8⟩ := field_bool Tryd.underlying60 (by kernel_rfl) p1 rfl (i := 7) rfl Tryd.underlying4
      obtain ⟨x9, e9, _⟩ := DataW.trod_int Tryd.underlying3 p2
      obtain ⟨x10, e10, _, z10⟩ := DataW.trod_string Tryd.underlying9 p3
      obtain ⟨x11, e11, _⟩ := DataW.trod_bool Tryd.underlying4 p4
      obtain rfl : c0 = .int .i64 x0 := by simpa using e0
      obtain rfl : c1 = .int .i64 x1 := by simpa using e1
      obtain rfl : c2 = .string x2 := by simpa using e2
      obtain rfl : c3 = .bool x3 := by simpa using e3
      obtain rfl : c4 = .bool x4 := by simpa using e4
      obtain rfl : c5 = .bool x5 := by simpa using e5
      obtain rfl : c6 = .bool x6 := by simpa using e6
      obtain rfl : c7 = .bool x7 := by simpa using e7
      obtain rfl : c8 = .bool x8 := by simpa using e8
      obtain rfl : c9 = .int .i64 x9 := by simpa using e9
      obtain rfl : c10 = .string x10 := by simpa using e10
      obtain rfl : c11 = .bool x11 := by simpa using e11
      exact ⟨⟨x0, ⟨x1, x2, x3, x4, x5, x6, x7, x8⟩, x9, x10, x11⟩, rfl, z2, z10⟩) hv h
end
/-- the door's own heap meets the condition -/
theorem door_met (os : Os) (args : Array Value) : laidMetH Tryd.prog laid4 ((World.doorLaid Tryd.prog 400 os).forCall (fun _ _ => 0) ⟨#[], args, []⟩).memory :=
  laidMetH_of_parts3 (fuel := 8) (laidMet_of_run' 8 (by kernel_rfl) (by kernel_rfl)) (by kernel_rfl) (by kernel_rfl)

set_option maxRecDepth 100000 in
theorem lifted (os : Os) (started : os.Started) (H : Type) (enc : TypeId × Value → H) :
    ReturnsInHanded {} Tryd.checked os 7 .any (fun w args => (Rows.eventsSentSpec.pre enc Tryd.prog Tryd.f7 [] false w args ∧ laidMetH Tryd.prog laid4 w) ∧ sizedMet enc Tryd.prog Tryd.f7 (OpenSpec.ofChange Rows.eventsSentSpec) false w args)
      (Rows.eventsSentSpec.post enc Tryd.prog Tryd.f7 false true false false) := by
  refine returnsInHanded_of_change_and (C := Tryd.checked) (X := fun w _ => laidMetH Tryd.prog laid4 w) (fun _ _ _ hh h => h.of_heap hh) own started (by kernel_rfl) Tryd.func7
    (ChangeSpec.witness_shaped (enc := enc) (C := Tryd.checked) (os := os) (X := fun w _ => laidMetH Tryd.prog laid4 w) false (World.doorLaid Tryd.prog 400 os) #[.slice none 0 0, .slice none 0 0] 8 rfl (World.shaped_of_RefB (by kernel_rfl) (by kernel_rfl)) (by kernel_rfl) (by kernel_rfl) (by kernel_rfl) (door_met os _)) ?_
  intro W base args ds gs before hval0 hW _ _ hL _
  have hval : ∀ (j : Nat) t v, Tryd.f7.params[j]? = some t → args[j]? = some v → Value.okWide Tryd.prog W .any base t v := hval0
  have hW' := hW
  obtain ⟨p, q, hA0, hV, rfl, hfz, hnd⟩ := hW
  have hA : DataW.TrodAll enc Tryd.prog W 0 (fun _ => true) true Tryd.f7.params.toList args.toList ds p := hA0
  rw [Tryd.params7] at hA hval
  obtain ⟨v0, vs0, d0, ds0, p0, q0, hargs, rfl, rfl, h0, r0⟩ := trodAll_cons hA
  obtain ⟨v1, vs1, d1, ds1, p1, q1, rfl, rfl, rfl, h1, r1⟩ := trodAll_cons r0
  obtain ⟨rfl, rfl, rfl⟩ := trodAll_nil r1
  obtain rfl : args = #[v0, v1] := by cases args; simp_all
  obtain ⟨rfl, rfl⟩ := trodVars_none hV
  have k0 := h0
  have lt0 : ∀ x ∈ p0, x.block < W.heap.size := by obtain ⟨m, hm⟩ := k0; exact DataW.trod_lt m _ _ _ hm
  have k1 := h1
  have lt1 : ∀ x ∈ p1, x.block < W.heap.size := by obtain ⟨m, hm⟩ := k1; exact DataW.trod_lt m _ _ _ hm
  clear hA0
  obtain ⟨n, L, hn, hn2, hr, hm⟩ := open_Twigs (hval 0 26 v0 rfl rfl) h0
  obtain ⟨n5, S5, hs1, hs2, hs3, hs4⟩ := open_Steps (hval 1 51 v1 rfl rfl) h1
  obtain ⟨pe, hG⟩ := GE_of_laid hL
  clear hval0
  refine (W_eventsSent hr hn hn2 hm hG hs3 hs1 hs2 hs4).mono fun e W' ⟨he, bel⟩ => ?_
  subst he
  exact ⟨_, rfl, _, _, _, [], _, [], hW', trodAll_mk1 (shut_bool Tryd.underlying4 _), (trodAll_cons_mk (Below.trod laidOut (by kernel_rfl) (of_decide_eq_true (by kernel_rfl)) k0 bel lt0) (trodAll_cons_mk (Below.trod laidOut (by kernel_rfl) (of_decide_eq_true (by kernel_rfl)) k1 bel lt1) trodAll_mk0)), rfl, bel.frame _, fun h => by cases h⟩

theorem over : Rows.EventsSentSaid :=
  OpenClaim.holds_of_wide 7 Tryd.f7 rfl rfl rfl rfl rfl rfl rfl ⟨rfl, rfl, rfl, rfl, rfl⟩ rfl rfl rfl rfl rfl (by kernel_rfl) Tryd.func7 (by kernel_rfl)
    (of_decide_eq_true (by kernel_rfl)) (by unfold Func.isWrapper; first | (rw [if_pos (by decide +kernel)]; kernel_rfl) | (rw [if_neg (by decide +kernel)]; exact ⟨rfl, rfl⟩))
    (fun os started H enc _ => lifted os started H enc)

theorem proved : Rows.EventsSentCardSaid :=
  Claim7.holds_tied_plain_at .later [] [.sentinel, .sentinel, .sentinel, .sentinel] true (true, "ab45896ab801c3528d82ec32637c6c85c7bf43221072e26fb1a405ab03266510") true
    over (fun _ h => by cases h) (by kernel_rfl) (fun _ h => by cases h) eventsSent_row_tie rfl ⟨rfl, rfl⟩ (by kernel_rfl) rfl
    (fun f fn hf hfn => by
      obtain rfl : f = 7 := Option.some.inj ((show Tryd.prog.funcNamed "casement/casementlaw5.EventsSent" = some 7 by kernel_rfl).symm.trans hf) |>.symm
      obtain rfl : fn = Tryd.f7 := (Option.some.inj (Tryd.func7.symm.trans hfn)).symm
      exact ⟨by kernel_rfl, fun j t ht => by
        rw [Tryd.params7] at ht
        have hm : t ∈ [26, 51] := by simpa using Array.mem_of_getElem? ht
        have hall : ([26, 51].all fun u => !Tryd.prog.wantsStandIn u) = true := by kernel_rfl
        exact (show Tryd.prog.wantsStandIn t = false by simpa using List.all_eq_true.1 hall t hm)⟩)
    (by kernel_rfl)
#print axioms proved
end Go.Proofs.YtimlmekgapdkiaaDoor.eventsSentDone
