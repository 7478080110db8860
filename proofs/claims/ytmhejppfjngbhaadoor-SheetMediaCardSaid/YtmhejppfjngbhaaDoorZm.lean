/- sheets: whether any media text applies: the law's walk -/
import Derived.Test.YtmhejppfjngbhaaDoorZl
import Derived.Test.YtmhejppfjngbhaaDoorZd
import Derived.Handed
namespace Go.Proofs.YtmhejppfjngbhaaDoor
set_option linter.unusedVariables false
set_option linter.unusedSimpArgs false
open Go.RowKit Go.Cas

def med1 : ByteArray := ⟨#[115, 99, 114, 101, 101, 110, 32, 97, 110, 100, 32, 40, 109, 105, 110, 45, 119, 105, 100, 116, 104, 58, 32, 50, 112, 120, 41]⟩
def med2 : ByteArray := ⟨#[40, 109, 105, 110, 45, 119, 105, 100, 116, 104, 58, 32, 50, 112, 120, 41]⟩
theorem med_one : apT (toks med1) 128 0 = true := by kernel_rfl
theorem med_two : apT (toks med2) 127 0 = false := by kernel_rfl
set_option maxHeartbeats 4000000 in
set_option maxRecDepth 100000 in
theorem W_sheetMedia (s : ByteArray) (wd hg : Int) (w : World) (hm : MxC w) (hs : s.size ≤ maxLen) : Calls Tryd.prog 3 #[.string s, .int .i64 wd, .int .i64 hg] w fun e w' => e = .returned (.bool true) ∧ Below w.heap.size w w' := by
  have hz := hm.lt
  have HM := Lib.hid hm
  have H1 := c_Applies med1 128 0 w (by decide) hm
  rw [med_one] at H1
  have H2 := fun x hx => c_Applies med2 127 0 x (by decide) hx
  rw [med_two] at H2
  have H1 := Lib.hid H1
  have H2 := Lib.hid H2
  have hsI : (s.size : Int) ≤ 9223372036854775807 := by unfold maxLen at hs; omega
  clear hm
  go_enter Tryd.func3, Tryd.ntmps3
  go_upto_region 2 with (go_at_call 4; refine (H1.out).mono ?_; rintro e w1 ⟨rfl, hb1⟩; have HB1 := Lib.hid hb1; clear hb1)
  have HM1 := Lib.hid (HM.out.below HB1.out hz)
  have hw1 := HB1.out.size
  go_upto_region 5 with (go_at_call 4; refine (H2.out _ HM1.out).mono ?_; rintro e w2 ⟨rfl, hb2⟩; have HB2 : Hid (Below w.heap.size w w2) := HB1.out.trans (hb2.mono hw1); clear hb2)
  have HM2 := Lib.hid (HM.out.below HB2.out hz)
  have hw2 := HB2.out.size
  by_cases h3 : 3000 < s.size
  · have h3I : (3000 : Int) < (s.size : Int) := by omega
    go_wp2_with fail
    go_ret
    exact ⟨rfl, HB2.out⟩
  · have h3I : ¬ (3000 : Int) < (s.size : Int) := by omega
    have H3 := Lib.hid (c_Applies s wd hg w2 (by omega) HM2.out)
    have HA := ap_eq (toks s) wd hg
    rw [HA] at H3
    obtain ⟨b, hb⟩ : ∃ b, b = apR (toks s) wd hg := ⟨_, rfl⟩
    rw [← hb] at H3
    have H4 := Lib.hid (fun x => c_rApplies s wd hg x (by omega))
    rw [← hb] at H4
    clear HA hb
    cases b with
    | true =>
      go_wp2_with (first
        | (go_at_call 4; refine (H3.out).mono ?_; rintro e w3 ⟨rfl, hb3⟩; have HB3 : Hid (Below w.heap.size w w3) := HB2.out.trans (hb3.mono hw2); clear hb3)
        | (go_at_call 5; refine (H4.out _).mono ?_; rintro e w4 ⟨rfl, hb4⟩; have HB4 : Hid (Below w.heap.size w w4) := HB3.out.trans (hb4.mono HB3.out.size); clear hb4))
      go_ret
      exact ⟨rfl, HB4.out⟩
    | false =>
      go_wp2_with (first
        | (go_at_call 4; refine (H3.out).mono ?_; rintro e w3 ⟨rfl, hb3⟩; have HB3 : Hid (Below w.heap.size w w3) := HB2.out.trans (hb3.mono hw2); clear hb3)
        | (go_at_call 5; refine (H4.out _).mono ?_; rintro e w4 ⟨rfl, hb4⟩; have HB4 : Hid (Below w.heap.size w w4) := HB3.out.trans (hb4.mono HB3.out.size); clear hb4))
      go_ret
      exact ⟨rfl, HB4.out⟩
/-- the wrap of a law whose row lists variables, the world's shape kept -/
theorem handed_and_shaped {H : Type} {enc : TypeId × Value → H} {a : Assume} {C : Checked} {os : Os} {f : FuncId} {fn : Func} {s : ChangeSpec} {conds : List PathCond} {apart fresh handsOn again : Bool} {X : World → Array Value → Prop}
    (hX : ∀ (w w' : World) (args : Array Value), w.heap = w'.heap → X w args → X w' args)
    (own : ownKnob C.prog.godebug = none) (started : os.Started) (noInit : C.prog.inits.idxOf? f = none) (hfn : C.prog.funcs[f]? = some fn)
    (witness : ∃ (w : World) (tape : Tape) (i : Input), w.os = os ∧ (w.forCall tape i).Shaped C.prog ∧ i.vars = [] ∧ Input.okWide C.prog (w.forCall tape i) .any w.heap.size f i ∧
      ((s.pre enc C.prog fn conds apart (w.forCall tape i).memory i.args ∧ X (w.forCall tape i).memory i.args) ∧ sizedMet enc C.prog fn (OpenSpec.ofChange s) apart (w.forCall tape i).memory i.args) ∧ a.holds C.prog (lone (Frame.enter C.prog f i.args .normal) [] (w.forCall tape i)))
    (contract : ∀ (W : World) (base : Nat) (args : Array Value) (ds gs : List (DataW H)) (before : List MemPlace),
      (∀ (j : Nat) t v, fn.params[j]? = some t → args[j]? = some v → Value.okWide C.prog W .any base t v) →
      DataW.Whole enc C.prog fn.params.toList s.vars apart W args.toList ds gs before →
      X W args → W.ShapedOpen C.prog →
      Calls C.prog f args W fun e W' => ∃ v, e = .returned v ∧ s.post enc C.prog fn apart fresh handsOn again W args v W') :
    ReturnsInHanded a C os f .any (fun w args => (s.pre enc C.prog fn conds apart w args ∧ X w args) ∧ sizedMet enc C.prog fn (OpenSpec.ofChange s) apart w args) (s.post enc C.prog fn apart fresh handsOn again) := by
  refine returnsInHanded_of_calls own started noInit witness ?_
  intro w tape i _ hsh _ hok hpre _
  obtain ⟨_, _, _, fn', hfn', _, _, _, _, hval⟩ := hok
  obtain rfl : fn' = fn := Option.some.inj (hfn'.symm.trans hfn)
  obtain ⟨⟨⟨ds, gs, before, hw, _⟩, hx⟩, _⟩ := hpre
  refine (contract (w.forCall tape i) w.heap.size i.args ds gs before hval (DataW.Whole.of_heap (w' := w.forCall tape i) (by rfl) hw) (hX _ _ _ (by rfl) hx) hsh).mono fun e W' ⟨v, he, hp⟩ => ?_
  subst he
  exact ChangeSpec.post_blind hp
end Go.Proofs.YtmhejppfjngbhaaDoor
