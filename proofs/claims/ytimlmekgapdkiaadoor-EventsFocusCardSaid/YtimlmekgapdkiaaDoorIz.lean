/- the order of focus: the map of turns, and the comparing -/
import Derived.Test.YtimlmekgapdkiaaDoorIy
import Derived.Test.YtimlmekgapdkiaaDoorIsa
import Derived.Maps.OwnOps
import Derived.Maps.Views
namespace Go.Proofs.YtimlmekgapdkiaaDoor
set_option linter.unusedVariables false
set_option linter.unusedSimpArgs false
open Go.RowKit Go.Cas Go.Maps

theorem keyI : Keyed Tryd.prog 3 := int_keyed Tryd.underlying3
theorem zeroI (w : World) : (zeroValue 3).run Tryd.prog w = .ok (.int .i64 0) w := by kernel_rfl
/-- the turn that a map of turns holds of a node -/
def kap (D : DataW Unit) (x : Nat) : Int := match D.atKey (.int .i64 (x : Int)) (.lit (.int .i64 0)) with | .lit (.int _ c) => c | _ => 0
theorem wfN {x : Nat} (h : x < 400) : (Lit.int .i64 (x : Int)).wf = true := WalkArith.wf_i64 ⟨by omega, by omega⟩
theorem keyN {x : Nat} (h : x < 400) : keyOf Tryd.prog 3 (.int .i64 (x : Int)) = some (.int .i64 (x : Int)) := keyOf_int_mk Tryd.underlying3 (wfN h)
/-- the variable p holds the map b, which reads as D -/
def MapIn (p b n : Nat) (D : DataW Unit) (w : World) : Prop := w.cell? ⟨p, 0, none⟩ = some (.map (some b)) ∧ w.ownsMap Tryd.prog 3 (plainElem Tryd.prog 3) b n D ∧ p < w.heap.size ∧ p ≠ b
theorem MapIn.kept {p b n : Nat} {ex : Nat → Prop} {D : DataW Unit} {w0 w : World} (h : MapIn p b n D w0) (hk : Kept w0 w ex) (hp : ¬ ex p) (hb : ¬ ex b) : MapIn p b n D w := by
  obtain ⟨h1, h2, h3, h4⟩ := h
  refine ⟨?_, ?_, Nat.lt_of_lt_of_le h3 hk.size, h4⟩
  · rw [← h1]; simp only [World.cell?, hk.block p h3 hp]
  · have hlt := h2.lt
    obtain ⟨es, clock, hb', F, hs, hD⟩ := h2
    exact ⟨es, clock, (hk.block b hlt hb).trans hb', F, hs, hD⟩
theorem MapIn.below {p b n : Nat} {D : DataW Unit} {w0 w : World} (h : MapIn p b n D w0) (hb : Below w0.heap.size w0 w) : MapIn p b n D w := h.kept (Kept.of_below hb (fun _ => False)) (fun e => e) (fun e => e)
theorem MapIn.stored {p b n n' : Nat} {D D' : DataW Unit} {w0 w : World} (h : MapIn p b n D w0) (hg : w0.grownBy w (some b)) (ho : w.ownsMap Tryd.prog 3 (plainElem Tryd.prog 3) b n' D') : MapIn p b n' D' w := by
  obtain ⟨h1, h2, h3, h4⟩ := h
  refine ⟨?_, ho, Nat.lt_of_lt_of_le h3 hg.size, h4⟩
  rw [← h1]; simp only [World.cell?, hg.block p h3 (fun e => h4 (Option.some.inj e))]
/-- the key of the sorting -/
def kapB (D : DataW Unit) (x : Nat) : Int := if x < 400 then kap D x else -1
set_option maxRecDepth 100000 in
theorem c_cmp {p b n g : Nat} {D : DataW Unit} {w0 : World} (h : MapIn p b n D w0) (hp : p ≠ g) (hb : b ≠ g) : CmpOk (kapB D) (.pointer (some ⟨p, 0, none⟩)) g w0 := by
  intro w x y hk hx hy
  have hx4 : x < 400 := by
    by_cases hc : x < 400
    · exact hc
    · unfold kapB at hx; rw [if_neg hc] at hx; omega
  have hy4 : y < 400 := by
    by_cases hc : y < 400
    · exact hc
    · unfold kapB at hy; rw [if_neg hc] at hy; omega
  obtain ⟨h1, h2, h3, h4⟩ := h.kept hk hp hb
  obtain ⟨c1, r1, a1, _⟩ := h2.lookup_int keyI Tryd.underlying131 Tryd.underlying3 (zeroI w) (keyN hx4)
  obtain ⟨c2, r2, a2, _⟩ := h2.lookup_int keyI Tryd.underlying131 Tryd.underlying3 (zeroI w) (keyN hy4)
  have e1 : kapB D x = c1 := by unfold kapB kap; rw [if_pos hx4, a1]
  have e2 : kapB D y = c2 := by unfold kapB kap; rw [if_pos hy4, a2]
  rw [e1] at hx ⊢
  rw [e2] at hy ⊢
  obtain ⟨hx0, hx1⟩ := hx
  obtain ⟨hy0, hy1⟩ := hy
  clear h h2 hk a1 a2 e1 e2
  go_enter Tryd.func76, Tryd.ntmps76
  go_wp2_with fail
  go_ret
  exact ⟨rfl, Below.refl _ _⟩
end Go.Proofs.YtimlmekgapdkiaaDoor
