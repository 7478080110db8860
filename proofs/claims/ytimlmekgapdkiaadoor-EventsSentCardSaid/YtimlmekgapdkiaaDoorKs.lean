/- what EventsSent needs of other laws' texts: a climb, Kind and Has of a number that is no node -/
import Derived.Test.YtimlmekgapdkiaaDoorKk
import Derived.Test.YtimlmekgapdkiaaDoorUs
import Derived.Test.YtimlmekgapdkiaaDoorTmw
import Derived.Deep.RegionHeld3
import Derived.Deep.CutBlock
namespace Go.Proofs.YtimlmekgapdkiaaDoor
set_option linter.unusedVariables false
set_option linter.unusedSimpArgs false
open Go.RowKit Go.Cas

abbrev rAg (L n cap : Nat) : Value := .agg #[.slice (some ⟨L, 0, none⟩) n cap, .slice none 0 0]
/-- where a climb stands -/
def Clm (T : List Nod) (l acc : List Nat) (a : Int) : Prop := (a < 0 ∧ l = acc.reverse) ∨ (∃ (q : Nat) (r : List Nat), a = (q : Int) ∧ q < T.length ∧ Go.Cas.Way T q r ∧ l = r ++ acc.reverse)
theorem Clm.up {T : List Nod} {d : Nat → Nat} {l acc : List Nat} {q : Nat} (hW : WF T d) (h : Clm T l acc (q : Int)) : q < T.length ∧ acc.length + 1 ≤ l.length ∧ Clm T l (acc ++ [q]) (ndA T q).pa ∧ wm d (ndA T q).pa < wm d (q : Int) := by
  rcases h with ⟨e, _⟩ | ⟨q', r, e, hq, hw, hl⟩
  · omega
  obtain rfl : q = q' := by omega
  have hrl : 0 < r.length := List.length_pos_iff.2 hw.ne
  refine ⟨hq, by rw [hl]; simp; omega, ?_, ?_⟩
  · cases hw with
    | root h => exact .inl ⟨h, by rw [hl]; simp⟩
    | @step _ p r' e hw =>
      have hpT : p < T.length := by
        rcases hW.pa q hq with e2 | ⟨_, e2⟩
        · omega
        · rw [e] at e2; exact e2
      exact .inr ⟨p, r', e, hpT, hw, by rw [hl]; simp⟩
  · unfold wm
    rw [if_neg (by omega : ¬ (q : Int) < 0)]
    by_cases h0 : (ndA T q).pa < 0
    · rw [if_pos h0]; omega
    · rw [if_neg h0]
      have := hW.ac q hq (by omega)
      have e : ((q : Int)).toNat = q := rfl
      rw [e]; omega
theorem Clm.done {T : List Nod} {l acc : List Nat} {a : Int} (h : Clm T l acc a) (ha : a < 0) : acc = l.reverse := by
  rcases h with ⟨_, e⟩ | ⟨q, _, e, _⟩
  · rw [e]; simp
  · omega
theorem Clm.nat {T : List Nod} {l acc : List Nat} {a : Int} (h : Clm T l acc a) (ha : ¬ a < 0) : ∃ q : Nat, a = (q : Int) ∧ q < T.length := by
  rcases h with ⟨e, _⟩ | ⟨q, _, e, hq, _⟩
  · omega
  · exact ⟨q, e, hq⟩
theorem c_KindNo {w : World} {B R : Nat} {F : Nat → Prop} {T : List Nod} {D : List (Value × List Nod)} {z : Int} (h : TS B R T D F w) (hT : T.length ≤ 400) (hz : z < 0 ∨ (T.length : Int) ≤ z) :
    Calls Tryd.prog 55 #[.pointer (some ⟨R, 0, none⟩), .int .i64 z] w fun e w' => e = .returned (.int .i64 0) ∧ w = w' := by
  obtain ⟨L, cap, uv, Z, M, h1, hM, _⟩ := h.ns
  have hlM : M.length = T.length := by rw [← hM]; simp
  have HI := Lib.hid (c_is_no h1 z (by omega) (by omega))
  clear h h1 hM hlM hz
  go_enter Tryd.func55, Tryd.ntmps55
  go_wp2_with (go_at_call 47; refine (HI.out).mono ?_; rintro e w' ⟨rfl, rfl⟩)
  go_ret
  exact ⟨rfl, rfl⟩
theorem c_rHasNo {w : World} {B R n : Nat} {τ : Nat → Nat} {T : List Nod} (h : RS B R T n τ w) (z : Int) (hz : z < 0 ∨ (T.length : Int) ≤ z) (hT : T.length ≤ 400) :
    Calls Tryd.prog 73 #[.pointer (some ⟨R, 0, none⟩), .int .i64 z] w fun e w' => e = .returned (.bool false) ∧ w = w' := by
  obtain ⟨L, cap, tv, xs, M, h1, hM⟩ := h
  have hl : M.length = T.length := by rw [← hM]; simp
  obtain ⟨h0, _⟩ := h1.heads
  have hr := h1.ltR
  have hl4 : M.length ≤ 400 := by omega
  by_cases hz0 : z < 0
  · have hz1 : ¬ 0 ≤ z := by omega
    clear h1 hM hl hz hT
    go_enter Tryd.func73, Tryd.ntmps73
    go_wp2_with fail
    go_ret
    exact ⟨rfl, rfl⟩
  · have hz1 : 0 ≤ z := by omega
    have hz2 : ¬ z < (M.length : Int) := by omega
    clear h1 hM hl hz hT
    go_enter Tryd.func73, Tryd.ntmps73
    go_wp2_with fail
    go_ret
    exact ⟨rfl, rfl⟩
theorem RdT.below5 {w w' : World} {lim lim' n : Nat} {v : Value} {L : List TwV} (h : RdT w lim v n L) (hb : Below lim w w') (hl : lim ≤ lim') : RdT w' lim' v n L :=
  ⟨(h.1.below hb).mono hl, fun y hy => by
    obtain ⟨h1, h2, h3⟩ := h.2 y hy
    exact ⟨(h1.below hb).mono hl, (h2.below hb).mono hl, h3⟩⟩
theorem GE.up {w w' : World} {p : Nat → Addr} (h : GE w w.heap.size p) (hb : Below w.heap.size w w') : GE w' w'.heap.size p := by
  have h1 := h.below hb
  have hs := hb.size
  obtain ⟨l1, l2, l3, l4⟩ := h1.lt.1
  exact ⟨h1.name_, h1.bound, h1.node, h1.place, ⟨by omega, by omega, by omega, by omega⟩, Nat.le_refl _⟩
end Go.Proofs.YtimlmekgapdkiaaDoor
