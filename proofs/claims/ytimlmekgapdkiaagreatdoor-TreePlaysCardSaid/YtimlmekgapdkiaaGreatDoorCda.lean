/- coded; the seven errors out of what is laid -/
import Derived.Test.YtimlmekgapdkiaaGreatDoorCod
import Derived.Test.YtimlmekgapdkiaaGreatDoorsen
namespace Go.Proofs.YtimlmekgapdkiaaGreatDoor
set_option linter.unusedVariables false
set_option linter.unusedSimpArgs false
open Go.RowKit Go.Cas Go.ChangeShapes Go.WideShapes

def CdRet (b : Bool) (w : World) (e : Ending) (w' : World) : Prop := e = .returned (.bool b) ∧ Below w.heap.size w w'
theorem c_coded {w : World} {B q : Nat} {p : Nat → Addr} (h : G7 w B p) (hq : 1 ≤ q ∧ q ≤ 7) (k : Int) : Calls Tryz.prog 26 #[errW p q, .int .i64 k] w (CdRet ((q : Int) == k) w) := by
  have HC := Lib.hid (c_Code h hq)
  clear h hq
  go_enter Tryz.func26, Tryz.ntmps26
  go_wp2_with (go_at_call 57; refine (HC.out).mono ?_; rintro e w1 ⟨rfl, hb⟩; have HB := Lib.hid hb; clear hb)
  go_ret
  exact ⟨rfl, HB.out⟩
theorem c_coded_nil (w : World) (k : Int) : Calls Tryz.prog 26 #[.nilIface, .int .i64 k] w (CdRet ((0 : Int) == k) w) := by
  have HC := Lib.hid (c_Code_nil w)
  go_enter Tryz.func26, Tryz.ntmps26
  go_wp2_with (go_at_call 57; refine (HC.out).mono ?_; rintro e w1 ⟨rfl, hb⟩; have HB := Lib.hid hb; clear hb)
  go_ret
  exact ⟨rfl, HB.out⟩
/-! what is laid -/
theorem etN : Tryz.prog.globalNamed "errors.errorType" = some 7 := by kernel_rfl
theorem rtN : (Tryz.prog.cutTypes.find? (·.1 == "internal/reflectlite.rtype")).map (·.2) = some 121 := by kernel_rfl
theorem szN : ∃ n, Tryz.prog.types.size = n ∧ ((List.range n).filter fun t => Tryz.prog.rowNamed t [101, 114, 114, 111, 114]) = [55] := ⟨_, rfl, by kernel_rfl⟩
def names7 : List (String × List UInt8) := [("casement/api.ErrText", [99, 97, 115, 101, 109, 101, 110, 116, 58, 32, 116, 101, 120, 116]), ("casement/api.ErrBound", [99, 97, 115, 101, 109, 101, 110, 116, 58, 32, 98, 111, 117, 110, 100]), ("casement/api.ErrName", [99, 97, 115, 101, 109, 101, 110, 116, 58, 32, 110, 97, 109, 101]), ("casement/api.ErrNode", [99, 97, 115, 101, 109, 101, 110, 116, 58, 32, 110, 111, 100, 101]), ("casement/api.ErrPlace", [99, 97, 115, 101, 109, 101, 110, 116, 58, 32, 112, 108, 97, 99, 101]), ("casement/api.ErrShape", [99, 97, 115, 101, 109, 101, 110, 116, 58, 32, 115, 104, 97, 112, 101]), ("casement/api.ErrValue", [99, 97, 115, 101, 109, 101, 110, 116, 58, 32, 118, 97, 108, 117, 101])]
theorem starN : "*" ++ "errors.errorString" = "*errors.errorString" := by decide
theorem rowN (u : TypeId) (h : Tryz.prog.typeName? 3 u = some "*errors.errorString") : u = 135 :=
  typeName_ptr_named (nm := "errors.errorString") (by rw [starN]; kernel_rfl) (by kernel_rfl) (by decide) u (by rw [starN]; exact h)
theorem names7_g : ∀ (i : Nat) x, names7[i]? = some x → Tryz.prog.globalNamed x.1 = some (gvr (i + 1)) ∧ (Tryz.prog.globals[gvr (i + 1)]?).map (·.type) = some 55 := by
  intro i x hx
  rcases i with _ | _ | _ | _ | _ | _ | _ | i
  all_goals first
    | (obtain rfl := Option.some.inj hx; exact ⟨by kernel_rfl, by kernel_rfl⟩)
    | (exfalso; have := (List.getElem?_eq_some_iff.1 hx).1; simp [names7] at this; omega)
def laid8 : List (String × DataW Unit) := ("errors.errorType", .iface "internal/reflectlite.rtype" (.agg [.ptr (.lit (.string [101, 114, 114, 111, 114]))])) :: names7.map (sentD "*errors.errorString")
theorem lt_of_cell {W : World} {g : Nat} {u : Value} (h : W.cell? ⟨g, 0, none⟩ = some u) : g < W.heap.size := by
  rcases Nat.lt_or_ge g W.heap.size with hlt | hge
  · exact hlt
  · simp [World.cell?, Array.getElem?_eq_none hge] at h
theorem G7_of_laid {W : World} (h : laidMetH Tryz.prog laid8 W) : ∃ p, G7 W W.heap.size p := by
  have h' : laidMet Tryz.prog (names7.map (sentD "*errors.errorString")) W ∧ handlesMet Tryz.prog [("errors.errorType", .iface "internal/reflectlite.rtype" (.agg [.ptr (.lit (.string [101, 114, 114, 111, 114]))]))] W := h
  obtain ⟨⟨ps, hl, hnd, hrows⟩, hh⟩ := h'
  have het : W.cell? ⟨7, 0, none⟩ = some (.iface 121 (.agg #[.pointer (some ⟨8, 55, none⟩)])) := by
    obtain ⟨name, u, ty, e1, e2, e3, e4, e5⟩ := hh _ (List.mem_singleton.2 rfl)
    have en : name = [101, 114, 114, 111, 114] := (Option.some.inj e1).symm
    subst en
    obtain rfl := Option.some.inj (rtN.symm.trans e2)
    obtain ⟨n, hn, hone⟩ := szN
    have hm : ty ∈ (List.range n).filter fun t => Tryz.prog.rowNamed t [101, 114, 114, 111, 114] := List.mem_filter.2 ⟨List.mem_range.2 (by rw [← hn]; exact e3), e4⟩
    rw [hone] at hm
    obtain rfl := List.mem_singleton.1 hm
    have hth : typeHandle Tryz.prog 55 = .pointer (some ⟨8, 55, none⟩) := by kernel_rfl
    rw [hth] at e5
    simpa using World.var?_cell etN e5 0
  obtain ⟨adl, h1, h2, h3⟩ := sents_of Tryz.underlying55 rowN Tryz.underlying135 Tryz.underlying156 rfl rfl Tryz.underlying9 (by kernel_rfl) (by kernel_rfl) names7 ps hl (fun x hx => by
    obtain ⟨i, hi⟩ := List.getElem?_of_mem hx
    exact ⟨_, names7_g i x hi⟩) hrows
  have hinj := sents_inj h2 hnd
  have h7 : adl.length = 7 := h1
  have hget : ∀ q, 1 ≤ q → q ≤ 7 → adl[q - 1]? = some (adl.getD (q - 1) ⟨0, 0, none⟩) := fun q h1 h2 => by
    rw [List.getD_eq_getElem?_getD, List.getElem?_eq_getElem (by omega)]; rfl
  have hall : ∀ q, 1 ≤ q → q ≤ 7 → W.cell? ⟨gvr q, 0, none⟩ = some (.iface 135 (.pointer (some (adl.getD (q - 1) ⟨0, 0, none⟩)))) ∧ (adl.getD (q - 1) ⟨0, 0, none⟩).block < W.heap.size ∧ ∃ c t, W.heap[(adl.getD (q - 1) ⟨0, 0, none⟩).block]? = some (.cells c t (0, 0)) := fun q q1 q2 => by
    obtain ⟨x, hx⟩ : ∃ x, names7[q - 1]? = some x := ⟨_, List.getElem?_eq_getElem (by show q - 1 < 7; omega)⟩
    have hg := (names7_g (q - 1) x hx).1
    rw [Nat.sub_add_cancel q1] at hg
    exact h3 (q - 1) x _ _ hx (hget q q1 q2) hg
  refine ⟨fun q => adl.getD (q - 1) ⟨0, 0, none⟩, ⟨fun q q1 q2 => (hall q q1 q2).1, fun i j i1 i2 j1 j2 e => ?_, fun i i1 i2 => (hall i i1 i2).2, het, ?_, Nat.le_refl _⟩⟩
  · have e1 := hget i i1 i2
    have e2 := hget j j1 j2
    have e : adl.getD (i - 1) ⟨0, 0, none⟩ = adl.getD (j - 1) ⟨0, 0, none⟩ := e
    rw [← e] at e2
    have := (List.getElem?_inj (by omega) hinj).1 (e1.trans e2.symm)
    omega
  · have l0 := lt_of_cell het
    have l1 := lt_of_cell (hall 1 (by decide) (by decide)).1
    have l2 := lt_of_cell (hall 2 (by decide) (by decide)).1
    have l3 := lt_of_cell (hall 3 (by decide) (by decide)).1
    have l4 := lt_of_cell (hall 4 (by decide) (by decide)).1
    have l5 := lt_of_cell (hall 5 (by decide) (by decide)).1
    have l6 := lt_of_cell (hall 6 (by decide) (by decide)).1
    have l7 := lt_of_cell (hall 7 (by decide) (by decide)).1
    simp only [gvr, List.getD_cons_zero, List.getD_cons_succ] at l1 l2 l3 l4 l5 l6 l7
    omega
end Go.Proofs.YtimlmekgapdkiaaGreatDoor
