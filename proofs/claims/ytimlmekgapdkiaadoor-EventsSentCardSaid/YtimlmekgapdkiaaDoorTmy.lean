/- what the laid variables give -/
import Derived.Test.YtimlmekgapdkiaaDoorTme
import Derived.Test.YtimlmekgapdkiaaDoorRows
import Derived.ChangeSame
import Derived.ChangeVars
import Derived.JoinedOf
import Derived.RowKit
import Derived.RowKitTokens
import Derived.LaidLaws
import Derived.LaidMore
import Derived.LaidHandle
import Derived.MakeChecks
namespace Go.Proofs.YtimlmekgapdkiaaDoor
set_option linter.unusedVariables false
set_option linter.unusedSimpArgs false
open Go.RowKit Go.Cas Go.ChangeShapes Go.WideShapes

theorem gBound : Tryd.prog.globalNamed "casement/api.ErrBound" = some 3 := by kernel_rfl
theorem gName : Tryd.prog.globalNamed "casement/api.ErrName" = some 2 := by kernel_rfl
theorem gNode : Tryd.prog.globalNamed "casement/api.ErrNode" = some 4 := by kernel_rfl
theorem gPlace : Tryd.prog.globalNamed "casement/api.ErrPlace" = some 5 := by kernel_rfl
theorem tBound : (Tryd.prog.globals[3]?).map (·.type) = some 24 := by kernel_rfl
theorem tName : (Tryd.prog.globals[2]?).map (·.type) = some 24 := by kernel_rfl
theorem tNode : (Tryd.prog.globals[4]?).map (·.type) = some 24 := by kernel_rfl
theorem tPlace : (Tryd.prog.globals[5]?).map (·.type) = some 24 := by kernel_rfl
theorem starE : "*" ++ "errors.errorString" = "*errors.errorString" := by decide
theorem rowE (u : TypeId) (h : Tryd.prog.typeName? 3 u = some "*errors.errorString") : u = 198 :=
  typeName_ptr_named (nm := "errors.errorString") (by rw [starE]; kernel_rfl) (by kernel_rfl) (by decide) u (by rw [starE]; exact h)
theorem cellsE : Tryd.prog.cellsOf 219 = 1 := by kernel_rfl
theorem cellsS : Tryd.prog.cellsOf 9 = 1 := by kernel_rfl
/-- the four that the tree names -/
def laid4 : List (String × DataW Unit) := [("casement/api.ErrBound", Rows.laid_casement_api_ErrBound), ("casement/api.ErrName", Rows.laid_casement_api_ErrName), ("casement/api.ErrNode", Rows.laid_casement_api_ErrNode), ("casement/api.ErrPlace", Rows.laid_casement_api_ErrPlace)]
set_option maxRecDepth 100000 in
theorem GE_of_laid {W : World} (h : laidMetH Tryd.prog laid4 W) : ∃ p, GE W W.heap.size p := by
  rw [MakeChecks.laidMetH_plain _ _ _ (by kernel_rfl)] at h
  obtain ⟨ps, ⟨g0, t0, cs0, f0, p0, q0, hg0, ht0, hv0, hd0, ⟨g1, t1, cs1, f1, p1, q1, hg1, ht1, hv1, hd1, ⟨g2, t2, cs2, f2, p2, q2, hg2, ht2, hv2, hd2, ⟨g3, t3, cs3, f3, p3, q3, hg3, ht3, hv3, hd3, hq3, e3⟩, e2⟩, e1⟩, e0⟩, hnd, hrows⟩ := h
  obtain rfl := Option.some.inj (gBound.symm.trans hg0)
  obtain rfl := Option.some.inj (gName.symm.trans hg1)
  obtain rfl := Option.some.inj (gNode.symm.trans hg2)
  obtain rfl := Option.some.inj (gPlace.symm.trans hg3)
  obtain rfl := Option.some.inj (tBound.symm.trans ht0)
  obtain rfl := Option.some.inj (tName.symm.trans ht1)
  obtain rfl := Option.some.inj (tNode.symm.trans ht2)
  obtain rfl := Option.some.inj (tPlace.symm.trans ht3)
  have hq3' : q3 = [] := hq3
  subst hq3'
  subst e3
  subst e2
  subst e1
  subst e0
  obtain ⟨l0⟩ := cs0
  obtain ⟨l1⟩ := cs1
  obtain ⟨l2⟩ := cs2
  obtain ⟨l3⟩ := cs3
  have ok0 : ∀ u v, l0 = [.iface u v] → Value.okWide Tryd.prog W .any 0 u v := fun u v e => by
    subst e
    exact (hrows 3 0 (by simp [MemPlace.row])).2 u v (by simpa using World.var?_cell hg0 hv0 0)
  have ok1 : ∀ u v, l1 = [.iface u v] → Value.okWide Tryd.prog W .any 0 u v := fun u v e => by
    subst e
    exact (hrows 2 0 (by simp [MemPlace.row])).2 u v (by simpa using World.var?_cell hg1 hv1 0)
  have ok2 : ∀ u v, l2 = [.iface u v] → Value.okWide Tryd.prog W .any 0 u v := fun u v e => by
    subst e
    exact (hrows 4 0 (by simp [MemPlace.row])).2 u v (by simpa using World.var?_cell hg2 hv2 0)
  have ok3 : ∀ u v, l3 = [.iface u v] → Value.okWide Tryd.prog W .any 0 u v := fun u v e => by
    subst e
    exact (hrows 5 0 (by simp [MemPlace.row])).2 u v (by simpa using World.var?_cell hg3 hv3 0)
  obtain ⟨a0, s0, rfl, hc0, hs0, hz0, rfl⟩ := errorString_of_trod Tryd.underlying24 rowE Tryd.underlying198 Tryd.underlying219 rfl rfl Tryd.underlying9 cellsE cellsS hd0 ok0
  obtain ⟨a1, s1, rfl, hc1, hs1, hz1, rfl⟩ := errorString_of_trod Tryd.underlying24 rowE Tryd.underlying198 Tryd.underlying219 rfl rfl Tryd.underlying9 cellsE cellsS hd1 ok1
  obtain ⟨a2, s2, rfl, hc2, hs2, hz2, rfl⟩ := errorString_of_trod Tryd.underlying24 rowE Tryd.underlying198 Tryd.underlying219 rfl rfl Tryd.underlying9 cellsE cellsS hd2 ok2
  obtain ⟨a3, s3, rfl, hc3, hs3, hz3, rfl⟩ := errorString_of_trod Tryd.underlying24 rowE Tryd.underlying198 Tryd.underlying219 rfl rfl Tryd.underlying9 cellsE cellsS hd3 ok3
  have c0 := World.var?_cell hg0 hv0 0
  have c1 := World.var?_cell hg1 hv1 0
  have c2 := World.var?_cell hg2 hv2 0
  have c3 := World.var?_cell hg3 hv3 0
  have lt : ∀ {g : Nat} {u : Value}, W.cell? ⟨g, 0, none⟩ = some u → g < W.heap.size := fun {g u} h => by
    rcases Nat.lt_or_ge g W.heap.size with hlt | hge
    · exact hlt
    · simp [World.cell?, Array.getElem?_eq_none hge] at h
  refine ⟨fun k => if k = 2 then a0 else if k = 3 then a1 else if k = 4 then a2 else a3, ⟨by simpa using c1, by simpa using c0, by simpa using c2, by simpa using c3, ⟨lt (by simpa using c1), lt (by simpa using c0), lt (by simpa using c2), lt (by simpa using c3)⟩, Nat.le_refl _⟩⟩
end Go.Proofs.YtimlmekgapdkiaaDoor
