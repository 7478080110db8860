/- plain (no program): sentinel errors out of what is laid -/
import Derived.ChangeSame
import Derived.ChangeVars
import Derived.JoinedOf
import Derived.RowKit
import Derived.RowKitTokens
import Derived.LaidLaws
import Derived.LaidMore
import Derived.LaidHandle
import Derived.MakeChecks
import Derived.LaidSub
namespace Go.Cas
set_option linter.unusedVariables false
set_option linter.unusedSimpArgs false
open Go.RowKit Go.ChangeShapes Go.WideShapes

theorem row_one (a : Addr) : MemPlace.row a 1 = [MemPlace.cell a.block a.off] := by simp [MemPlace.row]
def sentD (nm : String) (x : String × List UInt8) : String × DataW Unit := (x.1, .iface nm (.ptr (.agg [.lit (.string x.2)])))
theorem sents_of {P : Program} {W : World} {ti tp te ts : TypeId} {ms : Array (String × TypeId)} {nm : String} {f : Field}
    (hi : P.underlying ti = some (.interface ms)) (hrow : ∀ u, P.typeName? 3 u = some nm → u = tp)
    (hp : P.underlying tp = some (.pointer te)) (he : P.underlying te = some (.struct #[f])) (hft : f.type = ts) (hfo : f.offset = 0) (hs : P.underlying ts = some .string) (hc : P.cellsOf te = 1) (hcs : P.cellsOf ts = 1) :
    ∀ (l : List (String × List UInt8)) (ps : List MemPlace), DataW.LaidVars P W (l.map (sentD nm)) ps → (∀ x ∈ l, ∃ g, P.globalNamed x.1 = some g ∧ (P.globals[g]?).map (·.type) = some ti) →
      (∀ b off, MemPlace.cell b off ∈ ps → (∃ c t, W.heap[b]? = some (.cells c t (0, 0))) ∧ ∀ u v, W.cell? ⟨b, off, none⟩ = some (.iface u v) → Value.okWide P W .any 0 u v) →
      ∃ adl : List Addr, adl.length = l.length ∧ (adl.map fun a => MemPlace.cell a.block a.off).Sublist ps ∧
        ∀ (i : Nat) x a g, l[i]? = some x → adl[i]? = some a → P.globalNamed x.1 = some g → W.cell? ⟨g, 0, none⟩ = some (.iface tp (.pointer (some a))) ∧ a.block < W.heap.size ∧ ∃ c t, W.heap[a.block]? = some (.cells c t (0, 0)) := by
  intro l
  induction l with
  | nil => intro ps _ _ _; exact ⟨[], rfl, List.nil_sublist _, fun i x a g hx => by simp at hx⟩
  | cons y l ih =>
    intro ps h hg hrows
    obtain ⟨g, t, cs, fu, p, q, hgn, ht, hv, hd, hrest, rfl⟩ := h
    obtain ⟨g', hg1, hg2⟩ := hg y (by simp)
    obtain rfl := Option.some.inj (hg1.symm.trans hgn)
    obtain rfl := Option.some.inj (hg2.symm.trans ht)
    obtain ⟨l0⟩ := cs
    have ok0 : ∀ u v, l0 = [.iface u v] → Value.okWide P W .any 0 u v := fun u v e => by
      subst e
      exact (hrows g' 0 (by simp [MemPlace.row])).2 u v (by simpa using World.var?_cell hg1 hv 0)
    obtain ⟨a0, s0, rfl, hc0, _, _, rfl⟩ := errorString_of_trod hi hrow hp he hft hfo hs hc hcs hd ok0
    obtain ⟨adl, h1, h2, h3⟩ := ih q hrest (fun x hx => hg x (by simp [hx])) (fun b off hm => hrows b off (by simp [hm]))
    refine ⟨a0 :: adl, by simp [h1], ?_, fun i x a g hx ha hgx => ?_⟩
    · rw [row_one]
      simp only [List.map_cons]
      rw [List.append_assoc]
      exact List.Sublist.trans (List.Sublist.cons_cons _ h2) (List.sublist_append_right (MemPlace.row ⟨g', 0, none⟩ _) _)
    · rcases i with _ | i
      · simp at hx ha
        subst hx ha
        obtain rfl := Option.some.inj (hg1.symm.trans hgx)
        have hcell := (hrows a0.block a0.off (by simp [MemPlace.row])).1
        obtain ⟨c, t, hb⟩ := hcell
        refine ⟨by simpa using World.var?_cell hg1 hv 0, (Array.getElem?_eq_some_iff.1 hb).1, c, t, hb⟩
      · exact h3 i x a g (by simpa using hx) (by simpa using ha) hgx
/-- the list of all seven, whatever its order -/
theorem sents_inj {adl : List Addr} {ps : List MemPlace} (h : (adl.map fun a => MemPlace.cell a.block a.off).Sublist ps) (hnd : ps.Nodup) : adl.Nodup := by
  have h1 : (adl.map fun a : Addr => MemPlace.cell a.block a.off).Nodup := h.nodup hnd
  exact List.Pairwise.of_map (fun a : Addr => MemPlace.cell a.block a.off) (fun a b hab e => hab (by rw [e])) h1
end Go.Cas
