/- the grid: the board of taken cells -/
import Derived.Test.YtnjckpgacbibhaaPb
import Derived.Maps.OwnOps
import Derived.Maps.Views
import Derived.DeepKeys4
import Derived.WideKeyPair
namespace Go.Proofs.Ytnjckpgacbibhaa
set_option linter.unusedVariables false
set_option linter.unusedSimpArgs false
open Go.RowKit Go.Cas Go.WideMaps
open Go.Maps (Keyed IsMap)

theorem laidG : laidOutB Try.prog = true := by kernel_rfl
theorem rowG : (131 : TypeId) < Try.prog.types.size := of_decide_eq_true (by kernel_rfl)
theorem arrG : ArrKey Try.prog 131 3 2 := ⟨Try.underlying131, by kernel_rfl, by kernel_rfl, by kernel_rfl⟩
theorem wideG : (match Try.prog.underlying 131 with | some (.array _ _) | some (.struct _) => true | _ => false) = true := by rw [Try.underlying131]
set_option maxRecDepth 100000 in
theorem lawG : Keyed Try.prog 131 := Keyed.of_law (deep_law_laid laidG (m := 2) (by omega) rowG (by kernel_rfl) wideG)
theorem pos_succ {n k : Nat} (h : k < n) : ∃ m, n = m + 1 := ⟨n - 1, by omega⟩
theorem szG : ∃ m, Try.prog.types.size = m + 1 := pos_succ rowG
theorem zeroG (w : World) : (zeroValue 4).run Try.prog w = .ok (.bool false) w := by kernel_rfl
def Sm (a : Int) : Prop := -1000000000 ≤ a ∧ a ≤ 1000000000
theorem Sm.wf {a : Int} (h : Sm a) : (Lit.int .i64 a).wf = true := WalkArith.wf_i64 (by unfold Sm at h; omega)
abbrev cellV (r c : Int) : Value := .agg #[.int .i64 r, .int .i64 c]
def cellK (r c : Int) : Lit := .string (keyBytes [.int .i64 r, .int .i64 c])
theorem key_cell {r c : Int} (hr : Sm r) (hc : Sm c) : keyOf Try.prog 131 (cellV r c) = some (cellK r c) := keyOf_pair arrG Try.underlying3 szG hr.wf hc.wf
theorem cellK_ne {r c r' c' : Int} (hr : Sm r) (hc : Sm c) (hr' : Sm r') (hc' : Sm c') (h : ¬ (r' = r ∧ c' = c)) : cellK r' c' ≠ cellK r c := by
  intro e
  have h1 := key_cell hr hc
  have h2 := key_cell hr' hc'
  rw [e] at h2
  have := lawG.inj h1 h2
  simp at this
  exact h ⟨this.1.symm, this.2.symm⟩
/-- block b is a board on which just the cells of T are taken -/
def Brd (w : World) (b n : Nat) (T : Int → Int → Bool) : Prop :=
  ∃ D : DataW Unit, w.ownsMap Try.prog 131 (plainElem Try.prog 4) b n D ∧ IsMap D ∧ ∀ r c, Sm r → Sm c → D.atKey (cellK r c) (.lit (.bool false)) = .lit (.bool (T r c))
section
variable {w w' : World} {b n : Nat} {T : Int → Int → Bool}
theorem Brd.made (w : World) : Brd (w.alloc (.map #[] 0)) w.heap.size 0 (fun _ _ => false) :=
  ⟨.map [], World.ownsMap_made _ _ _ _, ⟨[], rfl⟩, fun _ _ _ _ => rfl⟩
theorem Brd.below (h : Brd w b n T) (hb : Below w.heap.size w w') : Brd w' b n T := by
  obtain ⟨D, h1, h2, h3⟩ := h
  exact ⟨D, h1.kept (row := none) ⟨hb.os, hb.tape, hb.output, hb.size, fun k hk _ => hb.block k hk⟩ (by simp), h2, h3⟩
theorem Brd.lt (h : Brd w b n T) : b < w.heap.size := by
  obtain ⟨D, h1, h2, h3⟩ := h
  exact h1.lt
theorem Brd.mono (h : Brd w b n T) {m : Nat} (hm : n ≤ m) : Brd w b m T := by
  obtain ⟨D, h1, h2, h3⟩ := h
  exact ⟨D, h1.mono hm, h2, h3⟩
theorem Brd.congr (h : Brd w b n T) {U : Int → Int → Bool} (hU : ∀ r c, Sm r → Sm c → T r c = U r c) : Brd w b n U := by
  obtain ⟨D, h1, h2, h3⟩ := h
  exact ⟨D, h1, h2, fun r c hr hc => by rw [h3 r c hr hc, hU r c hr hc]⟩
theorem plainElem_bool_inv {P : Program} {e : TypeId} (he : P.underlying e = some .bool) {v : Value} {z : DataW Unit × List MemPlace} (h : plainElem P e v = some z) : ∃ x : Bool, v = .bool x ∧ z = (.lit (.bool x), []) := by
  unfold plainElem at h
  rw [he] at h
  cases v <;> simp at h
  exact ⟨_, rfl, h.symm⟩
theorem Brd.look (h : Brd w b n T) {r c : Int} (hr : Sm r) (hc : Sm c) : (Instr.lookup 120 (.map (some b)) (cellV r c) false).run Try.prog w = .ok (.bool (T r c)) w := by
  obtain ⟨D, h1, h2, h3⟩ := h
  obtain ⟨v, ps, hrun, hv⟩ := h1.lookup lawG Try.underlying120 (zeroG w) (plainElem_bool Try.underlying4 false) (key_cell hr hc)
  obtain ⟨x, rfl, hx⟩ := plainElem_bool_inv Try.underlying4 hv
  rw [h3 r c hr hc] at hx
  simp only [Prod.mk.injEq, DataW.lit.injEq, Lit.bool.injEq] at hx
  rw [hrun, hx.1]
theorem Brd.store (h : Brd w b n T) {r c : Int} (hr : Sm r) (hc : Sm c) (hn : n < maxLen) : ∃ w', (Instr.mapUpdate 120 (.map (some b)) (cellV r c) (.bool true)).run Try.prog w = .ok () w' ∧ Brd w' b (n + 1) (fun r' c' => if r' = r ∧ c' = c then true else T r' c') ∧ w.grownBy w' (some b) := by
  obtain ⟨D, h1, h2, h3⟩ := h
  obtain ⟨w', hrun, h4, h5⟩ := h1.update lawG Try.underlying120 hn (key_cell hr hc) (plainElem_bool Try.underlying4 true)
  refine ⟨w', hrun, ⟨_, h4, h2.put _ _, fun r' c' hr' hc' => ?_⟩, h5⟩
  by_cases e : r' = r ∧ c' = c
  · obtain ⟨rfl, rfl⟩ := e
    rw [Maps.atKey_put_same h2 (lawG.key (key_cell hr hc))]
    simp
  · rw [Maps.atKey_put_other (cellK_ne hr hc hr' hc' e), h3 r' c' hr' hc']
    simp only [if_neg e]
end
end Go.Proofs.Ytnjckpgacbibhaa
