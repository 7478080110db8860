/- plain (no program): append to a slice whose capacity may be less than its block's -/
import Derived.Test.YtimlmekgapdkiaaDoormem3
import Derived.ArgAppend
namespace Go.Cas
set_option linter.unusedVariables false
set_option linter.unusedSimpArgs false
open Go.RowKit

/-- a slice from a block's head on -/
def Row (w : World) (g : Nat) (e : TypeId) (size cap n : Nat) (xs : List Value) : Prop :=
  ∃ cur : Array Value, w.heap[g]? = some (.cells cur e (0, 0)) ∧ cap * size ≤ cur.size ∧ cur.toList.take (n * size) = xs ∧ n ≤ cap ∧ cap ≤ maxLen ∧ xs.length = n * size
theorem Row.at_ {w w' : World} {g : Nat} {e : TypeId} {size cap n : Nat} {xs : List Value} (h : Row w g e size cap n xs) (hk : w'.heap[g]? = w.heap[g]?) : Row w' g e size cap n xs := by
  obtain ⟨cur, h1, h2⟩ := h
  exact ⟨cur, hk.trans h1, h2⟩
theorem heap_setRow (w : World) (g : Nat) (c : Array Value) (k : Nat) (hk : k ≠ g) : (w.setRow g c).heap[k]? = w.heap[k]? := by
  unfold World.setRow
  simp [Array.getElem?_modify, Ne.symm hk]
theorem heap_setRow_self (w : World) (g : Nat) (c cur : Array Value) (e : TypeId) (fr : Nat × Nat) (h : w.heap[g]? = some (.cells cur e fr)) : (w.setRow g c).heap[g]? = some (.cells c e fr) := by
  unfold World.setRow
  simp [Array.getElem?_modify, h]
theorem run_append_row {P : Program} {w : World} (t ty e : TypeId) (i : TypeInfo) (z : Value) (size bytes : Nat) (ht : P.underlying t = some (.slice e)) (hi : P.info? e = some i) (hz : i.zero = some z)
    (hsize : i.size = size) (hby : i.bytes = bytes) (hzs : z.cells.size = size) (hsz : 0 < size)
    (g cap n : Nat) (xs : List Value) (hr : Row w g e size cap n xs)
    (ad : Addr) (m c : Nat) (news : List Value) (hl : news.length = m * size) (hnews : ∀ j u, news[j]? = some u → w.cell? (ad.add j) = some u) (h1 : ∀ u ∈ news, u.oneCell' = true)
    (hm : 0 < m) (h63 : n + m ≤ maxLen) (hbytes : (n + m) * bytes ≤ 140737488355328) :
    ∃ g' cap' w', (Builtin.append_ #[t, t] ty #[.slice (some ⟨g, 0, none⟩) n cap, .slice (some ad) m c]).run P w = .ok (.slice (some ⟨g', 0, none⟩) (n + m) cap') w' ∧
      Row w' g' e size cap' (n + m) (xs ++ news) ∧ w.grownBy w' (some g) ∧ (g' = g ∨ w.heap.size ≤ g') ∧ g' < w'.heap.size := by
  obtain ⟨cur, q1, q2, q3, q4, q5, q6⟩ := hr
  have hgl : g < w.heap.size := (Array.getElem?_eq_some_iff.1 q1).1
  have hnl : n * size ≤ cur.size := Nat.le_trans (Nat.mul_le_mul_right _ q4) q2
  by_cases hroom : n + m ≤ cap
  · have hfit : n * size + news.length ≤ cur.size := by rw [hl, ← Nat.add_mul]; exact Nat.le_trans (Nat.mul_le_mul_right _ hroom) q2
    subst hsize
    have := run_append_room (P := P) w t ty e i ht hi g n cap cur q1 ad m c news hl hnews h1 hroom hfit
    refine ⟨g, cap, _, this, ⟨_, heap_setRow_self w g _ cur e (0, 0) q1, ?_, ?_, hroom, q5, ?_⟩, ⟨rfl, rfl, rfl, by simp [World.setRow], fun k hk hne => heap_setRow w g _ k (fun e => hne (by rw [e]))⟩, .inl rfl, by simp [World.setRow]; exact hgl⟩
    · rw [List.size_toArray, List.length_append, List.length_append, List.length_take, List.length_drop, Array.length_toList]; omega
    · have e1 : (cur.toList.take (n * i.size) ++ news).length = (n + m) * i.size := by rw [List.length_append, q3, q6, hl, Nat.add_mul]
      rw [← e1, q3]
      exact List.take_left
    · rw [List.length_append, q6, hl, Nat.add_mul]
  · have holds : ∀ j u, xs[j]? = some u → w.cell? ((⟨g, 0, none⟩ : Addr).add j) = some u := by
      intro j u hj
      have ea : (⟨g, 0, none⟩ : Addr).add j = ⟨g, j, none⟩ := by
        unfold Addr.add; split
        · rename_i h; subst h; rfl
        · simp
      rw [ea, cell_of_row w g j cur e (0, 0) q1]
      rw [← q3] at hj
      have hj2 := (List.getElem?_eq_some_iff.1 hj).1
      rw [List.getElem?_take_of_lt (by simp at hj2; omega)] at hj
      simpa using hj
    obtain ⟨v', w', r1, r2, r3⟩ := run_append_arg_grows (P := P) w t ty e i z size bytes ht hi hz hsize hby hzs hsz ⟨g, 0, none⟩ n cap xs q6 holds ad m c news hl hnews (by omega) h63 hbytes
    obtain ⟨g', cap', rfl, hb, hlt⟩ := r2.form (by omega)
    refine ⟨g', cap', w', r1, ?_, ⟨r3.os, r3.tape, r3.output, r3.size, fun k hk _ => r3.block k hk (by simp)⟩, .inr hb, hlt⟩
    rcases r2.2 with ⟨h, _⟩ | ⟨g2, c2, cur2, e2, _, h2, h3, h4, h5, h6⟩
    · cases h
    · injection e2 with e2 _ e3
      injection e2 with e2
      injection e2 with e2
      subst e2 e3
      exact ⟨cur2, h2, by omega, h6, h3, h4, r2.1⟩
theorem step_append_row {P : Program} {w : World} {ops : Array Oper} {o : Oper} {a : Act} {K : Act → World → Prop} {Q : Exit → Act → World → Prop} {E : Prop} (hgd : o.guard = none) (s x : Operand) (t : TypeId)
    (ho : o.op = .call { callee := .builtin .append, args := #[s, x], argTypes := #[t, t] })
    (e : TypeId) (i : TypeInfo) (z : Value) (size bytes : Nat) (ht : P.underlying t = some (.slice e)) (hi : P.info? e = some i) (hz : i.zero = some z)
    (hsize : i.size = size) (hby : i.bytes = bytes) (hzs : z.cells.size = size) (hsz : 0 < size)
    (g cap n : Nat) (xs : List Value) (hs : a.eval s = .slice (some ⟨g, 0, none⟩) n cap) (hr : Row w g e size cap n xs)
    (ad : Addr) (m c : Nat) (news : List Value) (hx : a.eval x = .slice (some ad) m c) (hl : news.length = m * size) (hnews : ∀ j u, news[j]? = some u → w.cell? (ad.add j) = some u) (h1 : ∀ u ∈ news, u.oneCell' = true)
    (hm : 0 < m) (h63 : n + m ≤ maxLen) (hbytes : (n + m) * bytes ≤ 140737488355328)
    (h : ∀ g' cap' w', Row w' g' e size cap' (n + m) (xs ++ news) → w.grownBy w' (some g) → (g' = g ∨ w.heap.size ≤ g') → g' < w'.heap.size → K (a.put o.dst (.slice (some ⟨g', 0, none⟩) (n + m) cap')) w') :
    if Region.wanted o (yielded ops a.tmps) = true then Oper.wp P o a w K Q else E := by
  have hw : Region.wanted o (yielded ops a.tmps) = true := by simp [Region.wanted, hgd]
  rw [if_pos hw]
  obtain ⟨g', cap', w', hr, h2, h3, h4, h5⟩ := run_append_row (P := P) (w := w) t o.type e i z size bytes ht hi hz hsize hby hzs hsz g cap n xs hr ad m c news hl hnews h1 hm h63 hbytes
  unfold Oper.wp execOp
  simp only [ho, resolve, invoke, builtin, Sem.run_bind, Sem.run_pure, Result.andThen_ok, List.map_toArray, List.map_cons, List.map_nil, hs, hx, hr]
  exact h g' cap' w' h2 h3 h4 h5
end Go.Cas
