/- plain (no program): a slice of the call's own, appended to one element at a time -/
import Derived.WalkKit
import Derived.Maps.AppendAt
import Derived.Laws.OwnMore
import Derived.Lib.Hide
import Derived.Deep.Draws
import Derived.Deep.QuietTactic
import Derived.BigQuiet
import Derived.Lib.OthersKept
import Derived.WalkSmall
namespace Go.Cas
set_option linter.unusedVariables false
set_option linter.unusedSimpArgs false
open Go.RowKit

/-- Two slice values have not one block. -/
def Sep (v u : Value) : Prop := ∀ k, v.ownBlock = some k → u.ownBlock ≠ some k
theorem Sep.symm {v u : Value} (h : Sep v u) : Sep u v := fun k hk e => h k e hk
theorem Sep.none_l (u : Value) : Sep (.slice none 0 0) u := fun k hk => by simp [Value.ownBlock] at hk
theorem Sep.none_r (u : Value) : Sep u (.slice none 0 0) := fun k _ => by simp [Value.ownBlock]

/-- What one append of one element leaves. -/
structure Pushed (w0 : World) (base : Nat) (e : TypeId) (size : Nat) (v : Value) (n : Nat) (xs ys : List Value) (v' : Value) (w' : World) : Prop where
  own : w'.ownsRow base e size v' (n + 1) (xs ++ ys)
  grown : w0.grownBy w' v.ownBlock
  at_ : v'.ownBlock = v.ownBlock ∨ ∃ k, w0.heap.size ≤ k ∧ v'.ownBlock = some k
  old : w0.ownsRow base e size v n xs

section
variable {w0 w' W : World} {base B : Nat} {e : TypeId} {size n : Nat} {v v' : Value} {xs ys : List Value}
theorem Pushed.below (h : Pushed w0 base e size v n xs ys v' w') (hb : Below B W w0) (hB : B ≤ base) (hs : B ≤ w0.heap.size) : Below B W w' :=
  hb.grown h.grown hs (fun k hk => Nat.le_trans hB (h.old.lt k hk).1)
theorem Pushed.size_ (h : Pushed w0 base e size v n xs ys v' w') : w0.heap.size ≤ w'.heap.size := h.grown.size
theorem Pushed.other {b2 : Nat} {e2 : TypeId} {s2 m : Nat} {u : Value} {us : List Value} (h : Pushed w0 base e size v n xs ys v' w') (ho : w0.ownsRow b2 e2 s2 u m us) (hs : Sep v u) : w'.ownsRow b2 e2 s2 u m us :=
  ho.kept h.grown (by
    rcases hu : u.ownBlock with _ | k
    · exact .inl rfl
    · exact .inr (fun he => hs k he.symm hu))
theorem Pushed.sep {b2 : Nat} {e2 : TypeId} {s2 m : Nat} {u : Value} {us : List Value} (h : Pushed w0 base e size v n xs ys v' w') (ho : w0.ownsRow b2 e2 s2 u m us) (hs : Sep v u) : Sep v' u := by
  intro k hk hu
  rcases h.at_ with he | ⟨j, hj, he⟩
  · exact hs k (he ▸ hk) hu
  · have := (ho.lt k hu).2
    rw [he] at hk; injection hk with hk; omega
end

theorem cells_new (w : World) (ys : List Value) (t : TypeId) : ∀ j u, ys[j]? = some u → (w.alloc (.cells ys.toArray t)).cell? ((⟨w.heap.size, 0, none⟩ : Addr).add j) = some u := by
  intro j u hj
  have e : (⟨w.heap.size, 0, none⟩ : Addr).add j = ⟨w.heap.size, j, none⟩ := by
    unfold Addr.add; split
    · rename_i h; subst h; rfl
    · simp
  rw [e, World.cell?_alloc_new]
  simpa using hj

/-- A slice value that reads as a list; its block lies below 'lim'. -/
def RdS (w : World) (lim size : Nat) (v : Value) (n : Nat) (xs : List Value) : Prop :=
  xs.length = n * size ∧ ∃ A c, v = .slice A n c ∧ n ≤ c ∧ (0 < n → ∃ g o, A = some ⟨g, o, none⟩ ∧ g < lim ∧ ∀ j u, xs[j]? = some u → w.cell? ⟨g, o + j, none⟩ = some u)
section
variable {w w' : World} {lim lim' size n : Nat} {v : Value} {xs : List Value}
theorem RdS.keep (h : RdS w lim size v n xs) (hk : ∀ g o, g < lim → w'.cell? ⟨g, o, none⟩ = w.cell? ⟨g, o, none⟩) : RdS w' lim size v n xs := by
  obtain ⟨h1, A, c, h2, h3, h4⟩ := h
  refine ⟨h1, A, c, h2, h3, fun hn => ?_⟩
  obtain ⟨g, o, e, hg, hc⟩ := h4 hn
  exact ⟨g, o, e, hg, fun j u hu => (hk _ _ hg).trans (hc j u hu)⟩
theorem RdS.below (h : RdS w lim size v n xs) (hb : Below lim w w') : RdS w' lim size v n xs := h.keep fun g o hg => hb.cell (p := ⟨g, o, none⟩) hg
theorem RdS.below' {B : Nat} (h : RdS w lim size v n xs) (hb : Below B w w') (hB : lim ≤ B) : RdS w' lim size v n xs := h.below (hb.mono hB)
theorem RdS.mono (h : RdS w lim size v n xs) (hl : lim ≤ lim') : RdS w lim' size v n xs := by
  obtain ⟨h1, A, c, h2, h3, h4⟩ := h
  refine ⟨h1, A, c, h2, h3, fun hn => ?_⟩
  obtain ⟨g, o, e, hg, hc⟩ := h4 hn
  exact ⟨g, o, e, by omega, hc⟩
theorem RdS.drewN (h : RdS w lim size v n xs) (k : Nat) : RdS (w.drewN k) lim size v n xs := h
theorem RdS.nil (w : World) (lim size : Nat) : RdS w lim size (.slice none 0 0) 0 [] := ⟨by simp, none, 0, rfl, by omega, fun h => by omega⟩
theorem RdS.of_own {base : Nat} {e : TypeId} (h : w.ownsRow base e size v n xs) : RdS w w.heap.size size v n xs := by
  refine ⟨h.1, ?_⟩
  rcases h.2 with ⟨rfl, rfl⟩ | ⟨g, cap, cur, rfl, hb, hh, hn, hm, hcs, hx⟩
  · exact ⟨none, 0, rfl, by omega, fun h => by omega⟩
  · refine ⟨_, _, rfl, hn, fun _ => ⟨g, 0, rfl, (Array.getElem?_eq_some_iff.1 hh).1, fun j u hu => ?_⟩⟩
    have := h.cells (g := g) rfl j u hu
    have e : (⟨g, 0, none⟩ : Addr).add j = ⟨g, 0 + j, none⟩ := by
      unfold Addr.add; split
      · rename_i h; subst h; rfl
      · simp
    rw [← e]; exact this
end

section
variable {P : Program}
theorem wp_push {w1 : World} {ops : Array Oper} {rest : List Oper} {o : Oper} {a : Act} {Q : Exit → Act → World → Prop} (hgd : o.guard = none) (s x : Operand) (t : TypeId)
    (ho : o.op = .call { callee := .builtin .append, args := #[s, x], argTypes := #[t, t] })
    (base : Nat) (e : TypeId) {z : Value} {size bytes : Nat} (ht : P.underlying t = some (.slice e)) (inf : (P.info? e).map (fun i => (i.zero, i.size, i.bytes)) = some (some z, size, bytes))
    (hzs : z.cells.size = size) (hsz : 0 < size) (w0 : World)
    (v : Value) (n : Nat) (xs ys : List Value) (hw : w1 = w0.alloc (.cells ys.toArray e)) (hs : a.eval s = v) (hx : a.eval x = .slice (some ⟨w0.heap.size, 0, none⟩) 1 1)
    (hown : w0.ownsRow base e size v n xs) (hl : ys.length = size) (h1 : ∀ u ∈ ys, u.oneCell' = true)
    (hbytes : (n + 1) * bytes ≤ 140737488355328) (h63 : n + 1 ≤ 140737488355328) (hbase : base ≤ w0.heap.size)
    (h : ∀ v' w', Pushed w0 base e size v n xs ys v' w' → wpList P ops Q rest (a.put o.dst v') w') :
    wpList P ops Q (o :: rest) a w1 := by
  subst hw
  obtain ⟨i, hi, hz, h3, h4⟩ := info_parts inf
  refine wpList_append_own_at _ hgd s x t ho base e i z size bytes ht hi hz h3 h4 hzs hsz v n xs hs (hown.alloc _) ⟨w0.heap.size, 0, none⟩ 1 1 ys hx (by rw [Nat.one_mul]; exact hl) (cells_new _ _ _) h1 (by unfold maxLen; omega) hbytes (by simp; omega) ?_
  intro v' w' g1 g2 _ g4
  refine h v' w' ⟨g1, (World.grownBy_alloc _ _ _).trans g2, ?_, hown⟩
  rcases g4 with g4 | g4
  · exact .inl g4
  · exact .inr ⟨_, by simp, g4⟩
end
/-- A block that is known whole, none of it frozen. -/
def Bk (w : World) (g : Nat) (t : TypeId) (cs : Array Value) : Prop := w.heap[g]? = some (.cells cs t (0, 0))
section
variable {w w' : World} {g : Nat} {t : TypeId} {cs : Array Value}
theorem Bk.lt (h : Bk w g t cs) : g < w.heap.size := (Array.getElem?_eq_some_iff.1 h).1
theorem Bk.cell (h : Bk w g t cs) (i : Nat) : w.cell? ⟨g, i, none⟩ = cs[i]? := cell_of_row w g i cs t (0, 0) h
theorem Bk.free (h : Bk w g t cs) (i : Nat) : w.frozen? ⟨g, i, none⟩ = false := by
  unfold Bk at h
  simp [World.frozen?, h]
theorem Bk.new (w : World) (t : TypeId) (cs : Array Value) : Bk (w.alloc (.cells cs t)) w.heap.size t cs := heap_alloc_new w _
theorem Bk.drewN (h : Bk w g t cs) (n : Nat) : Bk (w.drewN n) g t cs := h
theorem Bk.alloc (h : Bk w g t cs) (o : Obj) : Bk (w.alloc o) g t cs := (Below.heap_alloc w o g h.lt).trans h
theorem Bk.set_ (h : Bk w g t cs) (i : Nat) (u : Value) : Bk (w.setCell ⟨g, i, none⟩ u) g t (cs.setIfInBounds i u) := by
  unfold Bk at h ⊢
  simp [World.setCell, Array.getElem?_modify, h]
theorem Bk.far (h : Bk w g t cs) {p : Addr} (hp : g ≠ p.block) (u : Value) : Bk (w.setCell p u) g t cs := (Below.heap_setCell w p u g hp).trans h
theorem Bk.below {B : Nat} (h : Bk w g t cs) (hb : Below B w w') (hg : g < B) : Bk w' g t cs := (hb.block g hg).trans h
theorem Bk.grown {row : Option Nat} (h : Bk w g t cs) (hb : w.grownBy w' row) (hg : some g ≠ row) : Bk w' g t cs := (hb.block g h.lt hg).trans h
theorem Bk.iterAt (h : Bk w g t cs) {k : Nat} (hk : g ≠ k) (s : ByteArray) (p : Nat) : Bk (w.iterAt k s p) g t cs := (Lib.iterAt_other w k g s p hk).trans h
theorem Pushed.heap {w0 w' : World} {base n size : Nat} {e : TypeId} {v v' : Value} {xs ys : List Value} (h : Pushed w0 base e size v n xs ys v' w') {k : Nat} {o : Obj} (hk : w0.heap[k]? = some o) (hb : k < base) : w'.heap[k]? = some o := by
  have hlt : k < w0.heap.size := (Array.getElem?_eq_some_iff.1 hk).1
  exact (h.grown.block k hlt (fun e => by have := (h.old.lt k e.symm).1; omega)).trans hk
theorem Pushed.bk {w0 w' : World} {base n size : Nat} {e t : TypeId} {v v' : Value} {xs ys : List Value} {g : Nat} {cs : Array Value} (h : Pushed w0 base e size v n xs ys v' w') (hk : Bk w0 g t cs) (hb : g < base) : Bk w' g t cs := h.heap hk hb
end

theorem bl_alloc {w w' : World} (h : Below w.heap.size w w') (o : Obj) : Below w.heap.size w (w'.alloc o) := h.alloc h.size o
theorem bl_drewN {w w' : World} (h : Below w.heap.size w w') (n : Nat) : Below w.heap.size w (w'.drewN n) := ⟨h.os, h.tape, h.output, h.size, h.block⟩
theorem bl_drew {w w' : World} (h : Below w.heap.size w w') : Below w.heap.size w w'.drew := ⟨h.os, h.tape, h.output, h.size, h.block⟩
theorem bl_set {w w' : World} (h : Below w.heap.size w w') (b o : Nat) (hb : w.heap.size ≤ b) (u : Value) : Below w.heap.size w (w'.setCell ⟨b, o, none⟩ u) := h.setCell (p := ⟨b, o, none⟩) hb u
theorem bl_trans {w w1 w2 : World} (h : Below w.heap.size w w1) (k : Below w1.heap.size w1 w2) : Below w.heap.size w w2 := h.trans (k.mono h.size)

/-- Contracts that leave the world alone, at a call inside a region that draws. -/
theorem q_left {P : Program} {f : FuncId} {args : Array Value} {w : World} {n : Nat} {v : Value}
    (h : Calls P f args (w.drewN n) fun e w' => e = .returned v ∧ w.drewN n = w') : Calls P f args (w.drewN n) fun e w'' => e = .returned v ∧ ∃ m, w'' = w.drewN m :=
  h.mono fun _ _ ⟨he, hm⟩ => ⟨he, n, hm.symm⟩
theorem q_add {P : Program} {f : FuncId} {args : Array Value} {w : World} {a n : Nat} {v : Value}
    (h : Calls P f args (w.drewN (a + n)) fun e w' => e = .returned v ∧ w.drewN (a + n) = w') :
    Calls P f args (w.drewN (a + n)) fun e w'' => e = .returned v ∧ ∃ m, w'' = w.drewN (a + m) :=
  h.mono fun _ _ ⟨he, hm⟩ => ⟨he, n, hm.symm⟩
theorem belowN {B : Nat} {a w : World} (h : Below B a w) (n : Nat) : Below B a (w.drewN n) := ⟨h.os, h.tape, h.output, h.size, h.block⟩
end Go.Cas
