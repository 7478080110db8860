/- plain (no program): a slice of the call's own, appended to one element at a time; plain (no program): what a call leaves of the memory that was there; plain (no program): more of what an append leaves; plain (no program): append to a slice whose capacity may be less than its block's; plain (no program): append of a list that came in, nil or not; plain (no program): parts of a slice; plain (no program): a struct's fields out of its reading; plain (no program): a slice of structs out of its reading; plain (no program): a slice in a struct out of its reading; plain (no program): a slice of structs out of its reading, weighed -/
import Derived.WalkKit
import Derived.Maps.AppendAt
import Derived.Laws.OwnMore
import Derived.Lib.Hide
import Derived.Deep.Draws
import Derived.Deep.QuietTactic
import Derived.BigQuiet
import Derived.Lib.OthersKept
import Derived.WalkSmall
import Derived.Deep.AppendLies
import Derived.Deep.RegionHeld3
import Derived.ArgAppend
import Derived.Laws.Slices
import Derived.ProofKit
import Derived.Deep.Fields
import Derived.Lib.SmallJoins
import Derived.ChangeSlices
namespace Go.Cas
set_option linter.unusedVariables false
set_option linter.unusedSimpArgs false
open Go.RowKit

/-- Two slice values have not one block. -/
def Sep (v u : Value) : Prop := ∀ k, v.ownBlock = some k → u.ownBlock ≠ some k
theorem Sep.symm {v u : Value} (h : Sep v u) : Sep u v := fun k hk e => h k e hk
theorem Sep.none_l (u : Value) : Sep (.slice none 0 0) u := fun k hk => by simp [Value.ownBlock] at hk
theorem Sep.none_r (u : Value) : Sep u (.slice none 0 0) := fun k _ => by simp [Value.ownBlock]

/-- What one append of one element leaves. -/
structure Pushed (w0 : World) (base : Nat) (e : TypeId) (size : Nat) (v : Value) (n : Nat) (xs ys : List Value) (v' : Value) (w' : World) : Prop where
  own : w'.ownsRow base e size v' (n + 1) (xs ++ ys)
  grown : w0.grownBy w' v.ownBlock
  at_ : v'.ownBlock = v.ownBlock ∨ ∃ k, w0.heap.size ≤ k ∧ v'.ownBlock = some k
  old : w0.ownsRow base e size v n xs

section
variable {w0 w' W : World} {base B : Nat} {e : TypeId} {size n : Nat} {v v' : Value} {xs ys : List Value}
theorem Pushed.below (h : Pushed w0 base e size v n xs ys v' w') (hb : Below B W w0) (hB : B ≤ base) (hs : B ≤ w0.heap.size) : Below B W w' :=
  hb.grown h.grown hs (fun k hk => Nat.le_trans hB (h.old.lt k hk).1)
theorem Pushed.size_ (h : Pushed w0 base e size v n xs ys v' w') : w0.heap.size ≤ w'.heap.size := h.grown.size
theorem Pushed.other {b2 : Nat} {e2 : TypeId} {s2 m : Nat} {u : Value} {us : List Value} (h : Pushed w0 base e size v n xs ys v' w') (ho : w0.ownsRow b2 e2 s2 u m us) (hs : Sep v u) : w'.ownsRow b2 e2 s2 u m us :=
  ho.kept h.grown (by
    rcases hu : u.ownBlock with _ | k
    · exact .inl rfl
    · exact .inr (fun he => hs k he.symm hu))
theorem Pushed.sep {b2 : Nat} {e2 : TypeId} {s2 m : Nat} {u : Value} {us : List Value} (h : Pushed w0 base e size v n xs ys v' w') (ho : w0.ownsRow b2 e2 s2 u m us) (hs : Sep v u) : Sep v' u := by
  intro k hk hu
  rcases h.at_ with he | ⟨j, hj, he⟩
  · exact hs k (he ▸ hk) hu
  · have := (ho.lt k hu).2
    rw [he] at hk; injection hk with hk; omega
end

theorem cells_new (w : World) (ys : List Value) (t : TypeId) : ∀ j u, ys[j]? = some u → (w.alloc (.cells ys.toArray t)).cell? ((⟨w.heap.size, 0, none⟩ : Addr).add j) = some u := by
  intro j u hj
  have e : (⟨w.heap.size, 0, none⟩ : Addr).add j = ⟨w.heap.size, j, none⟩ := by
    unfold Addr.add; split
    · rename_i h; subst h; rfl
    · simp
  rw [e, World.cell?_alloc_new]
  simpa using hj

/-- A slice value that reads as a list; its block lies below 'lim'. -/
def RdS (w : World) (lim size : Nat) (v : Value) (n : Nat) (xs : List Value) : Prop :=
  xs.length = n * size ∧ ∃ A c, v = .slice A n c ∧ n ≤ c ∧ (0 < n → ∃ g o, A = some ⟨g, o, none⟩ ∧ g < lim ∧ ∀ j u, xs[j]? = some u → w.cell? ⟨g, o + j, none⟩ = some u)
section
variable {w w' : World} {lim lim' size n : Nat} {v : Value} {xs : List Value}
theorem RdS.keep (h : RdS w lim size v n xs) (hk : ∀ g o, g < lim → w'.cell? ⟨g, o, none⟩ = w.cell? ⟨g, o, none⟩) : RdS w' lim size v n xs := by
  obtain ⟨h1, A, c, h2, h3, h4⟩ := h
  refine ⟨h1, A, c, h2, h3, fun hn => ?_⟩
  obtain ⟨g, o, e, hg, hc⟩ := h4 hn
  exact ⟨g, o, e, hg, fun j u hu => (hk _ _ hg).trans (hc j u hu)⟩
theorem RdS.below (h : RdS w lim size v n xs) (hb : Below lim w w') : RdS w' lim size v n xs := h.keep fun g o hg => hb.cell (p := ⟨g, o, none⟩) hg
theorem RdS.below' {B : Nat} (h : RdS w lim size v n xs) (hb : Below B w w') (hB : lim ≤ B) : RdS w' lim size v n xs := h.below (hb.mono hB)
theorem RdS.mono (h : RdS w lim size v n xs) (hl : lim ≤ lim') : RdS w lim' size v n xs := by
  obtain ⟨h1, A, c, h2, h3, h4⟩ := h
  refine ⟨h1, A, c, h2, h3, fun hn => ?_⟩
  obtain ⟨g, o, e, hg, hc⟩ := h4 hn
  exact ⟨g, o, e, by omega, hc⟩
theorem RdS.drewN (h : RdS w lim size v n xs) (k : Nat) : RdS (w.drewN k) lim size v n xs := h
theorem RdS.nil (w : World) (lim size : Nat) : RdS w lim size (.slice none 0 0) 0 [] := ⟨by simp, none, 0, rfl, by omega, fun h => by omega⟩
theorem RdS.of_own {base : Nat} {e : TypeId} (h : w.ownsRow base e size v n xs) : RdS w w.heap.size size v n xs := by
  refine ⟨h.1, ?_⟩
  rcases h.2 with ⟨rfl, rfl⟩ | ⟨g, cap, cur, rfl, hb, hh, hn, hm, hcs, hx⟩
  · exact ⟨none, 0, rfl, by omega, fun h => by omega⟩
  · refine ⟨_, _, rfl, hn, fun _ => ⟨g, 0, rfl, (Array.getElem?_eq_some_iff.1 hh).1, fun j u hu => ?_⟩⟩
    have := h.cells (g := g) rfl j u hu
    have e : (⟨g, 0, none⟩ : Addr).add j = ⟨g, 0 + j, none⟩ := by
      unfold Addr.add; split
      · rename_i h; subst h; rfl
      · simp
    rw [← e]; exact this
end

section
variable {P : Program}
theorem wp_push {w1 : World} {ops : Array Oper} {rest : List Oper} {o : Oper} {a : Act} {Q : Exit → Act → World → Prop} (hgd : o.guard = none) (s x : Operand) (t : TypeId)
    (ho : o.op = .call { callee := .builtin .append, args := #[s, x], argTypes := #[t, t] })
    (base : Nat) (e : TypeId) {z : Value} {size bytes : Nat} (ht : P.underlying t = some (.slice e)) (inf : (P.info? e).map (fun i => (i.zero, i.size, i.bytes)) = some (some z, size, bytes))
    (hzs : z.cells.size = size) (hsz : 0 < size) (w0 : World)
    (v : Value) (n : Nat) (xs ys : List Value) (hw : w1 = w0.alloc (.cells ys.toArray e)) (hs : a.eval s = v) (hx : a.eval x = .slice (some ⟨w0.heap.size, 0, none⟩) 1 1)
    (hown : w0.ownsRow base e size v n xs) (hl : ys.length = size) (h1 : ∀ u ∈ ys, u.oneCell' = true)
    (hbytes : (n + 1) * bytes ≤ 140737488355328) (h63 : n + 1 ≤ 140737488355328) (hbase : base ≤ w0.heap.size)
    (h : ∀ v' w', Pushed w0 base e size v n xs ys v' w' → wpList P ops Q rest (a.put o.dst v') w') :
    wpList P ops Q (o :: rest) a w1 := by
  subst hw
  obtain ⟨i, hi, hz, h3, h4⟩ := info_parts inf
  refine wpList_append_own_at _ hgd s x t ho base e i z size bytes ht hi hz h3 h4 hzs hsz v n xs hs (hown.alloc _) ⟨w0.heap.size, 0, none⟩ 1 1 ys hx (by rw [Nat.one_mul]; exact hl) (cells_new _ _ _) h1 (by unfold maxLen; omega) hbytes (by simp; omega) ?_
  intro v' w' g1 g2 _ g4
  refine h v' w' ⟨g1, (World.grownBy_alloc _ _ _).trans g2, ?_, hown⟩
  rcases g4 with g4 | g4
  · exact .inl g4
  · exact .inr ⟨_, by simp, g4⟩
end
/-- A block that is known whole, none of it frozen. -/
def Bk (w : World) (g : Nat) (t : TypeId) (cs : Array Value) : Prop := w.heap[g]? = some (.cells cs t (0, 0))
section
variable {w w' : World} {g : Nat} {t : TypeId} {cs : Array Value}
theorem Bk.lt (h : Bk w g t cs) : g < w.heap.size := (Array.getElem?_eq_some_iff.1 h).1
theorem Bk.cell (h : Bk w g t cs) (i : Nat) : w.cell? ⟨g, i, none⟩ = cs[i]? := cell_of_row w g i cs t (0, 0) h
theorem Bk.free (h : Bk w g t cs) (i : Nat) : w.frozen? ⟨g, i, none⟩ = false := by
  unfold Bk at h
  simp [World.frozen?, h]
theorem Bk.new (w : World) (t : TypeId) (cs : Array Value) : Bk (w.alloc (.cells cs t)) w.heap.size t cs := heap_alloc_new w _
theorem Bk.drewN (h : Bk w g t cs) (n : Nat) : Bk (w.drewN n) g t cs := h
theorem Bk.alloc (h : Bk w g t cs) (o : Obj) : Bk (w.alloc o) g t cs := (Below.heap_alloc w o g h.lt).trans h
theorem Bk.set_ (h : Bk w g t cs) (i : Nat) (u : Value) : Bk (w.setCell ⟨g, i, none⟩ u) g t (cs.setIfInBounds i u) := by
  unfold Bk at h ⊢
  simp [World.setCell, Array.getElem?_modify, h]
theorem Bk.far (h : Bk w g t cs) {p : Addr} (hp : g ≠ p.block) (u : Value) : Bk (w.setCell p u) g t cs := (Below.heap_setCell w p u g hp).trans h
theorem Bk.below {B : Nat} (h : Bk w g t cs) (hb : Below B w w') (hg : g < B) : Bk w' g t cs := (hb.block g hg).trans h
theorem Bk.grown {row : Option Nat} (h : Bk w g t cs) (hb : w.grownBy w' row) (hg : some g ≠ row) : Bk w' g t cs := (hb.block g h.lt hg).trans h
theorem Bk.iterAt (h : Bk w g t cs) {k : Nat} (hk : g ≠ k) (s : ByteArray) (p : Nat) : Bk (w.iterAt k s p) g t cs := (Lib.iterAt_other w k g s p hk).trans h
theorem Pushed.heap {w0 w' : World} {base n size : Nat} {e : TypeId} {v v' : Value} {xs ys : List Value} (h : Pushed w0 base e size v n xs ys v' w') {k : Nat} {o : Obj} (hk : w0.heap[k]? = some o) (hb : k < base) : w'.heap[k]? = some o := by
  have hlt : k < w0.heap.size := (Array.getElem?_eq_some_iff.1 hk).1
  exact (h.grown.block k hlt (fun e => by have := (h.old.lt k e.symm).1; omega)).trans hk
theorem Pushed.bk {w0 w' : World} {base n size : Nat} {e t : TypeId} {v v' : Value} {xs ys : List Value} {g : Nat} {cs : Array Value} (h : Pushed w0 base e size v n xs ys v' w') (hk : Bk w0 g t cs) (hb : g < base) : Bk w' g t cs := h.heap hk hb
end

theorem bl_alloc {w w' : World} (h : Below w.heap.size w w') (o : Obj) : Below w.heap.size w (w'.alloc o) := h.alloc h.size o
theorem bl_drewN {w w' : World} (h : Below w.heap.size w w') (n : Nat) : Below w.heap.size w (w'.drewN n) := ⟨h.os, h.tape, h.output, h.size, h.block⟩
theorem bl_drew {w w' : World} (h : Below w.heap.size w w') : Below w.heap.size w w'.drew := ⟨h.os, h.tape, h.output, h.size, h.block⟩
theorem bl_set {w w' : World} (h : Below w.heap.size w w') (b o : Nat) (hb : w.heap.size ≤ b) (u : Value) : Below w.heap.size w (w'.setCell ⟨b, o, none⟩ u) := h.setCell (p := ⟨b, o, none⟩) hb u
theorem bl_trans {w w1 w2 : World} (h : Below w.heap.size w w1) (k : Below w1.heap.size w1 w2) : Below w.heap.size w w2 := h.trans (k.mono h.size)

/-- Contracts that leave the world alone, at a call inside a region that draws. -/
theorem q_left {P : Program} {f : FuncId} {args : Array Value} {w : World} {n : Nat} {v : Value}
    (h : Calls P f args (w.drewN n) fun e w' => e = .returned v ∧ w.drewN n = w') : Calls P f args (w.drewN n) fun e w'' => e = .returned v ∧ ∃ m, w'' = w.drewN m :=
  h.mono fun _ _ ⟨he, hm⟩ => ⟨he, n, hm.symm⟩
theorem q_add {P : Program} {f : FuncId} {args : Array Value} {w : World} {a n : Nat} {v : Value}
    (h : Calls P f args (w.drewN (a + n)) fun e w' => e = .returned v ∧ w.drewN (a + n) = w') :
    Calls P f args (w.drewN (a + n)) fun e w'' => e = .returned v ∧ ∃ m, w'' = w.drewN (a + m) :=
  h.mono fun _ _ ⟨he, hm⟩ => ⟨he, n, hm.symm⟩
theorem belowN {B : Nat} {a w : World} (h : Below B a w) (n : Nat) : Below B a (w.drewN n) := ⟨h.os, h.tape, h.output, h.size, h.block⟩
end Go.Cas
namespace Go.Cas
set_option linter.unusedVariables false
set_option linter.unusedSimpArgs false
open Go.RowKit

/-- All blocks are as they were, but those of which 'ex' holds. -/
structure Kept (w w' : World) (ex : Nat → Prop) : Prop where
  os : w'.os = w.os
  tape : w'.tape = w.tape
  output : w'.output = w.output
  size : w.heap.size ≤ w'.heap.size
  block : ∀ k, k < w.heap.size → ¬ ex k → w'.heap[k]? = w.heap[k]?
section
variable {w w' w2 : World} {ex ex2 : Nat → Prop}
theorem Kept.refl (w : World) (ex : Nat → Prop) : Kept w w ex := ⟨rfl, rfl, rfl, Nat.le_refl _, fun _ _ _ => rfl⟩
theorem Kept.below {B : Nat} (h : Kept w w' ex) (hB : ∀ k, k < B → k < w.heap.size ∧ ¬ ex k) : Below B w w' := ⟨h.os, h.tape, h.output, h.size, fun k hk => h.block k (hB k hk).1 (hB k hk).2⟩
theorem Kept.of_below (h : Below w.heap.size w w') (ex : Nat → Prop) : Kept w w' ex := ⟨h.os, h.tape, h.output, h.size, fun k hk _ => h.block k hk⟩
theorem Kept.mono (h : Kept w w' ex) (hm : ∀ k, k < w.heap.size → ex k → ex2 k) : Kept w w' ex2 := ⟨h.os, h.tape, h.output, h.size, fun k hk hn => h.block k hk (fun he => hn (hm k hk he))⟩
theorem Kept.trans (h : Kept w w' ex) (h2 : Kept w' w2 ex) : Kept w w2 ex :=
  ⟨h2.os.trans h.os, h2.tape.trans h.tape, h2.output.trans h.output, Nat.le_trans h.size h2.size, fun k hk hn => (h2.block k (Nat.lt_of_lt_of_le hk h.size) hn).trans (h.block k hk hn)⟩
/-- one step more, whose own exceptions are new blocks or among the old ones -/
theorem Kept.then_ {ex3 : Nat → Prop} (h : Kept w w' ex) (h2 : Kept w' w2 ex3) (hm : ∀ k, k < w.heap.size → ex3 k → ex k) : Kept w w2 ex :=
  ⟨h2.os.trans h.os, h2.tape.trans h.tape, h2.output.trans h.output, Nat.le_trans h.size h2.size, fun k hk hn => (h2.block k (Nat.lt_of_lt_of_le hk h.size) (fun he => hn (hm k hk he))).trans (h.block k hk hn)⟩
theorem Kept.grown {row : Option Nat} (h : w.grownBy w' row) (ex : Nat → Prop) (hr : ∀ k, row = some k → ex k) : Kept w w' ex := ⟨h.os, h.tape, h.output, h.size, fun k hk hn => h.block k hk (fun e => hn (hr k e.symm))⟩
theorem Kept.alloc (h : Kept w w' ex) (o : Obj) : Kept w (w'.alloc o) ex := h.then_ (Kept.of_below ((Below.refl _ _).alloc (Nat.le_refl _) o) ex) (fun _ _ e => e)
theorem Kept.drewN (h : Kept w w' ex) (n : Nat) : Kept w (w'.drewN n) ex := ⟨h.os, h.tape, h.output, h.size, h.block⟩
theorem Kept.drew (h : Kept w w' ex) : Kept w w'.drew ex := ⟨h.os, h.tape, h.output, h.size, h.block⟩
theorem Kept.set_ (h : Kept w w' ex) (b o : Nat) (hb : b < w.heap.size → ex b) (u : Value) : Kept w (w'.setCell ⟨b, o, none⟩ u) ex := by
  refine ⟨h.os, h.tape, h.output, ?_, fun k hk hn => ?_⟩
  · have := h.size; simpa [World.setCell] using this
  · have hne : k ≠ b := fun e => hn (by subst e; exact hb hk)
    rw [← h.block k hk hn]
    exact Below.heap_setCell w' ⟨b, o, none⟩ u k hne
theorem Kept.bk {g : Nat} {t : TypeId} {cs : Array Value} (h : Kept w w' ex) (hb : Bk w g t cs) (hn : ¬ ex g) : Bk w' g t cs := (h.block g hb.lt hn).trans hb
theorem Kept.own {base n size : Nat} {e : TypeId} {v : Value} {xs : List Value} (h : Kept w w' ex) (ho : w.ownsRow base e size v n xs) (hn : ∀ k, v.ownBlock = some k → ¬ ex k) : w'.ownsRow base e size v n xs := by
  refine ⟨ho.1, ?_⟩
  rcases ho.2 with h1 | ⟨g, cap, cur, rfl, hb, hgg, rest⟩
  · exact .inl h1
  · exact .inr ⟨g, cap, cur, rfl, hb, (h.block g (Array.getElem?_eq_some_iff.1 hgg).1 (hn g rfl)).trans hgg, rest⟩
theorem Kept.rd {lim size n : Nat} {v : Value} {xs : List Value} (h : Kept w w' ex) (hr : RdS w lim size v n xs) (hl : lim ≤ w.heap.size) (hn : ∀ k, k < lim → ¬ ex k) : RdS w' lim size v n xs :=
  hr.below (h.below fun k hk => ⟨by omega, hn k hk⟩)
theorem own_lt {base n size : Nat} {e : TypeId} {v : Value} {xs : List Value} (ho : w.ownsRow base e size v n xs) {k : Nat} (hk : v.ownBlock = some k) : base ≤ k ∧ k < w.heap.size := ho.lt k hk
end
theorem Bk.drew {w : World} {g : Nat} {t : TypeId} {cs : Array Value} (h : Bk w g t cs) : Bk w.drew g t cs := h
theorem bk_new' (w : World) (t : TypeId) (cs : Array Value) {g : Nat} (hg : g = w.heap.size) : Bk (w.alloc (.cells cs t)) g t cs := by subst hg; exact Bk.new _ _ _
end Go.Cas
namespace Go.Cas
set_option linter.unusedVariables false
set_option linter.unusedSimpArgs false
open Go.RowKit
theorem Pushed.form {w0 w' : World} {base n size : Nat} {e : TypeId} {v v' : Value} {xs ys : List Value} (h : Pushed w0 base e size v n xs ys v' w') : ∃ g c, v' = .slice (some ⟨g, 0, none⟩) (n + 1) c ∧ base ≤ g ∧ g < w'.heap.size := by
  obtain ⟨g, cap, e, _, hg⟩ := h.own.form (by omega)
  exact ⟨g, cap, e, (own_lt h.own (k := g) (by rw [e]; rfl)).1, hg⟩
theorem Pushed.cellR {w0 w' : World} {base n size : Nat} {e : TypeId} {v v' : Value} {xs ys : List Value} (h : Pushed w0 base e size v n xs ys v' w') {k : Nat} (hk : k < w0.heap.size) (hn : v.ownBlock ≠ some k) (o : Nat) : w'.cell? ⟨k, o, none⟩ = w0.cell? ⟨k, o, none⟩ ∧ w'.frozen? ⟨k, o, none⟩ = w0.frozen? ⟨k, o, none⟩ :=
  ⟨h.grown.cell_far ⟨k, o, none⟩ hk (fun e => hn e.symm), h.grown.frozen_far ⟨k, o, none⟩ hk (fun e => hn e.symm)⟩
theorem own_keep {w w' : World} {base n size : Nat} {e : TypeId} {v : Value} {xs : List Value} (ho : w.ownsRow base e size v n xs) (hk : ∀ k, v.ownBlock = some k → w'.heap[k]? = w.heap[k]?) : w'.ownsRow base e size v n xs := by
  refine ⟨ho.1, ?_⟩
  rcases ho.2 with h1 | ⟨g, cap, cur, rfl, hb, hgg, rest⟩
  · exact .inl h1
  · exact .inr ⟨g, cap, cur, rfl, hb, (hk g rfl).trans hgg, rest⟩
theorem own_less {w : World} {base n c g size : Nat} {e : TypeId} {xs ys : List Value} (h : w.ownsRow base e size (.slice (some ⟨g, 0, none⟩) (n + 1) c) (n + 1) (xs ++ ys)) (hx : xs.length = n * size) : w.ownsRow base e size (.slice (some ⟨g, 0, none⟩) n c) n xs := by
  rcases h.2 with ⟨h1, _⟩ | ⟨g', cap, cur, e1, hb, hh, hn, hm, hc, ht⟩
  · cases h1
  · injection e1 with e1 _ e2
    injection e1 with e1
    injection e1 with e1
    subst e1 e2
    refine ⟨hx, .inr ⟨g, c, cur, rfl, hb, hh, by omega, hm, hc, ?_⟩⟩
    have := congrArg (List.take (n * size)) ht
    rw [List.take_take, Nat.min_eq_left (by rw [Nat.succ_mul]; omega), List.take_append_of_le_length (Nat.le_of_eq hx.symm)] at this
    exact this.trans (List.take_of_length_le (Nat.le_of_eq hx))
theorem own_setN {w : World} {base n m cap g size : Nat} {e : TypeId} {xs : List Value} (h : w.ownsRow base e size (.slice (some ⟨g, 0, none⟩) n cap) m xs) (i : Nat) (u : Value) : (w.setCell ⟨g, i, none⟩ u).ownsRow base e size (.slice (some ⟨g, 0, none⟩) n cap) m (xs.set i u) := by
  obtain ⟨h1, h2⟩ := h
  refine ⟨by simpa using h1, ?_⟩
  rcases h2 with ⟨h3, _⟩ | ⟨g', cap', cur, h3, h4, h5, h6, h7, h8, h9⟩
  · cases h3
  · injection h3 with e1 e2 e3
    injection e1 with e1
    injection e1 with e1
    subst e1 e2 e3
    refine .inr ⟨g, cap, cur.setIfInBounds i u, rfl, h4, Bk.set_ h5 i u, h6, h7, by simpa using h8, ?_⟩
    rw [Array.toList_setIfInBounds, List.take_set, h9]
theorem own_free {w : World} {base n m cap g size : Nat} {e : TypeId} {xs : List Value} (h : w.ownsRow base e size (.slice (some ⟨g, 0, none⟩) n cap) m xs) (i : Nat) : w.frozen? ⟨g, i, none⟩ = false := by
  rcases h.2 with ⟨h3, _⟩ | ⟨g', cap', cur, h3, h4, h5, _⟩
  · cases h3
  · injection h3 with e1 e2 e3
    injection e1 with e1
    injection e1 with e1
    subst e1
    exact Bk.free h5 i
end Go.Cas
namespace Go.Cas
set_option linter.unusedVariables false
set_option linter.unusedSimpArgs false
open Go.RowKit

/-- a slice from a block's head on -/
def Row (w : World) (g : Nat) (e : TypeId) (size cap n : Nat) (xs : List Value) : Prop :=
  ∃ cur : Array Value, w.heap[g]? = some (.cells cur e (0, 0)) ∧ cap * size ≤ cur.size ∧ cur.toList.take (n * size) = xs ∧ n ≤ cap ∧ cap ≤ maxLen ∧ xs.length = n * size
theorem Row.at_ {w w' : World} {g : Nat} {e : TypeId} {size cap n : Nat} {xs : List Value} (h : Row w g e size cap n xs) (hk : w'.heap[g]? = w.heap[g]?) : Row w' g e size cap n xs := by
  obtain ⟨cur, h1, h2⟩ := h
  exact ⟨cur, hk.trans h1, h2⟩
theorem heap_setRow (w : World) (g : Nat) (c : Array Value) (k : Nat) (hk : k ≠ g) : (w.setRow g c).heap[k]? = w.heap[k]? := by
  unfold World.setRow
  simp [Array.getElem?_modify, Ne.symm hk]
theorem heap_setRow_self (w : World) (g : Nat) (c cur : Array Value) (e : TypeId) (fr : Nat × Nat) (h : w.heap[g]? = some (.cells cur e fr)) : (w.setRow g c).heap[g]? = some (.cells c e fr) := by
  unfold World.setRow
  simp [Array.getElem?_modify, h]
theorem run_append_row {P : Program} {w : World} (t ty e : TypeId) (i : TypeInfo) (z : Value) (size bytes : Nat) (ht : P.underlying t = some (.slice e)) (hi : P.info? e = some i) (hz : i.zero = some z)
    (hsize : i.size = size) (hby : i.bytes = bytes) (hzs : z.cells.size = size) (hsz : 0 < size)
    (g cap n : Nat) (xs : List Value) (hr : Row w g e size cap n xs)
    (ad : Addr) (m c : Nat) (news : List Value) (hl : news.length = m * size) (hnews : ∀ j u, news[j]? = some u → w.cell? (ad.add j) = some u) (h1 : ∀ u ∈ news, u.oneCell' = true)
    (hm : 0 < m) (h63 : n + m ≤ maxLen) (hbytes : (n + m) * bytes ≤ 140737488355328) :
    ∃ g' cap' w', (Builtin.append_ #[t, t] ty #[.slice (some ⟨g, 0, none⟩) n cap, .slice (some ad) m c]).run P w = .ok (.slice (some ⟨g', 0, none⟩) (n + m) cap') w' ∧
      Row w' g' e size cap' (n + m) (xs ++ news) ∧ w.grownBy w' (some g) ∧ (g' = g ∨ w.heap.size ≤ g') ∧ g' < w'.heap.size := by
  obtain ⟨cur, q1, q2, q3, q4, q5, q6⟩ := hr
  have hgl : g < w.heap.size := (Array.getElem?_eq_some_iff.1 q1).1
  have hnl : n * size ≤ cur.size := Nat.le_trans (Nat.mul_le_mul_right _ q4) q2
  by_cases hroom : n + m ≤ cap
  · have hfit : n * size + news.length ≤ cur.size := by rw [hl, ← Nat.add_mul]; exact Nat.le_trans (Nat.mul_le_mul_right _ hroom) q2
    subst hsize
    have := run_append_room (P := P) w t ty e i ht hi g n cap cur q1 ad m c news hl hnews h1 hroom hfit
    refine ⟨g, cap, _, this, ⟨_, heap_setRow_self w g _ cur e (0, 0) q1, ?_, ?_, hroom, q5, ?_⟩, ⟨rfl, rfl, rfl, by simp [World.setRow], fun k hk hne => heap_setRow w g _ k (fun e => hne (by rw [e]))⟩, .inl rfl, by simp [World.setRow]; exact hgl⟩
    · rw [List.size_toArray, List.length_append, List.length_append, List.length_take, List.length_drop, Array.length_toList]; omega
    · have e1 : (cur.toList.take (n * i.size) ++ news).length = (n + m) * i.size := by rw [List.length_append, q3, q6, hl, Nat.add_mul]
      rw [← e1, q3]
      exact List.take_left
    · rw [List.length_append, q6, hl, Nat.add_mul]
  · have holds : ∀ j u, xs[j]? = some u → w.cell? ((⟨g, 0, none⟩ : Addr).add j) = some u := by
      intro j u hj
      have ea : (⟨g, 0, none⟩ : Addr).add j = ⟨g, j, none⟩ := by
        unfold Addr.add; split
        · rename_i h; subst h; rfl
        · simp
      rw [ea, cell_of_row w g j cur e (0, 0) q1]
      rw [← q3] at hj
      have hj2 := (List.getElem?_eq_some_iff.1 hj).1
      rw [List.getElem?_take_of_lt (by simp at hj2; omega)] at hj
      simpa using hj
    obtain ⟨v', w', r1, r2, r3⟩ := run_append_arg_grows (P := P) w t ty e i z size bytes ht hi hz hsize hby hzs hsz ⟨g, 0, none⟩ n cap xs q6 holds ad m c news hl hnews (by omega) h63 hbytes
    obtain ⟨g', cap', rfl, hb, hlt⟩ := r2.form (by omega)
    refine ⟨g', cap', w', r1, ?_, ⟨r3.os, r3.tape, r3.output, r3.size, fun k hk _ => r3.block k hk (by simp)⟩, .inr hb, hlt⟩
    rcases r2.2 with ⟨h, _⟩ | ⟨g2, c2, cur2, e2, _, h2, h3, h4, h5, h6⟩
    · cases h
    · injection e2 with e2 _ e3
      injection e2 with e2
      injection e2 with e2
      subst e2 e3
      exact ⟨cur2, h2, by omega, h6, h3, h4, r2.1⟩
theorem step_append_row {P : Program} {w : World} {ops : Array Oper} {o : Oper} {a : Act} {K : Act → World → Prop} {Q : Exit → Act → World → Prop} {E : Prop} (hgd : o.guard = none) (s x : Operand) (t : TypeId)
    (ho : o.op = .call { callee := .builtin .append, args := #[s, x], argTypes := #[t, t] })
    (e : TypeId) (i : TypeInfo) (z : Value) (size bytes : Nat) (ht : P.underlying t = some (.slice e)) (hi : P.info? e = some i) (hz : i.zero = some z)
    (hsize : i.size = size) (hby : i.bytes = bytes) (hzs : z.cells.size = size) (hsz : 0 < size)
    (g cap n : Nat) (xs : List Value) (hs : a.eval s = .slice (some ⟨g, 0, none⟩) n cap) (hr : Row w g e size cap n xs)
    (ad : Addr) (m c : Nat) (news : List Value) (hx : a.eval x = .slice (some ad) m c) (hl : news.length = m * size) (hnews : ∀ j u, news[j]? = some u → w.cell? (ad.add j) = some u) (h1 : ∀ u ∈ news, u.oneCell' = true)
    (hm : 0 < m) (h63 : n + m ≤ maxLen) (hbytes : (n + m) * bytes ≤ 140737488355328)
    (h : ∀ g' cap' w', Row w' g' e size cap' (n + m) (xs ++ news) → w.grownBy w' (some g) → (g' = g ∨ w.heap.size ≤ g') → g' < w'.heap.size → K (a.put o.dst (.slice (some ⟨g', 0, none⟩) (n + m) cap')) w') :
    if Region.wanted o (yielded ops a.tmps) = true then Oper.wp P o a w K Q else E := by
  have hw : Region.wanted o (yielded ops a.tmps) = true := by simp [Region.wanted, hgd]
  rw [if_pos hw]
  obtain ⟨g', cap', w', hr, h2, h3, h4, h5⟩ := run_append_row (P := P) (w := w) t o.type e i z size bytes ht hi hz hsize hby hzs hsz g cap n xs hr ad m c news hl hnews h1 hm h63 hbytes
  unfold Oper.wp execOp
  simp only [ho, resolve, invoke, builtin, Sem.run_bind, Sem.run_pure, Result.andThen_ok, List.map_toArray, List.map_cons, List.map_nil, hs, hx, hr]
  exact h g' cap' w' h2 h3 h4 h5
end Go.Cas
namespace Go.Cas
set_option linter.unusedVariables false
set_option linter.unusedSimpArgs false
open Go.RowKit
section
variable {P : Program} {w : World}
theorem run_spread_nil {base : Nat} {t ty e : TypeId} {i : TypeInfo} {size n c : Nat} {v : Value} {xs : List Value} (ht : P.underlying t = some (.slice e)) (hi : P.info? e = some i) (ho : w.ownsRow base e size v n xs) :
    (Builtin.append_ #[t, t] ty #[v, .slice none 0 c]).run P w = .ok v w := by
  rcases ho.2 with ⟨rfl, rfl⟩ | ⟨g, cap, cur, rfl, _, _, hnc, _⟩
  · simp [Builtin.append_, run_underlying ht, sizeOf, typeInfo, hi, Builtin.lenOf, Builtin.firstCells]
  · simp [Builtin.append_, run_underlying ht, sizeOf, typeInfo, hi, Builtin.lenOf, Builtin.firstCells, hnc, storeCells]
/-- 'append(s, x...)': s of the call's own, x read -/
theorem wp_spread {ops : Array Oper} {rest : List Oper} {o : Oper} {a : Act} {Q : Exit → Act → World → Prop} (hgd : o.guard = none) (s x : Operand) (t : TypeId)
    (ho : o.op = .call { callee := .builtin .append, args := #[s, x], argTypes := #[t, t] })
    (base : Nat) (e : TypeId) {z : Value} {size bytes : Nat} (ht : P.underlying t = some (.slice e)) (hinf : (P.info? e).map (fun i => (i.zero, i.size, i.bytes)) = some (some z, size, bytes)) (hzs : z.cells.size = size) (hsz : 0 < size)
    (v : Value) (n : Nat) (xs : List Value) (hs : a.eval s = v) (hown : w.ownsRow base e size v n xs)
    (lim : Nat) (u : Value) (m : Nat) (news : List Value) (hx : a.eval x = u) (hr : RdS w lim size u m news) (h1 : ∀ u ∈ news, u.oneCell' = true)
    (h63 : n + m ≤ maxLen) (hbytes : (n + m) * bytes ≤ 140737488355328) (hbase : base ≤ w.heap.size)
    (h : ∀ v' w', w'.ownsRow base e size v' (n + m) (xs ++ news) → w.grownBy w' v.ownBlock → (v'.ownBlock = v.ownBlock ∨ v'.ownBlock = some w.heap.size) → wpList P ops Q rest (a.put o.dst v') w') :
    wpList P ops Q (o :: rest) a w := by
  obtain ⟨i, hi, hz, hsize, hby⟩ := info_parts hinf
  obtain ⟨hl, A, c, rfl, hc, hcell⟩ := hr
  rcases A with _ | ad
  · have hm : m = 0 := by
      rcases Nat.eq_zero_or_pos m with h0 | h0
      · exact h0
      · obtain ⟨g, o, e, _⟩ := hcell h0; cases e
    subst hm
    have hn : news = [] := List.eq_nil_of_length_eq_zero (by simpa using hl)
    subst hn
    refine wpList_plain hgd fun K hK => ?_
    unfold Oper.wp execOp
    simp only [ho, resolve, invoke, builtin, Sem.run_bind, Sem.run_pure, Result.andThen_ok, List.map_toArray, List.map_cons, List.map_nil, hs, hx, run_spread_nil (c := c) ht hi hown]
    exact hK _ _ (h v w (by simpa using hown) (World.grownBy.refl w _) (.inl rfl))
  · have hcells : ∀ j u, news[j]? = some u → w.cell? (ad.add j) = some u := by
      intro j u hu
      rcases Nat.eq_zero_or_pos m with h0 | h0
      · subst h0
        have hn : news = [] := List.eq_nil_of_length_eq_zero (by simpa using hl)
        subst hn
        simp at hu
      · obtain ⟨g, o, e, _, hc⟩ := hcell h0
        injection e with e
        subst e
        have ea : (⟨g, o, none⟩ : Addr).add j = ⟨g, o + j, none⟩ := by cases j <;> simp [Addr.add]
        rw [ea]
        exact hc j u hu
    exact wpList_append_own_at _ hgd s x t ho base e i z size bytes ht hi hz hsize hby hzs hsz v n xs hs hown ad m c news hx hl hcells h1 h63 hbytes hbase (fun v' w' h2 h3 _ h5 => h v' w' h2 h3 h5)
end
end Go.Cas
namespace Go.Cas
set_option linter.unusedVariables false
set_option linter.unusedSimpArgs false
open Go.RowKit
section
variable {P : Program}
theorem add_lo (g o k : Nat) : (⟨g, o, none⟩ : Addr).add k = ⟨g, o + k, none⟩ := by cases k <;> simp [Addr.add]
theorem elem_of {t e : TypeId} (ht : P.underlying t = some (.slice e)) : P.underlying t = some (.slice (P.elem t)) := by
  simp [Program.elem, ht]
theorem size_of {t e : TypeId} {z : Value} {size bytes : Nat} (ht : P.underlying t = some (.slice e)) (hinf : (P.info? e).map (fun i => (i.zero, i.size, i.bytes)) = some (some z, size, bytes)) (w : World) : (sizeOf (P.elem t)).run P w = .ok size w := by
  obtain ⟨i, hi, hz, hsize, hby⟩ := info_parts hinf
  have : P.elem t = e := by simp [Program.elem, ht]
  rw [this]
  simp [sizeOf, typeInfo, hi, hsize]
theorem rd_to {t e : TypeId} {z : Value} {size bytes : Nat} (ht : P.underlying t = some (.slice e)) (hinf : (P.info? e).map (fun i => (i.zero, i.size, i.bytes)) = some (some z, size, bytes)) {w : World} {lim n : Nat} {v : Value} {xs : List Value} (h : RdS w lim size v n xs) (k : Nat) (hk : k ≤ n) :
    ∃ U, (∀ w' : World, (Instr.slice t v none (some (.int .i64 (k : Int))) none).run P w' = .ok U w') ∧ RdS w lim size U k (xs.take (k * size)) := by
  obtain ⟨hl, A, c, rfl, hc, hcell⟩ := h
  refine ⟨_, fun w' => by rw [run_slice_h w' t A n c (elem_of ht) .i64 (k : Int) (by omega) (by omega), size_of ht hinf w']; rfl, ?_⟩
  refine ⟨by rw [List.length_take, hl, Nat.min_eq_left (Nat.mul_le_mul_right _ hk)], _, _, rfl, ?_, fun h0 => ?_⟩
  · simp; omega
  · obtain ⟨g, o, e, hg, hx⟩ := hcell (by omega)
    refine ⟨g, o, ?_, hg, fun j u hu => hx j u ?_⟩
    · rw [e]; simp [Addr.add]
    · rw [List.getElem?_take] at hu
      split at hu
      · exact hu
      · cases hu
theorem rd_from {t e : TypeId} {z : Value} {size bytes : Nat} (ht : P.underlying t = some (.slice e)) (hinf : (P.info? e).map (fun i => (i.zero, i.size, i.bytes)) = some (some z, size, bytes)) {w : World} {lim n : Nat} {v : Value} {xs : List Value} (h : RdS w lim size v n xs) (k : Nat) (hk : k ≤ n) :
    ∃ U, (∀ w' : World, (Instr.slice t v (some (.int .i64 (k : Int))) none none).run P w' = .ok U w') ∧ RdS w lim size U (n - k) (xs.drop (k * size)) := by
  obtain ⟨hl, A, c, rfl, hc, hcell⟩ := h
  refine ⟨_, fun w' => by rw [run_slice_l w' t A n c (elem_of ht) .i64 (k : Int) (by omega) (by omega), size_of ht hinf w']; rfl, ?_⟩
  refine ⟨by rw [List.length_drop, hl, ← Nat.sub_mul], _, _, rfl, by simp; omega, fun h0 => ?_⟩
  have h0 : 0 < n - k := by simpa using h0
  obtain ⟨g, o, e, hg, hx⟩ := hcell (by omega)
  refine ⟨g, o + k * size, ?_, hg, fun j u hu => ?_⟩
  · rw [e, if_neg (by simp; omega)]
    simp [add_lo]
  · rw [List.getElem?_drop] at hu
    rw [Nat.add_assoc]
    exact hx _ u hu
/-- a slice expression, met by its run equation -/
theorem wp_sliceEq {w : World} {ops : Array Oper} {rest : List Oper} {o : Oper} {a : Act} {Q : Exit → Act → World → Prop} (hgd : o.guard = none) (t : TypeId) {e : TypeId} (x : Operand) (lo hi : Option Operand) (ho : o.op = .slice t x lo hi none) (ht : P.underlying t = some (.slice e))
    (v : Value) (L H : Option Value) (hs : a.eval x = v) (hL : lo.map a.eval = L) (hH : hi.map a.eval = H) (U : Value) (hrun : ∀ w' : World, (Instr.slice t v L H none).run P w' = .ok U w') (h : wpList P ops Q rest (a.put o.dst U) w) : wpList P ops Q (o :: rest) a w := by
  refine wpList_plain hgd fun K hK => ?_
  unfold Oper.wp execOp
  have h1 : (Instr.sliceAt t v L H none).run P w = .ok U w := by
    rw [run_sliceAt_slice w t v L H none (elem_of ht)]; exact hrun w
  simp only [ho, Option.map_none, hs, hL, hH, Sem.run_bind, Sem.run_pure, Result.andThen_ok, h1]
  exact hK _ _ h
end
end Go.Cas
namespace Go.Cas
set_option linter.unusedVariables false
set_option linter.unusedSimpArgs false
open Go.ChangeShapes Go.WideShapes Go.Deep
section
variable {H : Type} {enc : TypeId × Value → H} {P : Program} {w : World} {base : Nat} {spare : Nat → Bool} {held : Bool}
theorem trod_field {t : TypeId} {fs : Array Field} {fuel : Nat} {cs : List Value} {x : DataW H × List MemPlace} (ht : P.underlying t = some (.struct fs)) (hone : oneCellFields P fs = true)
    (h : DataW.trod enc P w base spare held fuel t cs = some x) (hl : cs.length = fs.size) : ∀ (i : Nat) (f : Field), fs[i]? = some f → ∃ v n y, cs[i]? = some v ∧ DataW.trod enc P w base spare held n f.type [v] = some y := by
  obtain ⟨xs, n, _, _, hlen, hxl, hg⟩ := DataW.trod_struct ht h
  intro i f hi
  obtain ⟨ho, hk⟩ := hone_of hone i f hi
  have hlt : i < fs.size := (Array.getElem?_eq_some_iff.1 hi).1
  have h1 := hg i f hi
  rw [ho, hk, List.drop_eq_getElem_cons (by omega)] at h1
  have hx : xs[i]? = some (xs[i]'(by omega)) := List.getElem?_eq_getElem (by omega)
  have h2 : List.take 1 (cs[i]'(by omega) :: List.drop (i + 1) cs) = [cs[i]'(by omega)] := rfl
  rw [h2] at h1
  exact ⟨cs[i]'(by omega), n, _, List.getElem?_eq_getElem (by omega), h1.trans hx⟩
theorem field_int {t : TypeId} {fs : Array Field} {fuel : Nat} {cs : List Value} {x : DataW H × List MemPlace} (ht : P.underlying t = some (.struct fs)) (hone : oneCellFields P fs = true)
    (h : DataW.trod enc P w base spare held fuel t cs = some x) (hl : cs.length = fs.size) {i : Nat} {f : Field} {k : IntKind} (hi : fs[i]? = some f) (hf : P.underlying f.type = some (.int k)) : ∃ n : Int, cs[i]? = some (.int k n) ∧ (Lit.int k n).wf = true := by
  obtain ⟨v, m, y, hv, hy⟩ := trod_field ht hone h hl i f hi
  obtain ⟨n, h1, _, h2⟩ := DataW.trod_int hf hy
  injection h1 with h1
  exact ⟨n, by rw [hv, h1], h2⟩
theorem field_bool {t : TypeId} {fs : Array Field} {fuel : Nat} {cs : List Value} {x : DataW H × List MemPlace} (ht : P.underlying t = some (.struct fs)) (hone : oneCellFields P fs = true)
    (h : DataW.trod enc P w base spare held fuel t cs = some x) (hl : cs.length = fs.size) {i : Nat} {f : Field} (hi : fs[i]? = some f) (hf : P.underlying f.type = some .bool) : ∃ b : Bool, cs[i]? = some (.bool b) := by
  obtain ⟨v, m, y, hv, hy⟩ := trod_field ht hone h hl i f hi
  obtain ⟨n, h1, _⟩ := DataW.trod_bool hf hy
  injection h1 with h1
  exact ⟨n, by rw [hv, h1]⟩
theorem add_none (b o i : Nat) : (⟨b, o, none⟩ : Addr).add i = ⟨b, o + i, none⟩ := by
  unfold Addr.add; split
  · rename_i h; subst h; rfl
  · rfl
theorem open_list {t e : TypeId} {k : IntKind} {r : Reach} {b0 : Nat} {v : Value} {d : DataW H} {p : List MemPlace} (ht : P.underlying t = some (.slice e)) (he : P.underlying e = some (.int k)) (hc : P.cellsOf e = 1)
    (hv : Value.okWide P w r b0 t v) (h : DataW.Trod enc P w base spare held t v d p) :
    ∃ (n : Nat) (L : List Int), L.length = n ∧ n ≤ maxLen ∧ RdS w w.heap.size 1 v n (L.map (Value.int k)) ∧ ∀ x ∈ L, (Lit.int k x).wf = true := by
  obtain ⟨a0, len0, cap0, rfl⟩ := okWide_slice ht hv
  obtain ⟨fuel, hf⟩ := h
  rcases open_ints ht he hc hf with ⟨hcs, _⟩ | ⟨a, len, cap, zs, hcs, _, hl, hm, hz, _, hcell, hwz⟩
  · simp [Value.cells] at hcs
    obtain ⟨rfl, rfl, rfl⟩ := hcs
    exact ⟨0, [], rfl, Nat.zero_le _, RdS.nil _ _ _, by simp⟩
  · simp [Value.cells] at hcs
    obtain ⟨rfl, rfl, rfl⟩ := hcs
    have hzl : len0 ≤ zs.length := by rw [hz]; split <;> omega
    refine ⟨len0, zs.take len0, by simp; omega, by omega, ⟨by simp; omega, some a, cap0, rfl, hl, fun hn => ?_⟩, fun x hx => hwz x (List.mem_of_mem_take hx)⟩
    obtain ⟨b, o, sp⟩ := a
    have h0 := hcell 0 (by omega)
    have hsp : sp = none := by simpa [Addr.add] using World.cell?_spot h0
    subst hsp
    refine ⟨b, o, rfl, ?_, fun j u hu => ?_⟩
    · rw [add_none] at h0
      rcases Nat.lt_or_ge b w.heap.size with hlt | hge
      · exact hlt
      · simp [World.cell?, Array.getElem?_eq_none hge] at h0
    · have hj : j < len0 := by
        have := (List.getElem?_eq_some_iff.1 hu).1
        simp at this; omega
      have h1 := hcell j (by omega)
      rw [add_none] at h1
      rw [h1]
      have : (zs.take len0)[j]? = some (zs.getD j 0) := by
        rw [List.getElem?_take_of_lt hj, List.getD_eq_getElem?_getD, List.getElem?_eq_getElem (by omega)]; rfl
      rw [List.getElem?_map, this] at hu
      exact hu
end
end Go.Cas
namespace Go.Cas
set_option linter.unusedVariables false
set_option linter.unusedSimpArgs false
open Go.ChangeShapes Go.WideShapes Go.Deep
theorem flat_get {α β : Type} (f : α → List β) (sz : Nat) (hf : ∀ x, (f x).length = sz) : ∀ (L : List α) (i k : Nat) (x : α), L[i]? = some x → k < sz → (L.flatMap f)[i * sz + k]? = (f x)[k]? := by
  intro L
  induction L with
  | nil => intro i k x h; simp at h
  | cons a L ih =>
    intro i k x h hk
    rw [List.flatMap_cons]
    cases i with
    | zero =>
      simp at h; subst h
      rw [Nat.zero_mul, Nat.zero_add, List.getElem?_append_left (by rw [hf]; exact hk)]
    | succ i =>
      simp at h
      rw [List.getElem?_append_right (by rw [hf, Nat.succ_mul]; omega), hf]
      rw [show (i + 1) * sz + k - sz = i * sz + k by rw [Nat.succ_mul]; omega]
      exact ih i k x h hk
theorem flat_len {α β : Type} (f : α → List β) (sz : Nat) (hf : ∀ x, (f x).length = sz) : ∀ (L : List α), (L.flatMap f).length = L.length * sz := by
  intro L
  induction L with
  | nil => simp
  | cons a L ih => rw [List.flatMap_cons, List.length_append, ih, hf, List.length_cons, Nat.succ_mul]; omega
theorem list_of {α : Type} {p : Nat → α → Prop} : ∀ (n : Nat), (∀ i, i < n → ∃ x, p i x) → ∃ L : List α, L.length = n ∧ ∀ i x, L[i]? = some x → p i x := by
  intro n
  induction n with
  | zero => intro _; exact ⟨[], rfl, by simp⟩
  | succ n ih =>
    intro h
    obtain ⟨L, hl, hp⟩ := ih (fun i hi => h i (by omega))
    obtain ⟨x, hx⟩ := h n (by omega)
    refine ⟨L ++ [x], by simp [hl], fun i y hy => ?_⟩
    rcases Nat.lt_or_ge i n with hi | hi
    · rw [List.getElem?_append_left (by omega)] at hy; exact hp i y hy
    · have hi' := (List.getElem?_eq_some_iff.1 hy).1
      simp [hl] at hi'
      have : i = n := by omega
      subst this
      rw [List.getElem?_append_right (by omega)] at hy
      simp [hl] at hy; subst hy; exact hx
section
variable {H : Type} {enc : TypeId × Value → H} {P : Program} {w : World} {base : Nat} {spare : Nat → Bool} {held : Bool}
theorem trod_part {t : TypeId} {fs : Array Field} {fuel : Nat} {cs : List Value} {x : DataW H × List MemPlace} (ht : P.underlying t = some (.struct fs))
    (h : DataW.trod enc P w base spare held fuel t cs = some x) : ∀ (i : Nat) (f : Field), fs[i]? = some f → ∃ m y, DataW.trod enc P w base spare held m f.type ((cs.drop f.offset).take (P.cellsOf f.type)) = some y := by
  obtain ⟨xs, n, _, _, hlen, hxl, hg⟩ := DataW.trod_struct ht h
  intro i f hi
  have hlt : i < fs.size := (Array.getElem?_eq_some_iff.1 hi).1
  exact ⟨n, _, (hg i f hi).trans (List.getElem?_eq_getElem (by omega))⟩
theorem open_rows {α : Type} (f : α → List Value) (good : α → Prop) (sz : Nat) (hf : ∀ x, (f x).length = sz) (hsz : 0 < sz) {t e : TypeId} {r : Reach} {b0 : Nat} {v : Value} {d : DataW H} {p : List MemPlace}
    (ht : P.underlying t = some (.slice e)) (hc : P.cellsOf e = sz)
    (hdec : ∀ m cs y, cs.length = sz → DataW.trod enc P w base spare held m e cs = some y → ∃ x, cs = f x ∧ good x)
    (hv : Value.okWide P w r b0 t v) (h : DataW.Trod enc P w base spare held t v d p) :
    ∃ (n : Nat) (L : List α), L.length = n ∧ n ≤ maxLen ∧ RdS w w.heap.size sz v n (L.flatMap f) ∧ ∀ x ∈ L, good x := by
  obtain ⟨a0, len0, cap0, rfl⟩ := okWide_slice ht hv
  obtain ⟨fuel, hfu⟩ := h
  rcases DataW.trod_slice ht hfu with ⟨hcs, _⟩ | ⟨a, len, cap, elems, rest, n, _, hcs, _, hb, hl, hm, hlen, hel, _, _⟩
  · simp [Value.cells] at hcs
    obtain ⟨rfl, rfl, rfl⟩ := hcs
    exact ⟨0, [], rfl, Nat.zero_le _, RdS.nil _ _ _, by simp⟩
  · simp [Value.cells] at hcs
    obtain ⟨rfl, rfl, rfl⟩ := hcs
    rw [hc] at hel
    have each : ∀ i, i < len0 → ∃ x : α, (w.cells? base (a.add (i * sz)) sz = some (f x)) ∧ good x := by
      intro i hi
      have h1 := hel i hi
      rw [List.getElem?_eq_getElem (by omega), Option.bind_eq_some_iff] at h1
      obtain ⟨cs, h2, h3⟩ := h1
      obtain ⟨x, rfl, hg⟩ := hdec n cs _ (World.cells?_some h2).2.1 h3
      exact ⟨x, h2, hg⟩
    obtain ⟨L, hL, hp⟩ := list_of len0 each
    refine ⟨len0, L, hL, by omega, ⟨by rw [flat_len f sz hf, hL], some a, cap0, rfl, hl, fun hn => ?_⟩, fun x hx => ?_⟩
    · obtain ⟨x0, h0, _⟩ := each 0 hn
      have h0' := (World.cells?_some h0).2.2 0 hsz
      rw [List.getElem?_eq_getElem (by rw [hf]; exact hsz)] at h0'
      obtain ⟨b, o, sp⟩ := a
      have hsp : sp = none := by simpa [Addr.add] using World.cell?_spot h0'
      subst hsp
      refine ⟨b, o, rfl, ?_, fun j u hu => ?_⟩
      · rw [add_none, add_none] at h0'
        rcases Nat.lt_or_ge b w.heap.size with hlt | hge
        · exact hlt
        · simp [World.cell?, Array.getElem?_eq_none hge] at h0'
      · have hj : j < len0 * sz := by
          have := (List.getElem?_eq_some_iff.1 hu).1
          rw [flat_len f sz hf, hL] at this; exact this
        have hi : j / sz < len0 := Nat.div_lt_of_lt_mul (by rw [Nat.mul_comm]; exact hj)
        have hk : j % sz < sz := Nat.mod_lt _ hsz
        have hx := List.getElem?_eq_getElem (l := L) (i := j / sz) (by omega)
        have h1 := (World.cells?_some (hp _ _ hx).1).2.2 _ hk
        rw [add_none, add_none] at h1
        have h2 := flat_get f sz hf L _ _ _ hx hk
        have e : j / sz * sz + j % sz = j := by rw [Nat.mul_comm]; exact Nat.div_add_mod j sz
        rw [e] at h2
        rw [show o + j = o + j / sz * sz + j % sz by omega, h1, ← h2, hu]
    · obtain ⟨i, hi⟩ := List.getElem?_of_mem hx
      exact (hp i x hi).2
end
end Go.Cas
namespace Go.Cas
set_option linter.unusedVariables false
set_option linter.unusedSimpArgs false
open Go.ChangeShapes Go.WideShapes Go.Deep
section
variable {H : Type} {enc : TypeId × Value → H} {P : Program} {w : World} {base : Nat} {spare : Nat → Bool} {held : Bool}
theorem open_rowsT {α : Type} (f : α → List Value) (good : α → Prop) (sz : Nat) (hf : ∀ x, (f x).length = sz) (hsz : 0 < sz) {t e : TypeId} {fuel : Nat} {v : Value} {z : DataW H × List MemPlace}
    (ht : P.underlying t = some (.slice e)) (hc : P.cellsOf e = sz)
    (hdec : ∀ m cs y, cs.length = sz → DataW.trod enc P w base spare held m e cs = some y → ∃ x, cs = f x ∧ good x)
    (hfu : DataW.trod enc P w base spare held fuel t [v] = some z) :
    ∃ (n : Nat) (L : List α), L.length = n ∧ n ≤ maxLen ∧ RdS w w.heap.size sz v n (L.flatMap f) ∧ ∀ x ∈ L, good x := by
  rcases DataW.trod_slice ht hfu with ⟨hcs, _⟩ | ⟨a, len0, cap0, elems, rest, n, _, hcs, _, hb, hl, hm, hlen, hel, _, _⟩
  · injection hcs with hcs
    subst hcs
    exact ⟨0, [], rfl, Nat.zero_le _, RdS.nil _ _ _, by simp⟩
  · injection hcs with hcs
    subst hcs
    rw [hc] at hel
    have each : ∀ i, i < len0 → ∃ x : α, (w.cells? base (a.add (i * sz)) sz = some (f x)) ∧ good x := by
      intro i hi
      have h1 := hel i hi
      rw [List.getElem?_eq_getElem (by omega), Option.bind_eq_some_iff] at h1
      obtain ⟨cs, h2, h3⟩ := h1
      obtain ⟨x, rfl, hg⟩ := hdec n cs _ (World.cells?_some h2).2.1 h3
      exact ⟨x, h2, hg⟩
    obtain ⟨L, hL, hp⟩ := list_of len0 each
    refine ⟨len0, L, hL, by omega, ⟨by rw [flat_len f sz hf, hL], some a, cap0, rfl, hl, fun hn => ?_⟩, fun x hx => ?_⟩
    · obtain ⟨x0, h0, _⟩ := each 0 hn
      have h0' := (World.cells?_some h0).2.2 0 hsz
      rw [List.getElem?_eq_getElem (by rw [hf]; exact hsz)] at h0'
      obtain ⟨b, o, sp⟩ := a
      have hsp : sp = none := by simpa [Addr.add] using World.cell?_spot h0'
      subst hsp
      refine ⟨b, o, rfl, ?_, fun j u hu => ?_⟩
      · rw [add_none, add_none] at h0'
        rcases Nat.lt_or_ge b w.heap.size with hlt | hge
        · exact hlt
        · simp [World.cell?, Array.getElem?_eq_none hge] at h0'
      · have hj : j < len0 * sz := by
          have := (List.getElem?_eq_some_iff.1 hu).1
          rw [flat_len f sz hf, hL] at this; exact this
        have hi : j / sz < len0 := Nat.div_lt_of_lt_mul (by rw [Nat.mul_comm]; exact hj)
        have hk : j % sz < sz := Nat.mod_lt _ hsz
        have hx := List.getElem?_eq_getElem (l := L) (i := j / sz) (by omega)
        have h1 := (World.cells?_some (hp _ _ hx).1).2.2 _ hk
        rw [add_none, add_none] at h1
        have h2 := flat_get f sz hf L _ _ _ hx hk
        have e : j / sz * sz + j % sz = j := by rw [Nat.mul_comm]; exact Nat.div_add_mod j sz
        rw [e] at h2
        rw [show o + j = o + j / sz * sz + j % sz by omega, h1, ← h2, hu]
    · obtain ⟨i, hi⟩ := List.getElem?_of_mem hx
      exact (hp i x hi).2
end
end Go.Cas
namespace Go.Cas
set_option linter.unusedVariables false
set_option linter.unusedSimpArgs false
open Go.ChangeShapes Go.WideShapes Go.Deep
theorem sum_le_of {α β : Type} (g : α → Nat) (h : β → Nat) : ∀ (L : List α) (E : List β), L.length = E.length → (∀ (i : Nat) x y, L[i]? = some x → E[i]? = some y → g x ≤ h y) → (L.map g).sum ≤ (E.map h).sum := by
  intro L
  induction L with
  | nil => intro E _ _; simp
  | cons a L ih =>
    intro E hl hp
    cases E with
    | nil => simp at hl
    | cons b E =>
      have h1 := hp 0 a b rfl rfl
      have h2 := ih E (by simpa using hl) (fun i x y hx hy => hp (i + 1) x y (by simpa using hx) (by simpa using hy))
      simp only [List.map_cons, List.sum_cons]
      omega
section
variable {H : Type} {enc : TypeId × Value → H} {P : Program} {w : World} {base : Nat} {spare : Nat → Bool} {held : Bool}
theorem trod_fields {t : TypeId} {fs : Array Field} {fuel : Nat} {cs : List Value} {x : DataW H × List MemPlace} (ht : P.underlying t = some (.struct fs)) (hone : oneCellFields P fs = true)
    (h : DataW.trod enc P w base spare held fuel t cs = some x) (hl : cs.length = fs.size) : ∃ xs : List (DataW H × List MemPlace), x.1 = .agg (xs.map (·.1)) ∧ xs.length = fs.size ∧ ∀ (i : Nat) (f : Field), fs[i]? = some f → ∃ v n y, cs[i]? = some v ∧ xs[i]? = some y ∧ DataW.trod enc P w base spare held n f.type [v] = some y := by
  obtain ⟨xs, n, _, hx, hlen, hxl, hg⟩ := DataW.trod_struct ht h
  refine ⟨xs, by rw [hx], hxl, fun i f hi => ?_⟩
  obtain ⟨ho, hk⟩ := hone_of hone i f hi
  have hlt : i < fs.size := (Array.getElem?_eq_some_iff.1 hi).1
  have h1 := hg i f hi
  rw [ho, hk, List.drop_eq_getElem_cons (by omega)] at h1
  have hx : xs[i]? = some (xs[i]'(by omega)) := List.getElem?_eq_getElem (by omega)
  have h2 : List.take 1 (cs[i]'(by omega) :: List.drop (i + 1) cs) = [cs[i]'(by omega)] := rfl
  rw [h2] at h1
  exact ⟨cs[i]'(by omega), n, _, List.getElem?_eq_getElem (by omega), hx, h1.trans hx⟩
theorem open_rowsW {α : Type} (f : α → List Value) (good : α → Prop) (g : α → Nat) (bk : DataW H → Nat) (hbk : ∀ es sp, (es.map bk).sum + 1 ≤ bk (.slice es sp)) (sz : Nat) (hf : ∀ x, (f x).length = sz) (hsz : 0 < sz) {t e : TypeId} {fuel : Nat} {v : Value} {z : DataW H × List MemPlace}
    (ht : P.underlying t = some (.slice e)) (hc : P.cellsOf e = sz)
    (hdec : ∀ m cs y, cs.length = sz → DataW.trod enc P w base spare held m e cs = some y → ∃ x, cs = f x ∧ good x ∧ g x ≤ bk y.1)
    (hfu : DataW.trod enc P w base spare held fuel t [v] = some z) :
    ∃ (n : Nat) (L : List α), L.length = n ∧ n ≤ maxLen ∧ RdS w w.heap.size sz v n (L.flatMap f) ∧ (∀ x ∈ L, good x) ∧ (L.map g).sum ≤ bk z.1 ∧ (L = [] ∨ (L.map g).sum + 1 ≤ bk z.1) := by
  rcases DataW.trod_slice ht hfu with ⟨hcs, _⟩ | ⟨a, len0, cap0, elems, rest, n, _, hcs, hz, hb, hl, hm, hlen, hel, _, _⟩
  · injection hcs with hcs
    subst hcs
    exact ⟨0, [], rfl, Nat.zero_le _, RdS.nil _ _ _, by simp, by simp, .inl rfl⟩
  · injection hcs with hcs
    subst hcs
    rw [hc] at hel
    have each : ∀ i, i < len0 → ∃ x : α, (w.cells? base (a.add (i * sz)) sz = some (f x)) ∧ good x ∧ ∀ y, elems[i]? = some y → g x ≤ bk y.1 := by
      intro i hi
      have h1 := hel i hi
      have h0 := List.getElem?_eq_getElem (l := elems) (i := i) (by omega)
      rw [h0, Option.bind_eq_some_iff] at h1
      obtain ⟨cs, h2, h3⟩ := h1
      obtain ⟨x, rfl, hg, hw⟩ := hdec n cs _ (World.cells?_some h2).2.1 h3
      refine ⟨x, h2, hg, fun y hy => ?_⟩
      rw [h0] at hy
      injection hy with hy
      rw [← hy]; exact hw
    obtain ⟨L, hL, hp⟩ := list_of len0 each
    have hsum : (L.map g).sum + 1 ≤ bk z.1 := by
      rw [hz]
      have h1 := hbk (elems.map (·.1)) (rest.map (·.1))
      have h2 := sum_le_of g (fun y => bk y.1) L elems (by omega) (fun i x y hx hy => (hp i x hx).2.2 y hy)
      rw [List.map_map] at h1
      have e : (bk ∘ fun x : DataW H × List MemPlace => x.1) = fun y => bk y.1 := rfl
      rw [e] at h1
      show _ ≤ bk (.slice (elems.map (·.1)) (rest.map (·.1)))
      omega
    refine ⟨len0, L, hL, by omega, ⟨by rw [flat_len f sz hf, hL], some a, cap0, rfl, hl, fun hn => ?_⟩, fun x hx => ?_, by omega, .inr hsum⟩
    · obtain ⟨x0, h0, _⟩ := each 0 hn
      have h0' := (World.cells?_some h0).2.2 0 hsz
      rw [List.getElem?_eq_getElem (by rw [hf]; exact hsz)] at h0'
      obtain ⟨b, o, sp⟩ := a
      have hsp : sp = none := by simpa [Addr.add] using World.cell?_spot h0'
      subst hsp
      refine ⟨b, o, rfl, ?_, fun j u hu => ?_⟩
      · rw [add_none, add_none] at h0'
        rcases Nat.lt_or_ge b w.heap.size with hlt | hge
        · exact hlt
        · simp [World.cell?, Array.getElem?_eq_none hge] at h0'
      · have hj : j < len0 * sz := by
          have := (List.getElem?_eq_some_iff.1 hu).1
          rw [flat_len f sz hf, hL] at this; exact this
        have hi : j / sz < len0 := Nat.div_lt_of_lt_mul (by rw [Nat.mul_comm]; exact hj)
        have hk : j % sz < sz := Nat.mod_lt _ hsz
        have hx := List.getElem?_eq_getElem (l := L) (i := j / sz) (by omega)
        have h1 := (World.cells?_some (hp _ _ hx).1).2.2 _ hk
        rw [add_none, add_none] at h1
        have h2 := flat_get f sz hf L _ _ _ hx hk
        have e : j / sz * sz + j % sz = j := by rw [Nat.mul_comm]; exact Nat.div_add_mod j sz
        rw [e] at h2
        rw [show o + j = o + j / sz * sz + j % sz by omega, h1, ← h2, hu]
    · obtain ⟨i, hi⟩ := List.getElem?_of_mem hx
      exact (hp i x hi).2.1
end
end Go.Cas
