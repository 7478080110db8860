/- plain (no program): what a call leaves of the memory that was there -/
import Derived.Test.YtimlmekgapdkiaaDoormem
import Derived.Deep.AppendLies
import Derived.Deep.RegionHeld3
namespace Go.Cas
set_option linter.unusedVariables false
set_option linter.unusedSimpArgs false
open Go.RowKit

/-- All blocks are as they were, but those of which 'ex' holds. -/
structure Kept (w w' : World) (ex : Nat → Prop) : Prop where
  os : w'.os = w.os
  tape : w'.tape = w.tape
  output : w'.output = w.output
  size : w.heap.size ≤ w'.heap.size
  block : ∀ k, k < w.heap.size → ¬ ex k → w'.heap[k]? = w.heap[k]?
section
variable {w w' w2 : World} {ex ex2 : Nat → Prop}
theorem Kept.refl (w : World) (ex : Nat → Prop) : Kept w w ex := ⟨rfl, rfl, rfl, Nat.le_refl _, fun _ _ _ => rfl⟩
theorem Kept.below {B : Nat} (h : Kept w w' ex) (hB : ∀ k, k < B → k < w.heap.size ∧ ¬ ex k) : Below B w w' := ⟨h.os, h.tape, h.output, h.size, fun k hk => h.block k (hB k hk).1 (hB k hk).2⟩
theorem Kept.of_below (h : Below w.heap.size w w') (ex : Nat → Prop) : Kept w w' ex := ⟨h.os, h.tape, h.output, h.size, fun k hk _ => h.block k hk⟩
theorem Kept.mono (h : Kept w w' ex) (hm : ∀ k, k < w.heap.size → ex k → ex2 k) : Kept w w' ex2 := ⟨h.os, h.tape, h.output, h.size, fun k hk hn => h.block k hk (fun he => hn (hm k hk he))⟩
theorem Kept.trans (h : Kept w w' ex) (h2 : Kept w' w2 ex) : Kept w w2 ex :=
  ⟨h2.os.trans h.os, h2.tape.trans h.tape, h2.output.trans h.output, Nat.le_trans h.size h2.size, fun k hk hn => (h2.block k (Nat.lt_of_lt_of_le hk h.size) hn).trans (h.block k hk hn)⟩
/-- one step more, whose own exceptions are new blocks or among the old ones -/
theorem Kept.then_ {ex3 : Nat → Prop} (h : Kept w w' ex) (h2 : Kept w' w2 ex3) (hm : ∀ k, k < w.heap.size → ex3 k → ex k) : Kept w w2 ex :=
  ⟨h2.os.trans h.os, h2.tape.trans h.tape, h2.output.trans h.output, Nat.le_trans h.size h2.size, fun k hk hn => (h2.block k (Nat.lt_of_lt_of_le hk h.size) (fun he => hn (hm k hk he))).trans (h.block k hk hn)⟩
theorem Kept.grown {row : Option Nat} (h : w.grownBy w' row) (ex : Nat → Prop) (hr : ∀ k, row = some k → ex k) : Kept w w' ex := ⟨h.os, h.tape, h.output, h.size, fun k hk hn => h.block k hk (fun e => hn (hr k e.symm))⟩
theorem Kept.alloc (h : Kept w w' ex) (o : Obj) : Kept w (w'.alloc o) ex := h.then_ (Kept.of_below ((Below.refl _ _).alloc (Nat.le_refl _) o) ex) (fun _ _ e => e)
theorem Kept.drewN (h : Kept w w' ex) (n : Nat) : Kept w (w'.drewN n) ex := ⟨h.os, h.tape, h.output, h.size, h.block⟩
theorem Kept.drew (h : Kept w w' ex) : Kept w w'.drew ex := ⟨h.os, h.tape, h.output, h.size, h.block⟩
theorem Kept.set_ (h : Kept w w' ex) (b o : Nat) (hb : b < w.heap.size → ex b) (u : Value) : Kept w (w'.setCell ⟨b, o, none⟩ u) ex := by
  refine ⟨h.os, h.tape, h.output, ?_, fun k hk hn => ?_⟩
  · have := h.size; simpa [World.setCell] using this
  · have hne : k ≠ b := fun e => hn (by subst e; exact hb hk)
    rw [← h.block k hk hn]
    exact Below.heap_setCell w' ⟨b, o, none⟩ u k hne
theorem Kept.bk {g : Nat} {t : TypeId} {cs : Array Value} (h : Kept w w' ex) (hb : Bk w g t cs) (hn : ¬ ex g) : Bk w' g t cs := (h.block g hb.lt hn).trans hb
theorem Kept.own {base n size : Nat} {e : TypeId} {v : Value} {xs : List Value} (h : Kept w w' ex) (ho : w.ownsRow base e size v n xs) (hn : ∀ k, v.ownBlock = some k → ¬ ex k) : w'.ownsRow base e size v n xs := by
  refine ⟨ho.1, ?_⟩
  rcases ho.2 with h1 | ⟨g, cap, cur, rfl, hb, hgg, rest⟩
  · exact .inl h1
  · exact .inr ⟨g, cap, cur, rfl, hb, (h.block g (Array.getElem?_eq_some_iff.1 hgg).1 (hn g rfl)).trans hgg, rest⟩
theorem Kept.rd {lim size n : Nat} {v : Value} {xs : List Value} (h : Kept w w' ex) (hr : RdS w lim size v n xs) (hl : lim ≤ w.heap.size) (hn : ∀ k, k < lim → ¬ ex k) : RdS w' lim size v n xs :=
  hr.below (h.below fun k hk => ⟨by omega, hn k hk⟩)
theorem own_lt {base n size : Nat} {e : TypeId} {v : Value} {xs : List Value} (ho : w.ownsRow base e size v n xs) {k : Nat} (hk : v.ownBlock = some k) : base ≤ k ∧ k < w.heap.size := ho.lt k hk
end
theorem Bk.drew {w : World} {g : Nat} {t : TypeId} {cs : Array Value} (h : Bk w g t cs) : Bk w.drew g t cs := h
theorem bk_new' (w : World) (t : TypeId) (cs : Array Value) {g : Nat} (hg : g = w.heap.size) : Bk (w.alloc (.cells cs t)) g t cs := by subst hg; exact Bk.new _ _ _
end Go.Cas
