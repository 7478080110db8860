/- plain (no program): a slice in a struct out of its reading -/
import Derived.Test.YtimlmekgapdkiaaDooropen2
namespace Go.Cas
set_option linter.unusedVariables false
set_option linter.unusedSimpArgs false
open Go.ChangeShapes Go.WideShapes Go.Deep
section
variable {H : Type} {enc : TypeId × Value → H} {P : Program} {w : World} {base : Nat} {spare : Nat → Bool} {held : Bool}
theorem open_rowsT {α : Type} (f : α → List Value) (good : α → Prop) (sz : Nat) (hf : ∀ x, (f x).length = sz) (hsz : 0 < sz) {t e : TypeId} {fuel : Nat} {v : Value} {z : DataW H × List MemPlace}
    (ht : P.underlying t = some (.slice e)) (hc : P.cellsOf e = sz)
    (hdec : ∀ m cs y, cs.length = sz → DataW.trod enc P w base spare held m e cs = some y → ∃ x, cs = f x ∧ good x)
    (hfu : DataW.trod enc P w base spare held fuel t [v] = some z) :
    ∃ (n : Nat) (L : List α), L.length = n ∧ n ≤ maxLen ∧ RdS w w.heap.size sz v n (L.flatMap f) ∧ ∀ x ∈ L, good x := by
  rcases DataW.trod_slice ht hfu with ⟨hcs, _⟩ | ⟨a, len0, cap0, elems, rest, n, _, hcs, _, hb, hl, hm, hlen, hel, _, _⟩
  · injection hcs with hcs
    subst hcs
    exact ⟨0, [], rfl, Nat.zero_le _, RdS.nil _ _ _, by simp⟩
  · injection hcs with hcs
    subst hcs
    rw [hc] at hel
    have each : ∀ i, i < len0 → ∃ x : α, (w.cells? base (a.add (i * sz)) sz = some (f x)) ∧ good x := by
      intro i hi
      have h1 := hel i hi
      rw [List.getElem?_eq_getElem (by omega), Option.bind_eq_some_iff] at h1
      obtain ⟨cs, h2, h3⟩ := h1
      obtain ⟨x, rfl, hg⟩ := hdec n cs _ (World.cells?_some h2).2.1 h3
      exact ⟨x, h2, hg⟩
    obtain ⟨L, hL, hp⟩ := list_of len0 each
    refine ⟨len0, L, hL, by omega, ⟨by rw [flat_len f sz hf, hL], some a, cap0, rfl, hl, fun hn => ?_⟩, fun x hx => ?_⟩
    · obtain ⟨x0, h0, _⟩ := each 0 hn
      have h0' := (World.cells?_some h0).2.2 0 hsz
      rw [List.getElem?_eq_getElem (by rw [hf]; exact hsz)] at h0'
      obtain ⟨b, o, sp⟩ := a
      have hsp : sp = none := by simpa [Addr.add] using World.cell?_spot h0'
      subst hsp
      refine ⟨b, o, rfl, ?_, fun j u hu => ?_⟩
      · rw [add_none, add_none] at h0'
        rcases Nat.lt_or_ge b w.heap.size with hlt | hge
        · exact hlt
        · simp [World.cell?, Array.getElem?_eq_none hge] at h0'
      · have hj : j < len0 * sz := by
          have := (List.getElem?_eq_some_iff.1 hu).1
          rw [flat_len f sz hf, hL] at this; exact this
        have hi : j / sz < len0 := Nat.div_lt_of_lt_mul (by rw [Nat.mul_comm]; exact hj)
        have hk : j % sz < sz := Nat.mod_lt _ hsz
        have hx := List.getElem?_eq_getElem (l := L) (i := j / sz) (by omega)
        have h1 := (World.cells?_some (hp _ _ hx).1).2.2 _ hk
        rw [add_none, add_none] at h1
        have h2 := flat_get f sz hf L _ _ _ hx hk
        have e : j / sz * sz + j % sz = j := by rw [Nat.mul_comm]; exact Nat.div_add_mod j sz
        rw [e] at h2
        rw [show o + j = o + j / sz * sz + j % sz by omega, h1, ← h2, hu]
    · obtain ⟨i, hi⟩ := List.getElem?_of_mem hx
      exact (hp i x hi).2
end
end Go.Cas
