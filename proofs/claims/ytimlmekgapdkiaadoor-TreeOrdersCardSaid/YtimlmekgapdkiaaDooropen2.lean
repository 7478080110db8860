/- plain (no program): a slice of structs out of its reading -/
import Derived.Test.YtimlmekgapdkiaaDooropen
namespace Go.Cas
set_option linter.unusedVariables false
set_option linter.unusedSimpArgs false
open Go.ChangeShapes Go.WideShapes Go.Deep
theorem flat_get {α β : Type} (f : α → List β) (sz : Nat) (hf : ∀ x, (f x).length = sz) : ∀ (L : List α) (i k : Nat) (x : α), L[i]? = some x → k < sz → (L.flatMap f)[i * sz + k]? = (f x)[k]? := by
  intro L
  induction L with
  | nil => intro i k x h; simp at h
  | cons a L ih =>
    intro i k x h hk
    rw [List.flatMap_cons]
    cases i with
    | zero =>
      simp at h; subst h
      rw [Nat.zero_mul, Nat.zero_add, List.getElem?_append_left (by rw [hf]; exact hk)]
    | succ i =>
      simp at h
      rw [List.getElem?_append_right (by rw [hf, Nat.succ_mul]; omega), hf]
      rw [show (i + 1) * sz + k - sz = i * sz + k by rw [Nat.succ_mul]; omega]
      exact ih i k x h hk
theorem flat_len {α β : Type} (f : α → List β) (sz : Nat) (hf : ∀ x, (f x).length = sz) : ∀ (L : List α), (L.flatMap f).length = L.length * sz := by
  intro L
  induction L with
  | nil => simp
  | cons a L ih => rw [List.flatMap_cons, List.length_append, ih, hf, List.length_cons, Nat.succ_mul]; omega
theorem list_of {α : Type} {p : Nat → α → Prop} : ∀ (n : Nat), (∀ i, i < n → ∃ x, p i x) → ∃ L : List α, L.length = n ∧ ∀ i x, L[i]? = some x → p i x := by
  intro n
  induction n with
  | zero => intro _; exact ⟨[], rfl, by simp⟩
  | succ n ih =>
    intro h
    obtain ⟨L, hl, hp⟩ := ih (fun i hi => h i (by omega))
    obtain ⟨x, hx⟩ := h n (by omega)
    refine ⟨L ++ [x], by simp [hl], fun i y hy => ?_⟩
    rcases Nat.lt_or_ge i n with hi | hi
    · rw [List.getElem?_append_left (by omega)] at hy; exact hp i y hy
    · have hi' := (List.getElem?_eq_some_iff.1 hy).1
      simp [hl] at hi'
      have : i = n := by omega
      subst this
      rw [List.getElem?_append_right (by omega)] at hy
      simp [hl] at hy; subst hy; exact hx
section
variable {H : Type} {enc : TypeId × Value → H} {P : Program} {w : World} {base : Nat} {spare : Nat → Bool} {held : Bool}
theorem trod_part {t : TypeId} {fs : Array Field} {fuel : Nat} {cs : List Value} {x : DataW H × List MemPlace} (ht : P.underlying t = some (.struct fs))
    (h : DataW.trod enc P w base spare held fuel t cs = some x) : ∀ (i : Nat) (f : Field), fs[i]? = some f → ∃ m y, DataW.trod enc P w base spare held m f.type ((cs.drop f.offset).take (P.cellsOf f.type)) = some y := by
  obtain ⟨xs, n, _, _, hlen, hxl, hg⟩ := DataW.trod_struct ht h
  intro i f hi
  have hlt : i < fs.size := (Array.getElem?_eq_some_iff.1 hi).1
  exact ⟨n, _, (hg i f hi).trans (List.getElem?_eq_getElem (by omega))⟩
theorem open_rows {α : Type} (f : α → List Value) (good : α → Prop) (sz : Nat) (hf : ∀ x, (f x).length = sz) (hsz : 0 < sz) {t e : TypeId} {r : Reach} {b0 : Nat} {v : Value} {d : DataW H} {p : List MemPlace}
    (ht : P.underlying t = some (.slice e)) (hc : P.cellsOf e = sz)
    (hdec : ∀ m cs y, cs.length = sz → DataW.trod enc P w base spare held m e cs = some y → ∃ x, cs = f x ∧ good x)
    (hv : Value.okWide P w r b0 t v) (h : DataW.Trod enc P w base spare held t v d p) :
    ∃ (n : Nat) (L : List α), L.length = n ∧ n ≤ maxLen ∧ RdS w w.heap.size sz v n (L.flatMap f) ∧ ∀ x ∈ L, good x := by
  obtain ⟨a0, len0, cap0, rfl⟩ := okWide_slice ht hv
  obtain ⟨fuel, hfu⟩ := h
  rcases DataW.trod_slice ht hfu with ⟨hcs, _⟩ | ⟨a, len, cap, elems, rest, n, _, hcs, _, hb, hl, hm, hlen, hel, _, _⟩
  · simp [Value.cells] at hcs
    obtain ⟨rfl, rfl, rfl⟩ := hcs
    exact ⟨0, [], rfl, Nat.zero_le _, RdS.nil _ _ _, by simp⟩
  · simp [Value.cells] at hcs
    obtain ⟨rfl, rfl, rfl⟩ := hcs
    rw [hc] at hel
    have each : ∀ i, i < len0 → ∃ x : α, (w.cells? base (a.add (i * sz)) sz = some (f x)) ∧ good x := by
      intro i hi
      have h1 := hel i hi
      rw [List.getElem?_eq_getElem (by omega), Option.bind_eq_some_iff] at h1
      obtain ⟨cs, h2, h3⟩ := h1
      obtain ⟨x, rfl, hg⟩ := hdec n cs _ (World.cells?_some h2).2.1 h3
      exact ⟨x, h2, hg⟩
    obtain ⟨L, hL, hp⟩ := list_of len0 each
    refine ⟨len0, L, hL, by omega, ⟨by rw [flat_len f sz hf, hL], some a, cap0, rfl, hl, fun hn => ?_⟩, fun x hx => ?_⟩
    · obtain ⟨x0, h0, _⟩ := each 0 hn
      have h0' := (World.cells?_some h0).2.2 0 hsz
      rw [List.getElem?_eq_getElem (by rw [hf]; exact hsz)] at h0'
      obtain ⟨b, o, sp⟩ := a
      have hsp : sp = none := by simpa [Addr.add] using World.cell?_spot h0'
      subst hsp
      refine ⟨b, o, rfl, ?_, fun j u hu => ?_⟩
      · rw [add_none, add_none] at h0'
        rcases Nat.lt_or_ge b w.heap.size with hlt | hge
        · exact hlt
        · simp [World.cell?, Array.getElem?_eq_none hge] at h0'
      · have hj : j < len0 * sz := by
          have := (List.getElem?_eq_some_iff.1 hu).1
          rw [flat_len f sz hf, hL] at this; exact this
        have hi : j / sz < len0 := Nat.div_lt_of_lt_mul (by rw [Nat.mul_comm]; exact hj)
        have hk : j % sz < sz := Nat.mod_lt _ hsz
        have hx := List.getElem?_eq_getElem (l := L) (i := j / sz) (by omega)
        have h1 := (World.cells?_some (hp _ _ hx).1).2.2 _ hk
        rw [add_none, add_none] at h1
        have h2 := flat_get f sz hf L _ _ _ hx hk
        have e : j / sz * sz + j % sz = j := by rw [Nat.mul_comm]; exact Nat.div_add_mod j sz
        rw [e] at h2
        rw [show o + j = o + j / sz * sz + j % sz by omega, h1, ← h2, hu]
    · obtain ⟨i, hi⟩ := List.getElem?_of_mem hx
      exact (hp i x hi).2
end
end Go.Cas
