/- ears: who hears what (plain): the program's way and the document's -/
import Derived.Test.YtimlmekgapdkiaaDoortree0
namespace Go.Proofs.YtimlmekgapdkiaaDoor
set_option linter.unusedVariables false
set_option linter.unusedSimpArgs false
open Go.RowKit Go.Cas

structure EarV where
  node : Int
  name : ByteArray
  down : Bool
  once : Bool
  calm : Bool
  stop : Bool
  now : Bool
  bar : Bool
structure ClV where
  e : Nat
  n : Nat
  p : Int
/-- a sending -/
structure SnS where
  G : List Bool
  C : List ClV
  free : Bool
  on : Bool
  now : Bool
def SnS.go (s : SnS) : SnS := { s with on := true }
def asks (x : EarV) (g : Bool) (id : Nat) (name : ByteArray) (dn : Bool) : Bool := !g && decide (x.node = (id : Int)) && decide (x.name = name) && (x.down == dn)
def hearX (x : EarV) (k id : Nat) (ph : Int) (s : SnS) : SnS :=
  { G := if x.once then s.G.set k true else s.G, C := s.C ++ [⟨k, id, ph⟩], free := s.free && !(x.bar && !x.calm), on := s.on && !(x.stop || x.now), now := x.now }
def hear (L : List EarV) (name : ByteArray) (id : Nat) (ph : Int) (dn : Bool) (s : SnS) (k : Nat) : SnS :=
  if s.now then s else
    match L[k]? with
    | none => s
    | some x => if asks x (s.G.getD k true) id name dn then hearX x k id ph s else s
/-- the first n ears have been asked -/
def atN (L : List EarV) (name : ByteArray) (id : Nat) (ph : Int) (dn : Bool) (n : Nat) (s : SnS) : SnS := (List.range n).foldl (hear L name id ph dn) s
def atP (L : List EarV) (name : ByteArray) (id : Nat) (ph : Int) (dn : Bool) (s : SnS) : SnS := atN L name id ph dn L.length s.go
section
variable {L : List EarV} {name : ByteArray} {id n k : Nat} {ph : Int} {dn : Bool} {s : SnS}
theorem atN_zero : atN L name id ph dn 0 s = s := rfl
theorem atN_succ : atN L name id ph dn (n + 1) s = hear L name id ph dn (atN L name id ph dn n s) n := by
  unfold atN; rw [List.range_succ, List.foldl_append]; rfl
theorem hear_now (h : s.now = true) : hear L name id ph dn s k = s := by unfold hear; rw [if_pos h]
theorem atN_now (m : Nat) (h : (atN L name id ph dn n s).now = true) : atN L name id ph dn (n + m) s = atN L name id ph dn n s := by
  induction m with
  | zero => rfl
  | succ m ih => rw [← Nat.add_assoc, atN_succ, ih, hear_now h]
theorem atN_now_le {m : Nat} (hm : n ≤ m) (h : (atN L name id ph dn n s).now = true) : atN L name id ph dn m s = atN L name id ph dn n s := by
  obtain ⟨j, rfl⟩ := Nat.exists_eq_add_of_le hm
  exact atN_now j h
theorem hear_hit {x : EarV} (h : s.now = false) (hx : L[k]? = some x) (ha : asks x (s.G.getD k true) id name dn = true) : hear L name id ph dn s k = hearX x k id ph s := by
  unfold hear
  rw [h, hx]
  simp only [Bool.false_eq_true, if_false]
  rw [if_pos ha]
theorem hear_miss {x : EarV} (h : s.now = false) (hx : L[k]? = some x) (ha : asks x (s.G.getD k true) id name dn = false) : hear L name id ph dn s k = s := by
  unfold hear
  rw [h, hx]
  simp only [Bool.false_eq_true, if_false]
  rw [if_neg (by rw [ha]; simp)]
theorem hear_on (h : s.now = true → s.on = false) : (hear L name id ph dn s k).now = true → (hear L name id ph dn s k).on = false := by
  unfold hear
  split
  · exact h
  · split
    · exact h
    · split
      · unfold hearX
        intro e
        have e' : _ = true := e
        simp only at e' ⊢
        rw [e']; simp
      · exact h
theorem atN_on (h : s.now = true → s.on = false) : (atN L name id ph dn n s).now = true → (atN L name id ph dn n s).on = false := by
  induction n with
  | zero => exact h
  | succ n ih => rw [atN_succ]; exact hear_on ih
theorem atN_G : (atN L name id ph dn n s).G.length = s.G.length := by
  induction n with
  | zero => rfl
  | succ n ih =>
    rw [atN_succ, ← ih]
    unfold hear
    split
    · rfl
    · split
      · rfl
      · split
        · unfold hearX
          simp only
          split
          · rw [List.length_set]
          · rfl
        · rfl
theorem atP_on (h : s.now = false) : (atP L name id ph dn s).now = true → (atP L name id ph dn s).on = false :=
  atN_on (fun e => by rw [show s.go.now = s.now from rfl, h] at e; cases e)
theorem atP_G : (atP L name id ph dn s).G.length = s.G.length := atN_G
theorem atN_C : (atN L name id ph dn n s).C.length ≤ s.C.length + n := by
  induction n with
  | zero => exact Nat.le_refl _
  | succ n ih =>
    rw [atN_succ]
    unfold hear
    split
    · omega
    · split
      · omega
      · split
        · unfold hearX; simp only [List.length_append, List.length_singleton]; omega
        · omega
theorem atP_C : (atP L name id ph dn s).C.length ≤ s.C.length + L.length := atN_C
end
/-- along nodes, till one stops it -/
def runG (L : List EarV) (name : ByteArray) (ph : Int) (dn : Bool) : List Nat → SnS → SnS
  | [], s => s
  | p :: l, s => if (atP L name p ph dn s).on then runG L name ph dn l (atP L name p ph dn s) else atP L name p ph dn s
/-- the program's sending: t: from the top down to the parent -/
def sendP (L : List EarV) (name : ByteArray) (t : List Nat) (id : Nat) (rises : Bool) (s : SnS) : SnS :=
  if !(runG L name 1 true t s).on then runG L name 1 true t s else
  if (atP L name id 2 true (runG L name 1 true t s)).now then atP L name id 2 true (runG L name 1 true t s) else
  if !(atP L name id 2 true (runG L name 1 true t s)).on || !(atP L name id 2 false (atP L name id 2 true (runG L name 1 true t s))).on || !rises then atP L name id 2 false (atP L name id 2 true (runG L name 1 true t s)) else
  runG L name 3 false t.reverse (atP L name id 2 false (atP L name id 2 true (runG L name 1 true t s)))
structure StV where
  n : Nat
  p : Int
  d : Bool
/-- the document's sending, along stops -/
def runR (L : List EarV) (name : ByteArray) : List StV → Int → Int → SnS → SnS
  | [], _, _, s => s
  | x :: l, pp, last, s =>
    if 0 ≤ last ∧ ((x.n : Int) ≠ last ∨ x.p ≠ pp) then s else
    if (atP L name x.n x.p x.d s).now then atP L name x.n x.p x.d s else
    runR L name l x.p (if (atP L name x.n x.p x.d s).on then last else (x.n : Int)) (atP L name x.n x.p x.d s)
def stopsR (t : List Nat) (id : Nat) (rises : Bool) : List StV := t.map (fun p => ⟨p, 1, true⟩) ++ ([⟨id, 2, true⟩, ⟨id, 2, false⟩] ++ (if rises then t.reverse.map (fun p => ⟨p, 3, false⟩) else []))
def Obs (s : SnS) : List Bool × List ClV × Bool := (s.G, s.C, s.free)
section
variable {L : List EarV} {name : ByteArray}
theorem runR_cons (x : StV) (l : List StV) (pp last : Int) (s : SnS) : runR L name (x :: l) pp last s = if 0 ≤ last ∧ ((x.n : Int) ≠ last ∨ x.p ≠ pp) then s else
    if (atP L name x.n x.p x.d s).now then atP L name x.n x.p x.d s else
    runR L name l x.p (if (atP L name x.n x.p x.d s).on then last else (x.n : Int)) (atP L name x.n x.p x.d s) := rfl
theorem runG_cons (ph : Int) (dn : Bool) (p : Nat) (l : List Nat) (s : SnS) : runG L name ph dn (p :: l) s = if (atP L name p ph dn s).on then runG L name ph dn l (atP L name p ph dn s) else atP L name p ph dn s := rfl
theorem runR_break {l : List StV} {pp last : Int} {s : SnS} (h0 : 0 ≤ last) (h : ∀ x l', l = x :: l' → (x.n : Int) ≠ last ∨ x.p ≠ pp) : runR L name l pp last s = s := by
  cases l with
  | nil => rfl
  | cons x l =>
    rw [runR_cons, if_pos ⟨h0, h x l rfl⟩]
theorem runG_now {ph : Int} {dn : Bool} : ∀ (l : List Nat) (s : SnS), s.now = false → (runG L name ph dn l s).on = true → (runG L name ph dn l s).now = false := by
  intro l
  induction l with
  | nil => intro s h _; exact h
  | cons p l ih =>
    intro s h
    unfold runG
    by_cases e : (atP L name p ph dn s).on = true
    · rw [if_pos e]
      have hn : (atP L name p ph dn s).now = false := by
        cases h2 : (atP L name p ph dn s).now with
        | false => rfl
        | true => rw [atP_on h h2] at e; cases e
      exact ih _ hn
    · rw [if_neg e]; intro e2; exact absurd e2 e
theorem runR_phase {ph : Int} {dn : Bool} : ∀ (l : List Nat) (rest : List StV) (pp : Int) (s : SnS), l.Nodup → s.now = false → (∀ x l', rest = x :: l' → x.p ≠ ph) →
    ∃ q, runR L name (l.map (fun p => ⟨p, ph, dn⟩) ++ rest) pp (-1) s = if l ≠ [] ∧ (runG L name ph dn l s).on = false then runG L name ph dn l s else runR L name rest q (-1) (runG L name ph dn l s) := by
  intro l
  induction l with
  | nil => intro rest pp s _ _ _; exact ⟨pp, by simp [runG]⟩
  | cons p l ih =>
    intro rest pp s hnd hs hr
    obtain ⟨hp, hnd'⟩ := List.nodup_cons.1 hnd
    rw [List.map_cons, List.cons_append]
    rw [runR_cons, runG_cons, if_neg (by intro h; have := h.1; omega)]
    simp only
    by_cases e : (atP L name p ph dn s).on = true
    · have hn : (atP L name p ph dn s).now = false := by
        cases h2 : (atP L name p ph dn s).now with
        | false => rfl
        | true => rw [atP_on hs h2] at e; cases e
      rw [if_neg (by rw [hn]; simp), if_pos e, if_pos e]
      obtain ⟨q, hq⟩ := ih rest ph (atP L name p ph dn s) hnd' hn hr
      refine ⟨q, hq.trans ?_⟩
      cases l with
      | nil => rw [if_neg (fun h => h.1 rfl), if_neg (fun h => by rw [show runG L name ph dn [] (atP L name p ph dn s) = atP L name p ph dn s from rfl, e] at h; cases h.2)]
      | cons p' l =>
        by_cases e2 : (runG L name ph dn (p' :: l) (atP L name p ph dn s)).on = false
        · rw [if_pos ⟨by simp, e2⟩, if_pos ⟨by simp, e2⟩]
        · rw [if_neg (fun h => e2 h.2), if_neg (fun h => e2 h.2)]
    · refine ⟨pp, ?_⟩
      have e' : (atP L name p ph dn s).on = false := by simpa using e
      simp only [if_neg e]
      rw [if_pos (show p :: l ≠ [] ∧ (atP L name p ph dn s).on = false from ⟨by simp, e'⟩)]
      split
      · rfl
      · refine runR_break (by omega) (fun x l' h => ?_)
        cases l with
        | nil => exact .inr (hr x l' h)
        | cons p' l =>
          rw [List.map_cons, List.cons_append] at h
          injection h with h1 h2
          subst h1
          refine .inl (fun e2 => hp ?_)
          have : p' = p := by have e3 : (p' : Int) = (p : Int) := e2; omega
          rw [this]; simp
/-- both send alike -/
theorem send_eq {t : List Nat} {id : Nat} {rises : Bool} {s : SnS} (ht : t.Nodup) (hs : s.now = false) (hon : s.on = true) : runR L name (stopsR t id rises) 0 (-1) s = sendP L name t id rises s := by
  obtain ⟨q, hq⟩ := runR_phase (L := L) (name := name) (ph := 1) (dn := true) t ([⟨id, 2, true⟩, ⟨id, 2, false⟩] ++ (if rises then t.reverse.map (fun p => ⟨p, 3, false⟩) else [])) 0 s ht hs (fun x l' h => by
    injection h with h1 _; rw [← h1]; simp)
  unfold stopsR sendP
  rw [hq]
  by_cases h1 : (runG L name 1 true t s).on = true
  case neg =>
    have h1' : (runG L name 1 true t s).on = false := by simpa using h1
    have hne : t ≠ [] := fun e => by subst e; exact h1 hon
    rw [if_pos ⟨hne, h1'⟩, h1']; rfl
  have hn1 := runG_now t s hs h1
  rw [if_neg (by rw [h1]; simp), h1]
  simp only [Bool.not_true, Bool.false_eq_true, if_false, List.cons_append, List.nil_append]
  obtain ⟨s1, e1⟩ : ∃ x, x = runG L name 1 true t s := ⟨_, rfl⟩
  rw [← e1] at hn1 ⊢
  rw [runR_cons, if_neg (by intro h; have := h.1; omega)]
  simp only
  by_cases h2 : (atP L name id 2 true s1).now = true
  · rw [if_pos h2, if_pos h2]
  rw [if_neg h2, if_neg h2]
  have hn2 : (atP L name id 2 true s1).now = false := by simpa using h2
  obtain ⟨s2, e2⟩ : ∃ x, x = atP L name id 2 true s1 := ⟨_, rfl⟩
  rw [← e2] at hn2 ⊢
  rw [runR_cons]
  rw [if_neg (by
    rintro ⟨h, h3⟩
    rcases h3 with h3 | h3
    · apply h3
      simp only
      by_cases e : s2.on = true
      · rw [if_pos e] at h; omega
      · rw [if_neg e]
    · exact h3 rfl)]
  simp only
  obtain ⟨s3, e3⟩ : ∃ x, x = atP L name id 2 false s2 := ⟨_, rfl⟩
  have hon3 : s3.now = true → s3.on = false := by rw [e3]; exact atP_on hn2
  rw [← e3]
  by_cases h3 : s3.now = true
  · rw [if_pos h3, hon3 h3]; simp
  rw [if_neg h3]
  have hn3 : s3.now = false := by simpa using h3
  by_cases c2 : s2.on = true
  case neg =>
    have c2' : s2.on = false := by simpa using c2
    rw [c2']
    simp only [Bool.not_false, Bool.true_or, if_true, Bool.false_eq_true, if_false, ite_self]
    refine runR_break (by omega) (fun x l' h => .inr ?_)
    cases rises with
    | false => simp at h
    | true =>
      rw [if_pos rfl] at h
      cases hr : t.reverse with
      | nil => rw [hr] at h; simp at h
      | cons a b => rw [hr, List.map_cons] at h; injection h with h1 _; rw [← h1]; simp
  by_cases c3 : s3.on = true
  case neg =>
    have c3' : s3.on = false := by simpa using c3
    rw [c2, c3']
    simp only [Bool.not_false, Bool.true_or, Bool.or_true, if_true, Bool.false_eq_true, if_false]
    refine runR_break (by omega) (fun x l' h => .inr ?_)
    cases rises with
    | false => simp at h
    | true =>
      rw [if_pos rfl] at h
      cases hr : t.reverse with
      | nil => rw [hr] at h; simp at h
      | cons a b => rw [hr, List.map_cons] at h; injection h with h1 _; rw [← h1]; simp
  rw [c2, c3]
  cases rises with
  | false => simp [runR]
  | true =>
    simp only [if_true, Bool.not_true, Bool.or_false, Bool.false_eq_true, if_false, Bool.false_or]
    obtain ⟨q3, hq3⟩ := runR_phase (L := L) (name := name) (ph := 3) (dn := false) t.reverse [] 2 s3 (List.pairwise_reverse.2 (ht.imp fun h => h.symm)) hn3 (fun x l' h => by cases h)
    rw [List.append_nil] at hq3
    rw [hq3]
    split
    · rfl
    · rfl
end
end Go.Proofs.YtimlmekgapdkiaaDoor
