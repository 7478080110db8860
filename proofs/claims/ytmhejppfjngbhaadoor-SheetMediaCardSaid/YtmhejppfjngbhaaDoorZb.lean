/- sheets: components in memory: what a token opens lies in a row of its own -/
import Derived.Test.YtmhejppfjngbhaaDoorYr
namespace Go.Proofs.YtmhejppfjngbhaaDoor
set_option linter.unusedVariables false
set_option linter.unusedSimpArgs false
open Go.RowKit Go.Cas

/-- a component's cells -/
def rcc (t : Tk) (e : Nat) (kv : Value) (c : Bool) : List Value := [.string (kdS t.k), .string t.t, .string t.u, .int .i64 (t.a : Int), .int .i64 (t.b : Int), .string (opS e), kv, .bool c]
theorem rcc_len (t : Tk) (e : Nat) (kv : Value) (c : Bool) : (rcc t e kv c).length = 8 := rfl
/-- a slice that reads as a list; its block is one of some -/
def RdP (w : World) (P : Nat → Prop) (size : Nat) (v : Value) (n : Nat) (xs : List Value) : Prop :=
  xs.length = n * size ∧ ∃ A c, v = .slice A n c ∧ n ≤ c ∧ (0 < n → ∃ g o, A = some ⟨g, o, none⟩ ∧ P g ∧ ∀ j u, xs[j]? = some u → w.cell? ⟨g, o + j, none⟩ = some u)
theorem RdP.keep {w w' : World} {P : Nat → Prop} {size n : Nat} {v : Value} {xs : List Value} (h : RdP w P size v n xs) (hk : ∀ g o, P g → w'.cell? ⟨g, o, none⟩ = w.cell? ⟨g, o, none⟩) : RdP w' P size v n xs := by
  obtain ⟨h1, A, c, h2, h3, h4⟩ := h
  refine ⟨h1, A, c, h2, h3, fun hn => ?_⟩
  obtain ⟨g, o, e, hg, hc⟩ := h4 hn
  exact ⟨g, o, e, hg, fun j u hu => (hk _ _ hg).trans (hc j u hu)⟩
theorem RdP.mono {w : World} {P P' : Nat → Prop} {size n : Nat} {v : Value} {xs : List Value} (h : RdP w P size v n xs) (hl : ∀ g, P g → P' g) : RdP w P' size v n xs := by
  obtain ⟨h1, A, c, h2, h3, h4⟩ := h
  refine ⟨h1, A, c, h2, h3, fun hn => ?_⟩
  obtain ⟨g, o, e, hg, hc⟩ := h4 hn
  exact ⟨g, o, e, hl g hg, hc⟩
theorem RdP.nil (w : World) (P : Nat → Prop) (size : Nat) : RdP w P size (.slice none 0 0) 0 [] := ⟨by simp, none, 0, rfl, by omega, fun h => by omega⟩
theorem RdP.of_own {w : World} {base size n : Nat} {v : Value} {xs : List Value} {e : TypeId} {P : Nat → Prop} (h : w.ownsRow base e size v n xs) (hP : ∀ g, v.ownBlock = some g → base ≤ g → g < w.heap.size → P g) : RdP w P size v n xs := by
  refine ⟨h.1, ?_⟩
  rcases h.2 with ⟨rfl, rfl⟩ | ⟨g, cap, cur, rfl, hb, hh, hn, hm, hcs, hx⟩
  · exact ⟨none, 0, rfl, by omega, fun h => by omega⟩
  · refine ⟨_, _, rfl, hn, fun _ => ⟨g, 0, rfl, hP g rfl hb (Array.getElem?_eq_some_iff.1 hh).1, fun j u hu => ?_⟩⟩
    have := h.cells (g := g) rfl j u hu
    have e : (⟨g, 0, none⟩ : Addr).add j = ⟨g, 0 + j, none⟩ := by
      unfold Addr.add; split
      · rename_i h; rw [h]
      · simp
    rw [← e]; exact this
/-- a row's cells: components -/
inductive RowC (w : World) (P : Nat → Prop) : List Cm → List Value → Prop
  | nil : RowC w P [] []
  | cons {t : Tk} {e : Nat} {ks cs : List Cm} {c : Bool} {kv : Value} {K R : List Value} : RowC w P ks K → RdP w P 8 kv ks.length K → RowC w P cs R → RowC w P (.mk t e ks c :: cs) (rcc t e kv c ++ R)
section
variable {w w' : World} {P P' : Nat → Prop} {cs : List Cm} {R : List Value}
theorem RowC.len (h : RowC w P cs R) : R.length = cs.length * 8 := by
  induction h with
  | nil => rfl
  | cons _ _ _ _ ih => rw [List.length_append, rcc_len, ih, List.length_cons]; omega
theorem RowC.keep (h : RowC w P cs R) (hk : ∀ g o, P g → w'.cell? ⟨g, o, none⟩ = w.cell? ⟨g, o, none⟩) : RowC w' P cs R := by
  induction h with
  | nil => exact .nil
  | cons _ h2 _ ih1 ih3 => exact .cons ih1 (h2.keep hk) ih3
theorem RowC.blw {B : Nat} (h : RowC w P cs R) (hb : Below B w w') (hB : ∀ g, P g → g < B) : RowC w' P cs R := h.keep fun g o hg => hb.cell (p := ⟨g, o, none⟩) (hB g hg)
theorem RowC.mono (h : RowC w P cs R) (hl : ∀ g, P g → P' g) : RowC w P' cs R := by
  induction h with
  | nil => exact .nil
  | cons _ h2 _ ih1 ih3 => exact .cons ih1 (h2.mono hl) ih3
theorem RowC.app {ds : List Cm} {S : List Value} (h : RowC w P cs R) (k : RowC w P ds S) : RowC w P (cs ++ ds) (R ++ S) := by
  induction h with
  | nil => exact k
  | cons h1 h2 _ _ ih3 => rw [List.cons_append, List.append_assoc]; exact .cons h1 h2 ih3
theorem RowC.one {t : Tk} {e : Nat} {ks : List Cm} {c : Bool} {kv : Value} {K : List Value} (h : RowC w P ks K) (k : RdP w P 8 kv ks.length K) : RowC w P [.mk t e ks c] (rcc t e kv c) := by
  have := RowC.cons (t := t) (e := e) (c := c) h k (.nil (w := w) (P := P))
  rwa [List.append_nil] at this
theorem RowC.get (h : RowC w P cs R) : ∀ i x, cs[i]? = some x → ∃ kv K, RowC w P x.ks K ∧ RdP w P 8 kv x.ks.length K ∧ ∀ j, j < 8 → R[i * 8 + j]? = (rcc x.t x.e kv x.cl)[j]? := by
  induction h with
  | nil => intro i x hx; cases hx
  | @cons t e ks cs c kv K R h1 h2 h3 ih1 ih3 =>
    intro i x hx
    cases i with
    | zero =>
      injection hx with hx
      subst hx
      refine ⟨kv, K, h1, h2, fun j hj => ?_⟩
      rw [List.getElem?_append_left (by rw [rcc_len]; omega)]
      rw [Nat.zero_mul, Nat.zero_add]; rfl
    | succ i =>
      obtain ⟨kv', K', q1, q2, q3⟩ := ih3 i x hx
      refine ⟨kv', K', q1, q2, fun j hj => ?_⟩
      rw [List.getElem?_append_right (by rw [rcc_len]; omega), rcc_len, show (i + 1) * 8 + j - 8 = i * 8 + j by omega]
      exact q3 j hj
theorem RowC.split : ∀ (p : List Cm) {bs : List Cm} {R : List Value}, RowC w P (p ++ bs) R → ∃ A B, R = A ++ B ∧ RowC w P p A ∧ RowC w P bs B := by
  intro p
  induction p with
  | nil => intro bs R h; exact ⟨[], R, rfl, .nil, h⟩
  | cons a p ih =>
    intro bs R h
    rw [List.cons_append] at h
    cases h with
    | cons h1 h2 h3 =>
      obtain ⟨A, B, rfl, q1, q2⟩ := ih h3
      exact ⟨_ ++ A, B, by rw [List.append_assoc], .cons h1 h2 q1, q2⟩
end
/-- a slice that reads as components -/
def RC (w : World) (P : Nat → Prop) (v : Value) (cs : List Cm) : Prop := ∃ R, RowC w P cs R ∧ RdP w P 8 v cs.length R
section
variable {w w' : World} {P P' : Nat → Prop} {v : Value} {cs : List Cm}
theorem RC.below {B : Nat} (h : RC w P v cs) (hb : Below B w w') (hB : ∀ g, P g → g < B) : RC w' P v cs := by
  obtain ⟨R, h1, h2⟩ := h
  exact ⟨R, h1.blw hb hB, h2.keep fun g o hg => hb.cell (p := ⟨g, o, none⟩) (hB g hg)⟩
theorem RC.mono (h : RC w P v cs) (hl : ∀ g, P g → P' g) : RC w P' v cs := by
  obtain ⟨R, h1, h2⟩ := h
  exact ⟨R, h1.mono hl, h2.mono hl⟩
theorem RC.none_ : RC w P (.slice none 0 0) [] := ⟨[], .nil, RdP.nil _ _ _⟩
theorem RC.end_ {c : Nat} {A : Option Addr} : RC w P (.slice A 0 c) [] := ⟨[], .nil, rfl, _, _, rfl, Nat.zero_le _, fun h => absurd h (by simp)⟩
theorem RC.nil (h : RC w P v []) : ∃ A c, v = .slice A 0 c := by
  obtain ⟨R, h1, h2, A, c, h3, _⟩ := h
  exact ⟨A, c, h3⟩
theorem RC.len (h : RC w P v cs) : ∃ A c, v = .slice A cs.length c ∧ cs.length ≤ c := by
  obtain ⟨R, h1, h2, A, c, h3, h4, _⟩ := h
  exact ⟨A, c, h3, h4⟩
/-- where it lies -/
theorem RC.form (h : RC w P v cs) (hn : cs ≠ []) : ∃ g o c R, v = .slice (some ⟨g, o, none⟩) cs.length c ∧ cs.length ≤ c ∧ P g ∧ RowC w P cs R ∧ ∀ j u, R[j]? = some u → w.cell? ⟨g, o + j, none⟩ = some u := by
  obtain ⟨R, h1, h2, A, c, h3, h4, h5⟩ := h
  obtain ⟨g, o, rfl, hg, hc⟩ := h5 (List.length_pos_iff.2 hn)
  exact ⟨g, o, c, R, h3, h4, hg, h1, hc⟩
/-- a component's cells -/
theorem RC.cells {g o : Nat} {R : List Value} (h : RowC w P cs R) (hc : ∀ j u, R[j]? = some u → w.cell? ⟨g, o + j, none⟩ = some u) {i : Nat} {x : Cm} (hx : cs[i]? = some x) : ∃ kv, RC w P kv x.ks ∧ ∀ j, j < 8 → w.cell? ⟨g, o + (i * 8 + j), none⟩ = (rcc x.t x.e kv x.cl)[j]? := by
  obtain ⟨kv, K, q1, q2, q3⟩ := h.get i x hx
  refine ⟨kv, ⟨K, q1, q2⟩, fun j hj => ?_⟩
  have hv : (rcc x.t x.e kv x.cl)[j]? = some ((rcc x.t x.e kv x.cl)[j]'hj) := List.getElem?_eq_getElem hj
  have := q3 j hj
  rw [hv] at this ⊢
  exact hc _ _ this
/-- some of the components -/
theorem RC.sub {g o a m c' : Nat} {A : Option Addr} {R : List Value} {p s l2 : List Cm} (h : RowC w P (p ++ (l2 ++ s)) R) (hc : ∀ j u, R[j]? = some u → w.cell? ⟨g, o + j, none⟩ = some u) (hp : p.length = a) (hA : 0 < m → A = some ⟨g, o + a * 8, none⟩) (hg : P g) (hm : m = l2.length) (hcc : m ≤ c') : RC w P (.slice A m c') l2 := by
  obtain ⟨P, Q, rfl, h1, h2⟩ := h.split p
  obtain ⟨M, S, rfl, h3, h4⟩ := h2.split l2
  subst hm
  refine ⟨M, h3, h3.len, _, _, rfl, hcc, fun h0 => ⟨g, o + a * 8, hA h0, hg, fun j u hu => ?_⟩⟩
  have hl := h1.len
  have := hc (a * 8 + j) u (by
    rw [List.getElem?_append_right (by omega), List.getElem?_append_left (by have := (List.getElem?_eq_some_iff.1 hu).1; omega), show a * 8 + j - P.length = j by omega]
    exact hu)
  rw [Nat.add_assoc]; exact this
theorem RC.keep (h : RC w P v cs) (hk : ∀ g o, P g → w'.cell? ⟨g, o, none⟩ = w.cell? ⟨g, o, none⟩) : RC w' P v cs := by
  obtain ⟨R, h1, h2⟩ := h
  exact ⟨R, h1.keep hk, h2.keep hk⟩
theorem RC.of_own {base n : Nat} {e : TypeId} {R : List Value} (h : w.ownsRow base e 8 v n R) (hR : RowC w P cs R) (hl : ∀ g, P g → P' g) (hP : ∀ g, v.ownBlock = some g → base ≤ g → g < w.heap.size → P' g) (hn : n = cs.length) : RC w P' v cs := by
  subst hn
  exact ⟨R, hR.mono hl, RdP.of_own h hP⟩
end
/-- components' rows: where blanks at the end are left out -/
theorem endL_bl {z : Cm} (h : blm z = true) : ∀ a : List Cm, endL (a ++ [z]) = endL a := by
  intro a
  induction a with
  | nil =>
    rw [List.nil_append, endL_nil (by simp [endL]), if_pos (show bl0 z.t = true from h)]; simp [endL]
  | cons x a ih =>
    rw [List.cons_append]
    by_cases hn : endL a = []
    · rw [endL_nil hn, endL_nil (by rw [ih, hn])]
    · rw [endL_cons hn, endL_cons (by rw [ih]; exact hn), ih]
theorem endL_no {z : Cm} (h : blm z = false) : ∀ a : List Cm, endL (a ++ [z]) = a ++ [endC z] := by
  intro a
  induction a with
  | nil =>
    rw [List.nil_append, endL_nil (by simp [endL]), if_neg (by show ¬ blm z = true; rw [h]; decide)]; rfl
  | cons x a ih =>
    rw [List.cons_append, endL_cons (by rw [ih]; simp), ih]; rfl
end Go.Proofs.YtmhejppfjngbhaaDoor
