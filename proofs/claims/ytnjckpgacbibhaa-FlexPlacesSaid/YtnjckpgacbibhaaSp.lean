/- FlexPlaces: the little contracts -/
import Derived.Test.YtnjckpgacbibhaaBr2
namespace Go.Proofs.Ytnjckpgacbibhaa
set_option linter.unusedVariables false
set_option linter.unusedSimpArgs false
open Go.RowKit Go.Cas

theorem c_heldF (n : Int) (w : World) : Calls Try.prog 73 #[.int .i64 n] w fun e w' => e = .returned (.int .i64 (hld n)) ∧ w = w' := by
  unfold hld
  go_enter Try.func73, Try.ntmps73
  go_wp2
  all_goals (go_ret; exact ⟨ret_int (by omega), rfl⟩)
theorem floor2_q (n : Int) (h : -100000000000 ≤ n ∧ n ≤ 100000000000) : (n.tmod 2 < 0 → wrap64 (n.tdiv 2 - 1) = n / 2) ∧ (0 ≤ n.tmod 2 → n.tdiv 2 = n / 2) := by
  have hd := Int.tmod_def n 2
  rw [Int.tdiv_eq_ediv] at *
  have e1 : Int.sign 2 = 1 := by decide
  by_cases h0 : 0 ≤ n ∨ (2 : Int) ∣ n
  · simp only [if_pos h0, Int.add_zero] at *
    exact ⟨fun hh => by omega, fun _ => trivial⟩
  · simp only [if_neg h0, e1] at *
    rw [IntWalk.wrap64_in _ ⟨by omega, by omega⟩]
    exact ⟨fun _ => by omega, fun hh => by omega⟩
theorem c_floor2 (n : Int) (w : World) (h : -100000000000 ≤ n ∧ n ≤ 100000000000) : Calls Try.prog 74 #[.int .i64 n, .int .i64 2] w fun e w' => e = .returned (.int .i64 (n / 2)) ∧ w = w' := by
  have hq := floor2_q n h
  have H := Lib.hid hq
  clear hq
  go_enter Try.func74, Try.ntmps74
  go_wp2
  · go_ret; exact ⟨ret_int (H.out.1 (by assumption)), rfl⟩
  · go_ret; exact ⟨ret_int (H.out.2 (by omega)), rfl⟩
def stF (a room how : Int) : Int := if how = 1 then hld room - hld a else if how = 2 then (hld room - hld a) / 2 else 0
theorem c_StandF (a room how : Int) (w : World) : Calls Try.prog 35 #[.int .i64 a, .int .i64 room, .int .i64 how] w fun e w' => e = .returned (.int .i64 (stF a room how)) ∧ w = w' := by
  go_enter Try.func35, Try.ntmps35
  have h1 := hld_bd a
  have h2 := hld_bd room
  unfold stF
  go_wp2_with (first | (go_at_call 73; refine (c_heldF _ _).mono ?_; rintro e w' ⟨rfl, rfl⟩) | (go_at_call 74; refine (c_floor2 _ _ (by omega)).mono ?_; rintro e w' ⟨rfl, rfl⟩))
  all_goals (go_ret; refine ⟨ret_int ?_, rfl⟩; (try simp only [beq_iff_eq, beq_eq_false_iff_ne, ne_eq] at *); first | done | omega)
theorem c_StandR (a room how : Int) (w : World) : Calls Try.prog 38 #[.int .i64 a, .int .i64 room, .int .i64 how] w fun e w' => e = .returned (.int .i64 (stF a room how)) ∧ w = w' := by
  go_enter Try.func38, Try.ntmps38
  have h1 := hld_bd a
  have h2 := hld_bd room
  unfold stF
  go_wp2_with (first | (go_at_call 17; refine (c_Held4 _ _).mono ?_; rintro e w' ⟨rfl, rfl⟩) | (go_at_call 57; refine (c_Down _ _ _ (by omega) (by omega) (by omega)).mono ?_; rintro e w' ⟨rfl, rfl⟩))
  all_goals (go_ret; refine ⟨ret_int ?_, rfl⟩; (try simp only [beq_iff_eq, beq_eq_false_iff_ne, ne_eq] at *); first | done | omega)
theorem c_few (v : Value) (l ws : List Int) (lim N M : Nat) (w : World) (h : RdS w lim 1 v N (vInts l)) (hn : N ≤ 1000) (hM : M = min N 200) (hws : ws = l.take 200) : Calls Try.prog 72 #[v] w fun e w' => (∃ u, e = .returned u ∧ RdS w lim 1 u M (vInts ws)) ∧ w = w' := by
  obtain ⟨hl, A, c, rfl, hnc, hcell⟩ := h
  have hl' : l.length = N := by simpa [vInts] using hl
  have HC := Lib.hid hcell
  clear hcell hl
  have HM := Lib.hid hM
  have HW := Lib.hid hws
  clear hM hws
  go_enter Try.func72, Try.ntmps72
  go_wp2_with fail
  all_goals
    go_ret
    first
    | (have e : M = 200 := by have := HM.out; omega
       subst e
       refine ⟨⟨.slice A 200 c, rfl, by simp [vInts, HW.out]; omega, A, c, rfl, by omega, fun _ => ?_⟩, rfl⟩)
    | (have e : M = N := by have := HM.out; omega
       subst e
       refine ⟨⟨.slice A M c, rfl, by simp [vInts, HW.out]; omega, A, c, rfl, by omega, fun _ => ?_⟩, rfl⟩)
    obtain ⟨g, o, e1, e2, e3⟩ := HC.out (by omega)
    refine ⟨g, o, e1, e2, fun j u hu => e3 j u ?_⟩
    rw [HW.out] at hu
    simp only [vInts, List.map_take] at hu ⊢
    rw [List.getElem?_take] at hu
    split at hu
    · exact hu
    · simp at hu

/-- what is added to the k-th place -/
def latF (how left n k : Int) : Int :=
  if how = 1 then left else if how = 2 then left / 2 else if left < 0 then 0 else if how = 3 ∧ 1 < n then left * k / (n - 1) else if how = 4 then left * (2 * k + 1) / (2 * n) else if how = 5 then left * (k + 1) / (n + 1) else 0
def spr (how left n gap : Int) : Nat → Int → List Int → List Int
  | _, _, [] => []
  | k, at_, a :: l => (at_ + latF how left n k) :: spr how left n gap (k + 1) (at_ + (hld a + gap)) l
def sumH (l : List Int) : Int := (l.map hld).sum
theorem spr_len (how left n gap : Int) (k : Nat) (at_ : Int) (l : List Int) : (spr how left n gap k at_ l).length = l.length := by
  induction l generalizing k at_ with
  | nil => rfl
  | cons a l ih => simp [spr, ih]
theorem spr_drop (how left n gap : Int) (k : Nat) (at_ a : Int) (l : List Int) (h : l[k]? = some a) : spr how left n gap k at_ (l.drop k) = (at_ + latF how left n k) :: spr how left n gap (k + 1) (at_ + (hld a + gap)) (l.drop (k + 1)) := by
  obtain ⟨h1, h2⟩ := List.getElem?_eq_some_iff.1 h
  rw [List.drop_eq_getElem_cons h1, h2]
  rfl
theorem sumH_take (l : List Int) (k : Nat) (a : Int) (h : l[k]? = some a) : sumH (l.take (k + 1)) = sumH (l.take k) + hld a := by
  obtain ⟨h1, h2⟩ := List.getElem?_eq_some_iff.1 h
  unfold sumH
  rw [List.take_succ_eq_append_getElem h1, h2, List.map_append, List.sum_append]
  simp
theorem sumH_bd (l : List Int) : -16777216 * (l.length : Int) ≤ sumH l ∧ sumH l ≤ 16777216 * l.length := by
  induction l with
  | nil => simp [sumH]
  | cons a l ih =>
    have := hld_bd a
    simp only [sumH, List.map_cons, List.sum_cons, List.length_cons] at ih ⊢
    omega
/-- the gaps of k things -/
def gpM (g : Int) (k : Nat) : Int := g * max 0 ((k : Int) - 1)
theorem gpM_zero (g : Int) : gpM g 0 = 0 := by
  unfold gpM
  rw [show max 0 (((0 : Nat) : Int) - 1) = 0 from by omega, Int.mul_zero]
theorem gpM_succ (g : Int) (k : Nat) : gpM g (k + 1) = gpM g k + if 0 < k then g else 0 := by
  unfold gpM
  by_cases h : 0 < k
  · have e1 : max 0 (((k + 1 : Nat) : Int) - 1) = (max 0 ((k : Int) - 1)) + 1 := by omega
    rw [e1, Int.mul_add, if_pos h]; omega
  · have e0 : k = 0 := by omega
    subst e0
    rw [show max 0 (((0 : Nat) : Int) - 1) = 0 from by omega, show max 0 (((0 + 1 : Nat) : Int) - 1) = 0 from by omega]
    simp
/-- products stay small -/
theorem mul_bd (a b B : Int) (h1 : 0 ≤ a) (h2 : a ≤ B) (h3 : 0 ≤ b) (h4 : b ≤ 500) : 0 ≤ a * b ∧ a * b ≤ B * 500 :=
  ⟨Int.mul_nonneg h1 h3, Int.mul_le_mul h2 h4 h3 (by omega)⟩
theorem gpM_bd (g : Int) (k : Nat) (hg : -16777216 ≤ g ∧ g ≤ 16777216) (hk : k ≤ 500) : -16777216 * 500 ≤ gpM g k ∧ gpM g k ≤ 16777216 * 500 := by
  unfold gpM
  by_cases h0 : 0 ≤ g
  · have := mul_bd g (max 0 ((k : Int) - 1)) 16777216 h0 (by omega) (by omega) (by omega); omega
  · have := mul_bd (-g) (max 0 ((k : Int) - 1)) 16777216 (by omega) (by omega) (by omega) (by omega)
    rw [Int.neg_mul] at this; omega
/-- a share, not below nothing -/
theorem share_bd (a b B : Int) (h1 : 0 ≤ a) (h2 : a ≤ B) (h3 : 0 ≤ b) : a.tdiv b = a / b ∧ 0 ≤ a / b ∧ a / b ≤ B := by
  refine ⟨Int.tdiv_eq_ediv_of_nonneg h1, Int.ediv_nonneg h1 h3, ?_⟩
  have := Int.ediv_le_self b h1
  omega
theorem shares (left : Int) (k M : Nat) (hl : left ≤ 16777216 * 800) (hk : k ≤ 200) :
    Hid (0 ≤ left → ((left * k).tdiv ((M : Int) - 1) = left * k / ((M : Int) - 1) ∨ M = 0) ∧ 0 ≤ left * k ∧ left * k ≤ 16777216 * 400000) ∧
    Hid (0 ≤ left → (left * (2 * k + 1)).tdiv (2 * (M : Int)) = left * (2 * k + 1) / (2 * (M : Int)) ∧ 0 ≤ left * (2 * k + 1) ∧ left * (2 * k + 1) ≤ 16777216 * 400000) ∧
    Hid (0 ≤ left → (left * (k + 1)).tdiv ((M : Int) + 1) = left * (k + 1) / ((M : Int) + 1) ∧ 0 ≤ left * (k + 1) ∧ left * (k + 1) ≤ 16777216 * 400000) ∧
    Hid (0 ≤ left → M ≠ 0 → 0 ≤ left * k / ((M : Int) - 1) ∧ left * k / ((M : Int) - 1) ≤ 16777216 * 400000) ∧
    Hid (0 ≤ left → 0 ≤ left * (2 * k + 1) / (2 * (M : Int)) ∧ left * (2 * k + 1) / (2 * (M : Int)) ≤ 16777216 * 400000) ∧
    Hid (0 ≤ left → 0 ≤ left * (k + 1) / ((M : Int) + 1) ∧ left * (k + 1) / ((M : Int) + 1) ≤ 16777216 * 400000) := by
  unfold Hid
  refine ⟨fun h => ?_, fun h => ?_, fun h => ?_, fun h h2 => ?_, fun h => ?_, fun h => ?_⟩
  · have := mul_bd left k _ h hl (by omega) (by omega)
    exact ⟨.inl (Int.tdiv_eq_ediv_of_nonneg this.1), this.1, by omega⟩
  · have := mul_bd left (2 * k + 1) _ h hl (by omega) (by omega)
    exact ⟨Int.tdiv_eq_ediv_of_nonneg this.1, this.1, by omega⟩
  · have := mul_bd left (k + 1) _ h hl (by omega) (by omega)
    exact ⟨Int.tdiv_eq_ediv_of_nonneg this.1, this.1, by omega⟩
  · have := mul_bd left k _ h hl (by omega) (by omega)
    have := share_bd (left * k) ((M : Int) - 1) _ this.1 this.2 (by omega)
    omega
  · have := mul_bd left (2 * k + 1) _ h hl (by omega) (by omega)
    have := share_bd (left * (2 * k + 1)) (2 * (M : Int)) _ this.1 this.2 (by omega)
    omega
  · have := mul_bd left (k + 1) _ h hl (by omega) (by omega)
    have := share_bd (left * (k + 1)) ((M : Int) + 1) _ this.1 this.2 (by omega)
    omega
end Go.Proofs.Ytnjckpgacbibhaa
