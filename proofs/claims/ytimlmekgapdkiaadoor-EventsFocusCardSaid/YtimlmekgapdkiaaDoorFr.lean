/- what lies in any number's node, in both trees -/
import Derived.Test.YtimlmekgapdkiaaDoorFq
import Derived.Test.YtimlmekgapdkiaaDoorUs
namespace Go.Proofs.YtimlmekgapdkiaaDoor
set_option linter.unusedVariables false
set_option linter.unusedSimpArgs false
open Go.RowKit Go.Cas

theorem c_UnderNo {w : World} {B R : Nat} {F : Nat → Prop} {T : List Nod} {D : List (Value × List Nod)} {z : Int} (h : TS B R T D F w) (hT : T.length ≤ 400) (hz : z < 0 ∨ (T.length : Int) ≤ z) :
    Calls Tryd.prog 61 #[.pointer (some ⟨R, 0, none⟩), .int .i64 z] w (WyRet w []) := by
  obtain ⟨L, cap, uv, Z, M, h1, hM, _⟩ := h.ns
  have hlM : M.length = T.length := by rw [← hM]; simp
  have HI := Lib.hid (c_is_no h1 z (by omega) (by omega))
  clear h h1 hM hlM hz
  go_enter Tryd.func61, Tryd.ntmps61
  go_wp2_with (go_at_call 47; refine (HI.out).mono ?_; rintro e w' ⟨rfl, rfl⟩)
  go_ret
  exact ⟨_, rfl, World.ownsRow_nil _ _ _ _, Below.refl _ _⟩
theorem c_rHasNo {w : World} {B R n : Nat} {τ : Nat → Nat} {T : List Nod} (h : RS B R T n τ w) (z : Int) (hz : z < 0 ∨ (T.length : Int) ≤ z) (hT : T.length ≤ 400) :
    Calls Tryd.prog 73 #[.pointer (some ⟨R, 0, none⟩), .int .i64 z] w fun e w' => e = .returned (.bool false) ∧ w = w' := by
  obtain ⟨L, cap, tv, xs, M, h1, hM⟩ := h
  have hl : M.length = T.length := by rw [← hM]; simp
  obtain ⟨h0, _⟩ := h1.heads
  have hr := h1.ltR
  have hl4 : M.length ≤ 400 := by omega
  by_cases hz0 : z < 0
  · have hz1 : ¬ 0 ≤ z := by omega
    clear h1 hM hl hz hT
    go_enter Tryd.func73, Tryd.ntmps73
    go_wp2_with fail
    go_ret
    exact ⟨rfl, rfl⟩
  · have hz1 : 0 ≤ z := by omega
    have hz2 : ¬ z < (M.length : Int) := by omega
    clear h1 hM hl hz hT
    go_enter Tryd.func73, Tryd.ntmps73
    go_wp2_with fail
    go_ret
    exact ⟨rfl, rfl⟩
theorem c_rUnderNo {w : World} {B R n : Nat} {τ : Nat → Nat} {T : List Nod} {z : Int} (h : RS B R T n τ w) (hT : T.length ≤ 400) (hz : z < 0 ∨ (T.length : Int) ≤ z) :
    Calls Tryd.prog 62 #[.pointer (some ⟨R, 0, none⟩), .int .i64 z] w (WyRet w []) := by
  have HI := Lib.hid (c_rHasNo h z hz hT)
  clear h hz
  go_enter Tryd.func62, Tryd.ntmps62
  go_wp2_with (go_at_call 73; refine (HI.out).mono ?_; rintro e w' ⟨rfl, rfl⟩)
  go_ret
  exact ⟨_, rfl, World.ownsRow_nil _ _ _ _, Below.refl _ _⟩
/-- what lies in the node of a number, one list for both trees -/
theorem und_any {T : List Nod} {d : Nat → Nat} (hW : WF T d) (hT : T.length ≤ 400) (z : Int) : ∃ u : List Nat, u.length ≤ 400 ∧ u.Nodup ∧ (∀ x ∈ u, x < T.length) ∧
    (∀ (B R : Nat) (F : Nat → Prop) (D : List (Value × List Nod)) (w : World), TS B R T D F w → Calls Tryd.prog 61 #[.pointer (some ⟨R, 0, none⟩), .int .i64 z] w (WyRet w u)) ∧
    (∀ (B R n : Nat) (τ : Nat → Nat) (w : World), RS B R T n τ w → Calls Tryd.prog 62 #[.pointer (some ⟨R, 0, none⟩), .int .i64 z] w (WyRet w u)) := by
  by_cases hz : z < 0 ∨ (T.length : Int) ≤ z
  · exact ⟨[], by simp, List.nodup_nil, by simp, fun B R F D w h => c_UnderNo h hT hz, fun B R n τ w h => c_rUnderNo h hT hz⟩
  · obtain ⟨i, rfl⟩ : ∃ i : Nat, z = (i : Int) := ⟨z.toNat, by omega⟩
    have hi : i < T.length := by omega
    obtain ⟨Dm, hD⟩ : ∃ Dm, ∀ k, k < T.length → d k ≤ Dm := ⟨((List.range T.length).map d).sum, fun k hk => by
      have : d k ∈ (List.range T.length).map d := List.mem_map_of_mem (List.mem_range.2 hk)
      exact le_sum _ _ this⟩
    exact ⟨und T (Dm + 1) i, Nat.le_trans (und_len hW _ i hi) hT, und_nodup hW _ i hi, fun x hx => (und_mem hW _ i hi x hx).1, fun B R F D w h => c_UnderF hW hD hT (Dm + 1) w i h hi (by omega), fun B R n τ w h => c_rUnderF hW hD hT (Dm + 1) w i h hi (by omega)⟩
end Go.Proofs.YtimlmekgapdkiaaDoor
