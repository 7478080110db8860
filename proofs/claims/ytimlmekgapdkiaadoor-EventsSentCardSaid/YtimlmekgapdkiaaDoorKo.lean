/- ears: two lists of calls that are one -/
import Derived.Test.YtimlmekgapdkiaaDoorKm
namespace Go.Proofs.YtimlmekgapdkiaaDoor
set_option linter.unusedVariables false
set_option linter.unusedSimpArgs false
open Go.RowKit Go.Cas

set_option maxRecDepth 100000 in
set_option maxHeartbeats 8000000 in
theorem c_sameCalls {w : World} {n lim : Nat} {v v2 : Value} {C : List ClV} (h : RdS w lim 3 v n (C.flatMap callc)) (h2 : RdS w lim 3 v2 n (C.flatMap callc)) (hn : n ≤ 1000000000) (hlim : lim ≤ w.heap.size) :
    Calls Tryd.prog 32 #[v, v2] w fun e w' => e = .returned (.bool true) ∧ Below w.heap.size w w' := by
  have hll : C.length = n := by have := h.1; rw [calls_len] at this; omega
  obtain ⟨_, A, c, rfl, _, hc⟩ := h
  obtain ⟨_, A2, c2, rfl, _, hc2⟩ := h2
  have HL := Lib.hid hll
  have HC1 := Lib.hid hc
  have HC2 := Lib.hid hc2
  have HLIM := Lib.hid hlim
  clear hll hc hc2
  go_enter Tryd.func32, Tryd.ntmps32
  go_wp2_with fail
  go_loopw [5] (fun i wr => ∃ (k m : Nat), k ≤ n ∧ i = .int .i64 k ∧ wr = w.drewN m) (fun i _ => n - (intOf i).toNat)
  case atStart => exact ⟨0, 0, by omega, rfl, rfl⟩
  case round =>
    obtain ⟨k, m, hk, rfl, rfl⟩ := hrel
    by_cases hlt : k < n
    · have hik : (k : Int) < (n : Int) := by omega
      obtain ⟨x, hx⟩ : ∃ x, C[k]? = some x := ⟨_, List.getElem?_eq_getElem (by have := HL.out; omega)⟩
      obtain ⟨g, o, rfl, hg, hcc⟩ := HC1.out (by omega)
      obtain ⟨g2, o2, rfl, hg2, hcc2⟩ := HC2.out (by omega)
      have key : ∀ j, j < 3 → ∀ u, (callc x)[j]? = some u → w.cell? ⟨g, o + k * 3 + j, none⟩ = some u := fun j hj u hu => by
        have := hcc (k * 3 + j) u (by rw [flat_get callc 3 (fun _ => rfl) C k j x hx hj]; exact hu)
        rw [← Nat.add_assoc] at this
        exact this
      have key2 : ∀ j, j < 3 → ∀ u, (callc x)[j]? = some u → w.cell? ⟨g2, o2 + k * 3 + j, none⟩ = some u := fun j hj u hu => by
        have := hcc2 (k * 3 + j) u (by rw [flat_get callc 3 (fun _ => rfl) C k j x hx hj]; exact hu)
        rw [← Nat.add_assoc] at this
        exact this
      have a0 : w.cell? ⟨g, o + k * 3, none⟩ = some (.int .i64 (x.e : Int)) := key 0 (by omega) _ rfl
      have a1 := key 1 (by omega) _ rfl
      have a2 := key 2 (by omega) _ rfl
      have b0 : w.cell? ⟨g2, o2 + k * 3, none⟩ = some (.int .i64 (x.e : Int)) := key2 0 (by omega) _ rfl
      have b1 := key2 1 (by omega) _ rfl
      have b2 := key2 2 (by omega) _ rfl
      have hgs : g < w.heap.size := Nat.lt_of_lt_of_le hg hlim
      have hgs2 : g2 < w.heap.size := Nat.lt_of_lt_of_le hg2 hlim
      clear hx hcc hcc2 key key2
      go_upto_region 6 with fail
      go_quiet (fail)
      go_wp2_with fail
      go_roundw
      case rel => exact ⟨k + 1, m + nq, by omega, by go_num, rfl⟩
      case measure => simp [intOf]; omega
    · obtain rfl : k = n := by omega
      go_wp2_with fail
      go_ret
      exact ⟨rfl, bl_drewN (Below.refl _ _) m⟩
end Go.Proofs.YtimlmekgapdkiaaDoor
