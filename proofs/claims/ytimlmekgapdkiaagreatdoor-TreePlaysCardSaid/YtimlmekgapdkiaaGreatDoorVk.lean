/- the tree: Take -/
import Derived.Test.YtimlmekgapdkiaaGreatDoorVj
namespace Go.Proofs.YtimlmekgapdkiaaGreatDoor
set_option linter.unusedVariables false
set_option linter.unusedSimpArgs false
open Go.RowKit Go.Cas

theorem set_self_pa (T : List Nod) (i : Nat) : T.set i { ndA T i with pa := (ndA T i).pa } = T := by
  by_cases hi : i < T.length
  · exact set_same (ndA_get hi)
  · exact List.set_eq_of_length_le (by omega)
set_option maxHeartbeats 4000000 in
theorem c_Take {w : World} {B R i : Nat} {F : Nat → Prop} {T : List Nod} {d : Nat → Nat} {D : List (Value × List Nod)} (h : TS B R T D F w) (hW : WF T d) (hD : D.length ≤ 1000000000000) (hT : T.length ≤ 400) (hi : i < T.length) (hp : 0 ≤ (ndA T i).pa) :
    Calls Tryz.prog 28 #[.pointer (some ⟨R, 0, none⟩), .int .i64 (i : Int)] w (StRet B R (cutE T i) T D F w) := by
  have HC := Lib.hid (c_cut_any h hW hT hi)
  have HTS := Lib.hid h
  have HD := Lib.hid hD
  have hx := ndA_get hi
  obtain ⟨L, cap, uv, Z, M, h1, hM, _⟩ := h.ns
  obtain ⟨y, hy, hyx⟩ := nv_get hM hx
  have hlM : M.length = T.length := by rw [← hM]; simp
  have HI := Lib.hid (c_is_yes h1 i (by omega) (by omega))
  obtain ⟨g0, _⟩ := h1.heads
  have hr := h1.ltR
  have hrL := h1.ltL
  obtain ⟨_, _, a4, _⟩ := h1.cell hy
  rw [hyx] at a4
  obtain ⟨pa, hpa⟩ : ∃ pa, pa = (ndA T i).pa := ⟨_, rfl⟩
  rw [← hpa] at a4 hp
  have hpM : (i : Int) < (M.length : Int) := by omega
  have h0p : 0 ≤ (i : Int) := by omega
  have hl4 : M.length ≤ 400 := by omega
  have hp2 : ¬ pa < 0 := by omega
  clear h hW hD hT hi hx h1 hM hy hyx hlM hpa
  go_enter Tryz.func28, Tryz.ntmps28
  go_upto_region 5 with (go_at_call 45; refine (HI.out).mono ?_; rintro e w' ⟨rfl, rfl⟩)
  go_wp2_with (first
    | (go_at_call 53; refine (HC.out).mono ?_; rintro e w3 ⟨back, L3, cap3, uv3, Z3, M3, F3, rfl, hS3, hM3, hF3, hK3, hU3⟩; have HS3 := Lib.hid hS3; have HM3 := Lib.hid hM3; have HF3 := Lib.hid hF3; have HK3 := Lib.hid hK3; have HDN := Lib.hid (c_done hS3 (by rw [hM3]; have := hU3 (ndA (cutE T i) i).pa; rw [set_self_pa] at this; exact this) HD.out); clear hS3 hM3 hF3 hK3 hU3)
    | (go_at_call 55; refine (HDN.out).mono ?_; rintro e w' ⟨⟨u, rfl⟩, uv', F'', hS5, hF5, hK5⟩; have HS5 := Lib.hid hS5; have HF5 := Lib.hid hF5; have HK5 := Lib.hid hK5; clear hS5 hF5 hK5))
  go_ret
  have key := HS5.out
  rw [HM3.out] at key
  have hex : ∀ k, exT R L3 uv3 k → k < w.heap.size → F k := fun k hk hlt => HF3.out k hlt (HS3.out.f k (.inl hk))
  refine ⟨rfl, _, F'', ⟨L3, cap3, uv', _, _, key, HM3.out⟩, fun k hk hf => HF3.out k hk (HF5.out k (Nat.lt_of_lt_of_le hk HK3.out.size) hf), HK3.out.then_ HK5.out (fun k hk e => hex k e hk)⟩
end Go.Proofs.YtimlmekgapdkiaaGreatDoor
