/- the document's tree: an attribute that cannot be set -/
import Derived.Test.YtimlmekgapdkiaaDoorUj
namespace Go.Proofs.YtimlmekgapdkiaaDoor
set_option linter.unusedVariables false
set_option linter.unusedSimpArgs false
open Go.RowKit Go.Cas

def SameRet (w : World) (e : Ending) (w' : World) : Prop := (∃ u, e = .returned u) ∧ w = w'
set_option maxRecDepth 100000 in
set_option maxHeartbeats 4000000 in
theorem c_rSetNo {w : World} {B R n i : Nat} {τ : Nat → Nat} {T : List Nod} (h : RS B R T n τ w) (hT : T.length ≤ 400) (hF : FewT T) (hi : i < T.length) (nm v : ByteArray) (hs : nm.size ≤ maxLen) (hv : v.size ≤ maxLen) (hno : ¬ ((ndA T i).k = 2 ∧ isNm nm = true ∧ v.size ≤ 20000)) :
    Calls Tryd.prog 53 #[.pointer (some ⟨R, 0, none⟩), .int .i64 (i : Int), .string nm, .string v, .bool false] w (SameRet w) := by
  have HH := Lib.hid (c_rHas h i hi hT)
  obtain ⟨L, cap, tv, xs, M, h1, hM⟩ := h
  have hlM : M.length = T.length := by rw [← hM]; simp
  obtain ⟨y, hy, hyx⟩ := nv_get hM (ndA_get hi)
  have HNM := Lib.hid (c_IsName nm w hs)
  have hfy := hF.few hM y (List.mem_of_getElem? hy)
  have HAT := Lib.hid (c_rAt (s := nm) (RdS.of_own (h1.at_ i y hy)) (by omega) (Nat.le_refl _))
  obtain ⟨g0, _⟩ := h1.heads
  have hr := h1.ltR
  have hrL := h1.ltL
  obtain ⟨⟨a0, _, _⟩, a3, _⟩ := h1.cell hy
  have hii : (i : Int) < (M.length : Int) := by omega
  have hl4 : M.length ≤ 400 := by omega
  obtain ⟨kk, hkk⟩ : ∃ kk, kk = y.x.k := ⟨_, rfl⟩
  rw [← hkk] at a0
  rw [← hyx, ← hkk] at hno
  clear h1 hM hlM hy hyx hfy hF hT hi hkk
  by_cases hk : kk = 2
  · subst hk
    by_cases hn : isNm nm = true
    · have hsz : (20000 : Int) < (v.size : Int) := by
        have : ¬ v.size ≤ 20000 := fun e => hno ⟨rfl, hn, e⟩
        omega
      rw [hn] at HNM
      clear hno hn
      go_enter Tryd.func53, Tryd.ntmps53
      go_wp2_with (first
        | (go_at_call 73; refine (HH.out).mono ?_; rintro e w' ⟨rfl, rfl⟩)
        | (go_at_call 92; refine (HAT.out).mono ?_; rintro e w' ⟨rfl, rfl⟩)
        | (go_at_call 51; refine (HNM.out).mono ?_; rintro e w' ⟨rfl, rfl⟩))
      go_ret
      exact ⟨⟨_, rfl⟩, rfl⟩
    · rw [Bool.not_eq_true _ |>.mp hn] at HNM
      clear hno hn
      go_enter Tryd.func53, Tryd.ntmps53
      go_wp2_with (first
        | (go_at_call 73; refine (HH.out).mono ?_; rintro e w' ⟨rfl, rfl⟩)
        | (go_at_call 92; refine (HAT.out).mono ?_; rintro e w' ⟨rfl, rfl⟩)
        | (go_at_call 51; refine (HNM.out).mono ?_; rintro e w' ⟨rfl, rfl⟩))
      go_ret
      exact ⟨⟨_, rfl⟩, rfl⟩
  · have hk2 : (kk == 2) = false := by rw [beq_eq_false_iff_ne]; exact hk
    clear hno
    go_enter Tryd.func53, Tryd.ntmps53
    go_wp2_with (go_at_call 73; refine (HH.out).mono ?_; rintro e w' ⟨rfl, rfl⟩)
    go_ret
    exact ⟨⟨_, rfl⟩, rfl⟩
end Go.Proofs.YtimlmekgapdkiaaDoor
