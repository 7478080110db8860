/- floats: all of them -/
import Derived.Test.YtnjckpgacbibhaaFlg
namespace Go.Proofs.Ytnjckpgacbibhaa
set_option linter.unusedVariables false
set_option linter.unusedSimpArgs false
open Go.RowKit Go.Cas

set_option maxRecDepth 100000 in
set_option maxHeartbeats 2000000 in
theorem c_All (p lp n : Nat) (v : Value) (L : List Flo) (lo hi : Int) (w : World) (kp : Bk w p 115 #[.int .i64 lo, .int .i64 hi, .pointer (some ⟨lp, 0, none⟩)]) (kl : Bk w lp 74 #[v]) (hr : RdS w w.heap.size 5 v n (fcs L)) (hz : n = 0 → v = .slice none 0 0) (hn : n ≤ 1000) : Calls Try.prog 43 #[.pointer (some ⟨p, 0, none⟩)] w fun e w' => ∃ u, e = .returned u ∧ RdS w' w'.heap.size 5 u n (fcs L) ∧ Below w.heap.size w w' := by
  obtain ⟨i0, hi0, hz0, hz1, hz2⟩ := info_parts inf_Float
  have HR := Lib.hid hr
  have HZ := Lib.hid hz
  obtain ⟨hl, A, c, rfl, hnc, hcell⟩ := hr
  have c1 := kp.cell; have c2 := kl.cell
  have HN := Lib.hid hl
  have HC := Lib.hid hcell
  clear hl hcell hz
  by_cases h0 : n = 0
  · have e := HZ.out h0
    injection e with e1 e2 e3
    subst e1 e2 e3
    clear h0
    go_enter Try.func43, Try.ntmps43
    go_wp2_with (at_builtin; refine wpList_append_own_none rfl _ _ 74 rfl w.heap.size 77 i0 5 Try.underlying74 hi0 (.slice none 0 0) 0 [] rfl (World.ownsRow_nil _ _ _ _) rfl ?_)
    go_ret
    exact ⟨_, rfl, HR.out, Below.refl _ _⟩
  · obtain ⟨g, o, rfl, hg, hc⟩ := HC.out (by omega)
    have HCC := Lib.hid hc
    clear hc h0
    go_enter Try.func43, Try.ntmps43
    go_wp2_with (at_builtin; refine wpList_append_own _ rfl _ _ 74 rfl w.heap.size 77 i0 _ 5 40 Try.underlying74 hi0 hz0 hz1 hz2 rfl (by omega) (.slice none 0 0) 0 [] rfl (World.ownsRow_nil _ _ _ _) ⟨g, o, none⟩ n c (fcs L) rfl HN.out (fun j u hu => by rw [add_none']; exact HCC.out j u hu) (fcs_one L) (by unfold maxLen; omega) (by omega) (Nat.le_refl _) ?_; intro v' w1 hown hgrow hnil)
    go_ret
    refine ⟨_, rfl, ?_, (Below.refl _ _).grown hgrow (Nat.le_refl _) (fun k hk => by simp [Value.ownBlock] at hk)⟩
    have := RdS.of_own hown
    rw [List.nil_append, Nat.zero_add] at this
    exact this
end Go.Proofs.Ytnjckpgacbibhaa
