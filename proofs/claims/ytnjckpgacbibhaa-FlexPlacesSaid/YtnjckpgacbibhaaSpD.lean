/- FlexPlaces: the law's walk -/
import Derived.Test.YtnjckpgacbibhaaSpC
namespace Go.Proofs.Ytnjckpgacbibhaa
set_option linter.unusedVariables false
set_option linter.unusedSimpArgs false
open Go.RowKit Go.Cas

theorem c_SpreadR (v : Value) (l : List Int) (lim N : Nat) (room gap how : Int) (w : World) (h : RdS w lim 1 v N (vInts l)) (hN : N ≤ 1000) (hlim : lim ≤ w.heap.size) (M : Nat) (ws : List Int) (hM : M = min N 200) (hws : ws = l.take 200) : Calls Try.prog 37 #[v, .int .i64 room, .int .i64 gap, .int .i64 how] w fun e w' => ∃ u, e = .returned u ∧ RdS w' w'.heap.size 1 u M (vInts (sprT how room gap ws)) ∧ Below w.heap.size w w' := by
  by_cases h200 : (N : Int) ≤ 200
  · exact c_SpreadR1 v l lim N room gap how w h hN hlim M ws hM hws h200
  · exact c_SpreadR2 v l lim N room gap how w h hN hlim M ws hM hws h200
set_option maxHeartbeats 1000000 in
theorem c_sameInts4 (u v : Value) (xs ys : List Int) (l1 l2 n m : Nat) (w : World) (hu : RdS w l1 1 u n (vInts xs)) (hv : RdS w l2 1 v m (vInts ys)) (hn : n ≤ 100000) (hm : m ≤ 100000) : Calls Try.prog 36 #[u, v] w fun e w' => e = .returned (.bool (decide (xs = ys))) ∧ ∃ k, w' = w.drewN k := by
  obtain ⟨hl, A, c, rfl, hnc, hcell⟩ := hu
  obtain ⟨hl2, A2, c2, rfl, hnc2, hcell2⟩ := hv
  have hl' : xs.length = n := by simpa [vInts] using hl
  have hl2' : ys.length = m := by simpa [vInts] using hl2
  have HN := Lib.hid hl'
  have HM := Lib.hid hl2'
  have HC := Lib.hid hcell
  have HC2 := Lib.hid hcell2
  clear hcell hl hl' hcell2 hl2 hl2'
  go_enter Try.func36, Try.ntmps36
  by_cases hnm : n = m
  · subst hnm
    go_wp2_with fail
    go_loopw [5] (fun i wr => ∃ (k d : Nat), k ≤ n ∧ wr = w.drewN d ∧ i = .int .i64 k ∧ Hid (xs.take k = ys.take k)) (fun i _ => n - (intOf i).toNat)
    case atStart => exact ⟨0, 0, by omega, rfl, rfl, by simp [Hid]⟩
    case round =>
      obtain ⟨k, d, hk, rfl, rfl, H⟩ := hrel
      by_cases hlt : k < n
      · have hkL : k < xs.length := by rw [HN.out]; exact hlt
        have hkM : k < ys.length := by rw [HM.out]; exact hlt
        obtain ⟨g, o, rfl, hg, hc⟩ := HC.out (by omega)
        obtain ⟨g2, o2, rfl, hg2, hc2⟩ := HC2.out (by omega)
        have hcx := hc k (.int .i64 (xs[k]'hkL)) (vInts_get xs k hkL)
        have hcy := hc2 k (.int .i64 (ys[k]'hkM)) (vInts_get ys k hkM)
        have hst : Hid (xs.take (k + 1) = xs.take k ++ [xs[k]'hkL]) := List.take_succ_eq_append_getElem hkL
        have hst2 : Hid (ys.take (k + 1) = ys.take k ++ [ys[k]'hkM]) := List.take_succ_eq_append_getElem hkM
        have hne : Hid (xs[k]'hkL ≠ ys[k]'hkM → xs ≠ ys) := fun h e => h (by simp [e])
        clear hc hc2
        generalize xs[k]'hkL = x at *
        generalize ys[k]'hkM = y at *
        have hi : (k : Int) < (n : Int) := by omega
        go_wp2_with fail
        go_quiet (fail)
        go_wp2_with fail
        · go_ret
          refine ⟨ret_bool ?_, _, World.drewN_drewN ..⟩
          have := hne.out
          simp_all
        · go_roundw
          case rel =>
            refine ⟨k + 1, _, by omega, by first | rfl | exact World.drewN_drewN .., by go_num, ?_⟩
            have h1 := hst.out
            have h2 := hst2.out
            have h3 := H.out
            unfold Hid
            rw [h1, h2, h3]
            simp_all
          case measure => simp [intOf]; omega
      · have hi : ¬ (k : Int) < (n : Int) := by omega
        go_wp2_with fail
        go_ret
        refine ⟨ret_bool ?_, _, rfl⟩
        have h2 := H.out
        rw [List.take_of_length_le (by rw [HN.out]; omega), List.take_of_length_le (by rw [HM.out]; omega)] at h2
        simp [h2]
  · have hi : ¬ (n : Int) = (m : Int) := by omega
    go_wp2_with fail
    go_ret
    refine ⟨ret_bool ?_, 0, rfl⟩
    have : ¬ xs = ys := fun e => hnm (by rw [← HN.out, ← HM.out, e])
    simp [this]
theorem spr_one : sprT 3 10 0 [2, 2] = [0, 8] := by decide +kernel
theorem stF_one : stF 2 10 2 = 4 := by decide

set_option maxHeartbeats 4000000 in
theorem W_walk (v : Value) (N : Nat) (l : List Int) (room gap how : Int) (w : World) (hl : l.length = N) (hNm : N ≤ maxLen) (h : RdS w w.heap.size 1 v N (vInts l)) : Calls Try.prog 9 #[v, .int .i64 room, .int .i64 gap, .int .i64 how] w fun e w' => e = .returned (.bool true) ∧ Below w.heap.size w w' := by
  have hN63 : (N : Int) ≤ 9223372036854775807 := by unfold maxLen at hNm; omega
  have h0 := h
  obtain ⟨hl2, A, c, rfl, hnc, hcell⟩ := h0
  have HC := Lib.hid hcell
  have H := Lib.hid h
  have HL := Lib.hid hl
  clear hcell h hl hl2
  go_enter Try.func9, Try.ntmps9
  go_wp2_with fail
  refine (c_SpreadF _ [2, 2] _ 2 10 0 3 _ (RdS.lit w [.int .i64 2, .int .i64 2] 3 2 rfl) (by omega) (by simp) 2 [2, 2] (by omega) (by simp)).mono ?_
  rintro e w1 ⟨u, rfl, hu, hb1⟩
  rw [spr_one] at hu
  obtain ⟨_, Au, cu, rfl, hncu, hcu⟩ := hu
  obtain ⟨gu, ou, rfl, hgu, hcu1⟩ := hcu (by omega)
  have hc0 := hcu1 0 (.int .i64 0) (by simp [vInts])
  have hc1 := hcu1 1 (.int .i64 8) (by simp [vInts])
  clear hcu hcu1
  have e1 : Below w.heap.size w w1 := (bl_alloc (Below.refl _ w) _).trans (hb1.mono (by simp))
  have z1 := e1.size
  have st := stF_one
  go_wp2_with (first | (go_at_call 35; refine (c_StandF _ _ _ _).mono ?_; rintro e w' ⟨rfl, rfl⟩; rw [stF_one]))
  · go_ret
    exact ⟨rfl, e1⟩
  · have hN : N ≤ 1000 := by omega
    have r1 := H.out.below e1
    refine (c_SpreadF _ l _ N room gap how _ r1 hN (by omega) (min N 200) (l.take 200) rfl rfl).mono ?_
    rintro e w2 ⟨u2, rfl, hu2, hb2⟩
    have e2 := e1.trans (hb2.mono z1)
    have z2 := e2.size
    have r2 := H.out.below e2
    go_wp2_with fail
    refine (c_SpreadR _ l _ N room gap how _ r2 hN (by omega) (min N 200) (l.take 200) rfl rfl).mono ?_
    rintro e w3 ⟨u3, rfl, hu3, hb3⟩
    have e3 := e2.trans (hb3.mono z2)
    have z3 := e3.size
    go_wp2_with fail
    refine (c_sameInts4 _ _ _ _ _ _ _ _ _ (hu2.below hb3) hu3 (by omega) (by omega)).mono ?_
    rintro e w4 ⟨rfl, d, rfl⟩
    rw [show decide (sprT how room gap (l.take 200) = sprT how room gap (l.take 200)) = true from decide_eq_true rfl]
    clear hu2 hu3 r1 r2
    by_cases h0 : N = 0
    · subst h0
      go_wp2_with fail
      go_ret
      exact ⟨rfl, bl_drewN e3 _⟩
    · have hpos : ¬ (N : Int) = 0 := by omega
      have hpos2 : (0 : Int) < (N : Int) := by omega
      have hkL : 0 < l.length := by have := HL.out; omega
      obtain ⟨g, o, rfl, hg, hc⟩ := HC.out (by omega)
      have hcx := (e3.cell (p := ⟨g, o + 0, none⟩) hg).trans (hc 0 (.int .i64 (l[0]'hkL)) (vInts_get l 0 hkL))
      rw [Nat.add_zero] at hcx
      clear hc
      generalize l[0]'hkL = x at *
      go_wp2_with fail
      go_quiet ((first | (go_at_call 35; first | exact q_left (c_StandF _ _ _ _) | exact q_add (c_StandF _ _ _ _)) | (go_at_call 38; first | exact q_left (c_StandR _ _ _ _) | exact q_add (c_StandR _ _ _ _))))
      go_wp2_with fail
      go_ret
      exact ⟨ret_bool (by simp), bl_drewN (bl_drewN e3 _) _⟩
set_option maxRecDepth 100000 in
theorem W_flexPlaces {H : Type} {enc : TypeId × Value → H} {b0 base : Nat} {r : Reach} {spare : Nat → Bool} {held : Bool} {d : DataW H} {p : List MemPlace} (v : Value) (room gap how : Int) (w : World)
    (hv : Value.okWide Try.prog w r b0 28 v) (h : DataW.Trod enc Try.prog w base spare held 28 v d p) (_ : (Lit.int .i64 room).wf = true) (_ : (Lit.int .i64 gap).wf = true) (_ : (Lit.int .i64 how).wf = true) :
    Calls Try.prog 9 #[v, .int .i64 room, .int .i64 gap, .int .i64 how] w fun e w' => e = .returned (.bool true) ∧ Below w.heap.size w w' := by
  obtain ⟨n, L, h1, h2, h3, _⟩ := open_list Try.underlying28 Try.underlying3 (by kernel_rfl) hv h
  exact W_walk v n L room gap how w h1 h2 h3
end Go.Proofs.Ytnjckpgacbibhaa
