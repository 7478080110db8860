/- FlexPlaces: the reference's Spread, and the law -/
import Derived.Test.YtnjckpgacbibhaaSpA
import Derived.Test.Ytnjckpgacbibhaaopen
namespace Go.Proofs.Ytnjckpgacbibhaa
set_option linter.unusedVariables false
set_option linter.unusedSimpArgs false
open Go.RowKit Go.Cas

theorem alloc_int {w : World} {a b : Int} (t : TypeId) (h : a = b) : w.alloc (.cells #[.int .i64 a] t) = w.alloc (.cells [.int .i64 b].toArray t) := by rw [h]

set_option maxRecDepth 100000 in
set_option maxHeartbeats 8000000 in
theorem c_SpreadR1 (v : Value) (l : List Int) (lim N : Nat) (room gap how : Int) (w : World) (h : RdS w lim 1 v N (vInts l)) (hN : N ≤ 1000) (hlim : lim ≤ w.heap.size) (M : Nat) (ws : List Int) (hM : M = min N 200) (hws : ws = l.take 200) (h200 : (N : Int) ≤ 200) : Calls Try.prog 37 #[v, .int .i64 room, .int .i64 gap, .int .i64 how] w fun e w' => ∃ u, e = .returned u ∧ RdS w' w'.heap.size 1 u M (vInts (sprT how room gap ws)) ∧ Below w.heap.size w w' := by
  obtain ⟨hl2, A, c, rfl, hnc, hcell⟩ := h
  have hl : l.length = N := by simpa [vInts] using hl2
  have hwl : ws.length = M := by rw [hws, hM, List.length_take, hl, Nat.min_comm]
  have hM2 : M ≤ 200 := by omega
  have hMN : M ≤ N := by omega
  unfold sprT
  rw [hwl]
  have g1 := hld_bd gap
  have g2 := hld_bd room
  have hcw : ∀ k (hk : k < ws.length), (vInts l)[k]? = some (.int .i64 (ws[k]'hk)) := by
    intro k hk
    have hk2 : k < l.length := by omega
    rw [vInts_get l k hk2]
    simp [hws]
  have HCW := Lib.hid hcw
  have HW := Lib.hid hwl
  have HC := Lib.hid hcell
  have HWS := Lib.hid hws
  have HL := Lib.hid hl
  clear hwl hcell hws hl hcw hl2
  have eM : M = N := by omega
  subst eM
  have HM := Lib.hid hM
  clear hM
  go_enter Try.func37, Try.ntmps37
  go_wp2_with (go_at_call 17; refine (c_Held4 _ _).mono ?_; rintro e w' ⟨rfl, rfl⟩)
  go_loopw [10, 11] (fun a i wr => ∃ (k : Nat), k ≤ M ∧ w = wr ∧ i = .int .i64 k ∧ a = .int .i64 (hld room - sumH (ws.take k) - gpM (hld gap) k)) (fun _ i _ => M - (intOf i).toNat)
  case atStart => exact ⟨0, by omega, by first | rfl | trivial, rfl, by simp [sumH, gpM_zero]⟩
  case round =>
    obtain ⟨k, hk, rfl, rfl, rfl⟩ := hrel
    by_cases hlt : k < M
    · have hkL : k < ws.length := by rw [HW.out]; exact hlt
      obtain ⟨g, o, rfl, hg, hc⟩ := HC.out (by omega)
      have hcx := hc k (.int .i64 (ws[k]'hkL)) (HCW.out k hkL)
      have hst := Lib.hid (sumH_take ws k _ (List.getElem?_eq_getElem hkL))
      have hgs := Lib.hid (gpM_succ (hld gap) k)
      have hsb := sumH_bd (ws.take k)
      rw [List.length_take, HW.out] at hsb
      have hgb := gpM_bd (hld gap) k g1 (by omega)
      clear hc
      generalize ws[k]'hkL = x at *
      have hxb := hld_bd x
      have hi : (k : Int) < (M : Int) := by omega
      have hi2 : (k : Int) < (M : Int) := by omega
      go_wp2_with (go_at_call 17; refine (c_Held4 _ _).mono ?_; rintro e w' ⟨rfl, rfl⟩)
      all_goals
        go_roundw
        case rel => exact ⟨k + 1, by omega, by first | rfl | trivial, by go_num, by rw [hst.out, hgs.out]; congr 1; split <;> omega⟩
        case measure => simp [intOf]; omega
    · have ek : k = M := by omega
      subst ek
      have hk2 : ws.take k = ws := List.take_of_length_le (by rw [HW.out]; omega)
      rw [hk2]
      have hsb := sumH_bd ws
      rw [HW.out] at hsb
      have hgb := gpM_bd (hld gap) k g1 (by omega)
      obtain ⟨left, hleft⟩ : ∃ left, left = hld room - sumH ws - gpM (hld gap) k := ⟨_, rfl⟩
      rw [← hleft]
      have HLEFT := Lib.hid hleft
      have hlb2 : left ≤ 16777216 * 800 ∧ -16777216 * 800 ≤ left := by omega
      clear hleft hsb hgb
      have hi : ¬ (k : Int) < (k : Int) := by omega
      go_wp2_with fail
      by_cases h1 : how = 1
      · subst h1
        have HS := Lib.hid (spr_drop 1 left k (hld gap))
        obtain ⟨T, hT⟩ : ∃ T, T = spr 1 left k (hld gap) 0 0 ws := ⟨_, rfl⟩
        have HTT := Lib.hid hT
        clear hT
        go_loopw [12, 13, 14] (fun u a i wr => ∃ (j : Nat) (at_ : Int) (xs : List Int), i = .int .i64 j ∧ j ≤ k ∧ a = .int .i64 at_ ∧ -16777216 * 2 * j ≤ at_ ∧ at_ ≤ 16777216 * 2 * j ∧ xs.length = j ∧ wr.ownsRow w.heap.size 3 1 u xs.length (vInts xs) ∧ Hid (Below w.heap.size w wr) ∧ Hid (xs ++ spr 1 left k (hld gap) j at_ (ws.drop j) = T)) (fun _ _ i _ => k - (intOf i).toNat)
        case atStart => exact ⟨0, 0, [], rfl, by omega, rfl, by omega, by omega, rfl, World.ownsRow_nil _ _ _ _, Below.refl _ _, by simp [Hid, HTT.out]⟩
        case round =>
          obtain ⟨j, at_, xs, rfl, hj, rfl, ha1, ha2, hxl, ho, HBL, H⟩ := hrel
          by_cases hlt : j < k
          · have hkL : j < ws.length := by rw [HW.out]; exact hlt
            obtain ⟨g, o, rfl, hg, hc⟩ := HC.out (by omega)
            have hcx0 := Lib.hid (hc j (.int .i64 (ws[j]'hkL)) (HCW.out j hkL))
            have hst := Lib.hid (HS.out j at_ _ ws (List.getElem?_eq_getElem hkL))
            clear hc
            generalize ws[j]'hkL = x at *
            have hxb := hld_bd x
            have hbz := HBL.out.size
            obtain ⟨s1, s2, s3, s4, s5, s6⟩ := shares left j k hlb2.1 (by omega)
            unfold Hid at s1 s2 s3 s4 s5 s6
            have hi : (j : Int) < (k : Int) := by omega
            have hi2 : (j : Int) < (k : Int) := by omega
            have hgl : g < w.heap.size := by omega
            go_wp2_with (first | (go_at_call 17; refine (c_Held4 _ _).mono ?_; rintro e w' ⟨rfl, rfl⟩) | (go_at_call 57; refine (c_Down _ _ _ (by omega) (by omega) (by omega)).mono ?_; rintro e w' ⟨rfl, rfl⟩) | (at_builtin; refine wp_push rfl _ _ _ rfl w.heap.size 3 Try.underlying28 inf_int rfl (by decide) wr u12 xs.length (vInts xs) [.int .i64 (at_ + latF 1 left k j)] (by refine alloc_int _ ?_; unfold latF; repeat' split; all_goals first | omega | (exfalso; simp only [true_and] at *; omega)) rfl rfl ho rfl (one1 _) (by omega) (by omega) hbz ?_; intro v1 w1 hp1; have hcx := ((hp1.below HBL.out (Nat.le_refl _) hbz).cell (p := ⟨g, o + j, none⟩) hgl).trans hcx0.out))
            all_goals
              go_roundw
              case rel =>
                refine ⟨j + 1, at_ + (hld x + hld gap), xs ++ [at_ + latF 1 left k j], by go_num, by omega, by first | go_num | (congr 1; omega), by omega, by omega, by simp [hxl], by simpa [vInts] using hp1.own, hp1.below HBL.out (Nat.le_refl _) hbz, ?_⟩
                have h1 := H.out
                rw [hst.out] at h1
                unfold Hid
                simpa using h1
              case measure => simp [intOf]; omega
          · have ej : j = k := by omega
            subst ej
            have hi : ¬ (j : Int) < (j : Int) := by omega
            have e : xs = T := by have := H.out; rw [List.drop_eq_nil_of_le (by rw [HW.out]; omega)] at this; simpa [spr] using this
            subst e
            have hr := RdS.of_own ho
            rw [hxl, HTT.out] at hr
            go_wp2_with fail
            go_ret
            have hL2 := HLEFT.out
            rw [show hld room - sumH ws - gpM (hld gap) j = hld room - gpM (hld gap) j - sumH ws from by omega] at hL2
            rw [hL2] at hr
            exact ⟨_, rfl, hr, HBL.out⟩
      by_cases h2 : how = 2
      · subst h2
        have HS := Lib.hid (spr_drop 2 left k (hld gap))
        obtain ⟨T, hT⟩ : ∃ T, T = spr 2 left k (hld gap) 0 0 ws := ⟨_, rfl⟩
        have HTT := Lib.hid hT
        clear hT
        go_loopw [12, 13, 14] (fun u a i wr => ∃ (j : Nat) (at_ : Int) (xs : List Int), i = .int .i64 j ∧ j ≤ k ∧ a = .int .i64 at_ ∧ -16777216 * 2 * j ≤ at_ ∧ at_ ≤ 16777216 * 2 * j ∧ xs.length = j ∧ wr.ownsRow w.heap.size 3 1 u xs.length (vInts xs) ∧ Hid (Below w.heap.size w wr) ∧ Hid (xs ++ spr 2 left k (hld gap) j at_ (ws.drop j) = T)) (fun _ _ i _ => k - (intOf i).toNat)
        case atStart => exact ⟨0, 0, [], rfl, by omega, rfl, by omega, by omega, rfl, World.ownsRow_nil _ _ _ _, Below.refl _ _, by simp [Hid, HTT.out]⟩
        case round =>
          obtain ⟨j, at_, xs, rfl, hj, rfl, ha1, ha2, hxl, ho, HBL, H⟩ := hrel
          by_cases hlt : j < k
          · have hkL : j < ws.length := by rw [HW.out]; exact hlt
            obtain ⟨g, o, rfl, hg, hc⟩ := HC.out (by omega)
            have hcx0 := Lib.hid (hc j (.int .i64 (ws[j]'hkL)) (HCW.out j hkL))
            have hst := Lib.hid (HS.out j at_ _ ws (List.getElem?_eq_getElem hkL))
            clear hc
            generalize ws[j]'hkL = x at *
            have hxb := hld_bd x
            have hbz := HBL.out.size
            obtain ⟨s1, s2, s3, s4, s5, s6⟩ := shares left j k hlb2.1 (by omega)
            unfold Hid at s1 s2 s3 s4 s5 s6
            have hi : (j : Int) < (k : Int) := by omega
            have hi2 : (j : Int) < (k : Int) := by omega
            have hgl : g < w.heap.size := by omega
            go_wp2_with (first | (go_at_call 17; refine (c_Held4 _ _).mono ?_; rintro e w' ⟨rfl, rfl⟩) | (go_at_call 57; refine (c_Down _ _ _ (by omega) (by omega) (by omega)).mono ?_; rintro e w' ⟨rfl, rfl⟩) | (at_builtin; refine wp_push rfl _ _ _ rfl w.heap.size 3 Try.underlying28 inf_int rfl (by decide) wr u12 xs.length (vInts xs) [.int .i64 (at_ + latF 2 left k j)] (by refine alloc_int _ ?_; unfold latF; repeat' split; all_goals first | omega | (exfalso; simp only [true_and] at *; omega)) rfl rfl ho rfl (one1 _) (by omega) (by omega) hbz ?_; intro v1 w1 hp1; have hcx := ((hp1.below HBL.out (Nat.le_refl _) hbz).cell (p := ⟨g, o + j, none⟩) hgl).trans hcx0.out))
            all_goals
              go_roundw
              case rel =>
                refine ⟨j + 1, at_ + (hld x + hld gap), xs ++ [at_ + latF 2 left k j], by go_num, by omega, by first | go_num | (congr 1; omega), by omega, by omega, by simp [hxl], by simpa [vInts] using hp1.own, hp1.below HBL.out (Nat.le_refl _) hbz, ?_⟩
                have h1 := H.out
                rw [hst.out] at h1
                unfold Hid
                simpa using h1
              case measure => simp [intOf]; omega
          · have ej : j = k := by omega
            subst ej
            have hi : ¬ (j : Int) < (j : Int) := by omega
            have e : xs = T := by have := H.out; rw [List.drop_eq_nil_of_le (by rw [HW.out]; omega)] at this; simpa [spr] using this
            subst e
            have hr := RdS.of_own ho
            rw [hxl, HTT.out] at hr
            go_wp2_with fail
            go_ret
            have hL2 := HLEFT.out
            rw [show hld room - sumH ws - gpM (hld gap) j = hld room - gpM (hld gap) j - sumH ws from by omega] at hL2
            rw [hL2] at hr
            exact ⟨_, rfl, hr, HBL.out⟩
      by_cases h3 : how = 3
      · subst h3
        have HS := Lib.hid (spr_drop 3 left k (hld gap))
        obtain ⟨T, hT⟩ : ∃ T, T = spr 3 left k (hld gap) 0 0 ws := ⟨_, rfl⟩
        have HTT := Lib.hid hT
        clear hT
        go_loopw [12, 13, 14] (fun u a i wr => ∃ (j : Nat) (at_ : Int) (xs : List Int), i = .int .i64 j ∧ j ≤ k ∧ a = .int .i64 at_ ∧ -16777216 * 2 * j ≤ at_ ∧ at_ ≤ 16777216 * 2 * j ∧ xs.length = j ∧ wr.ownsRow w.heap.size 3 1 u xs.length (vInts xs) ∧ Hid (Below w.heap.size w wr) ∧ Hid (xs ++ spr 3 left k (hld gap) j at_ (ws.drop j) = T)) (fun _ _ i _ => k - (intOf i).toNat)
        case atStart => exact ⟨0, 0, [], rfl, by omega, rfl, by omega, by omega, rfl, World.ownsRow_nil _ _ _ _, Below.refl _ _, by simp [Hid, HTT.out]⟩
        case round =>
          obtain ⟨j, at_, xs, rfl, hj, rfl, ha1, ha2, hxl, ho, HBL, H⟩ := hrel
          by_cases hlt : j < k
          · have hkL : j < ws.length := by rw [HW.out]; exact hlt
            obtain ⟨g, o, rfl, hg, hc⟩ := HC.out (by omega)
            have hcx0 := Lib.hid (hc j (.int .i64 (ws[j]'hkL)) (HCW.out j hkL))
            have hst := Lib.hid (HS.out j at_ _ ws (List.getElem?_eq_getElem hkL))
            clear hc
            generalize ws[j]'hkL = x at *
            have hxb := hld_bd x
            have hbz := HBL.out.size
            obtain ⟨s1, s2, s3, s4, s5, s6⟩ := shares left j k hlb2.1 (by omega)
            unfold Hid at s1 s2 s3 s4 s5 s6
            have hi : (j : Int) < (k : Int) := by omega
            have hi2 : (j : Int) < (k : Int) := by omega
            have hgl : g < w.heap.size := by omega
            go_wp2_with (first | (go_at_call 17; refine (c_Held4 _ _).mono ?_; rintro e w' ⟨rfl, rfl⟩) | (go_at_call 57; refine (c_Down _ _ _ (by omega) (by omega) (by omega)).mono ?_; rintro e w' ⟨rfl, rfl⟩) | (at_builtin; refine wp_push rfl _ _ _ rfl w.heap.size 3 Try.underlying28 inf_int rfl (by decide) wr u12 xs.length (vInts xs) [.int .i64 (at_ + latF 3 left k j)] (by refine alloc_int _ ?_; unfold latF; repeat' split; all_goals first | omega | (exfalso; simp only [true_and] at *; omega)) rfl rfl ho rfl (one1 _) (by omega) (by omega) hbz ?_; intro v1 w1 hp1; have hcx := ((hp1.below HBL.out (Nat.le_refl _) hbz).cell (p := ⟨g, o + j, none⟩) hgl).trans hcx0.out))
            all_goals
              go_roundw
              case rel =>
                refine ⟨j + 1, at_ + (hld x + hld gap), xs ++ [at_ + latF 3 left k j], by go_num, by omega, by first | go_num | (congr 1; omega), by omega, by omega, by simp [hxl], by simpa [vInts] using hp1.own, hp1.below HBL.out (Nat.le_refl _) hbz, ?_⟩
                have h1 := H.out
                rw [hst.out] at h1
                unfold Hid
                simpa using h1
              case measure => simp [intOf]; omega
          · have ej : j = k := by omega
            subst ej
            have hi : ¬ (j : Int) < (j : Int) := by omega
            have e : xs = T := by have := H.out; rw [List.drop_eq_nil_of_le (by rw [HW.out]; omega)] at this; simpa [spr] using this
            subst e
            have hr := RdS.of_own ho
            rw [hxl, HTT.out] at hr
            go_wp2_with fail
            go_ret
            have hL2 := HLEFT.out
            rw [show hld room - sumH ws - gpM (hld gap) j = hld room - gpM (hld gap) j - sumH ws from by omega] at hL2
            rw [hL2] at hr
            exact ⟨_, rfl, hr, HBL.out⟩
      by_cases h4 : how = 4
      · subst h4
        have HS := Lib.hid (spr_drop 4 left k (hld gap))
        obtain ⟨T, hT⟩ : ∃ T, T = spr 4 left k (hld gap) 0 0 ws := ⟨_, rfl⟩
        have HTT := Lib.hid hT
        clear hT
        go_loopw [12, 13, 14] (fun u a i wr => ∃ (j : Nat) (at_ : Int) (xs : List Int), i = .int .i64 j ∧ j ≤ k ∧ a = .int .i64 at_ ∧ -16777216 * 2 * j ≤ at_ ∧ at_ ≤ 16777216 * 2 * j ∧ xs.length = j ∧ wr.ownsRow w.heap.size 3 1 u xs.length (vInts xs) ∧ Hid (Below w.heap.size w wr) ∧ Hid (xs ++ spr 4 left k (hld gap) j at_ (ws.drop j) = T)) (fun _ _ i _ => k - (intOf i).toNat)
        case atStart => exact ⟨0, 0, [], rfl, by omega, rfl, by omega, by omega, rfl, World.ownsRow_nil _ _ _ _, Below.refl _ _, by simp [Hid, HTT.out]⟩
        case round =>
          obtain ⟨j, at_, xs, rfl, hj, rfl, ha1, ha2, hxl, ho, HBL, H⟩ := hrel
          by_cases hlt : j < k
          · have hkL : j < ws.length := by rw [HW.out]; exact hlt
            obtain ⟨g, o, rfl, hg, hc⟩ := HC.out (by omega)
            have hcx0 := Lib.hid (hc j (.int .i64 (ws[j]'hkL)) (HCW.out j hkL))
            have hst := Lib.hid (HS.out j at_ _ ws (List.getElem?_eq_getElem hkL))
            clear hc
            generalize ws[j]'hkL = x at *
            have hxb := hld_bd x
            have hbz := HBL.out.size
            obtain ⟨s1, s2, s3, s4, s5, s6⟩ := shares left j k hlb2.1 (by omega)
            unfold Hid at s1 s2 s3 s4 s5 s6
            have hi : (j : Int) < (k : Int) := by omega
            have hi2 : (j : Int) < (k : Int) := by omega
            have hgl : g < w.heap.size := by omega
            go_wp2_with (first | (go_at_call 17; refine (c_Held4 _ _).mono ?_; rintro e w' ⟨rfl, rfl⟩) | (go_at_call 57; refine (c_Down _ _ _ (by omega) (by omega) (by omega)).mono ?_; rintro e w' ⟨rfl, rfl⟩) | (at_builtin; refine wp_push rfl _ _ _ rfl w.heap.size 3 Try.underlying28 inf_int rfl (by decide) wr u12 xs.length (vInts xs) [.int .i64 (at_ + latF 4 left k j)] (by refine alloc_int _ ?_; unfold latF; repeat' split; all_goals first | omega | (exfalso; simp only [true_and] at *; omega)) rfl rfl ho rfl (one1 _) (by omega) (by omega) hbz ?_; intro v1 w1 hp1; have hcx := ((hp1.below HBL.out (Nat.le_refl _) hbz).cell (p := ⟨g, o + j, none⟩) hgl).trans hcx0.out))
            all_goals
              go_roundw
              case rel =>
                refine ⟨j + 1, at_ + (hld x + hld gap), xs ++ [at_ + latF 4 left k j], by go_num, by omega, by first | go_num | (congr 1; omega), by omega, by omega, by simp [hxl], by simpa [vInts] using hp1.own, hp1.below HBL.out (Nat.le_refl _) hbz, ?_⟩
                have h1 := H.out
                rw [hst.out] at h1
                unfold Hid
                simpa using h1
              case measure => simp [intOf]; omega
          · have ej : j = k := by omega
            subst ej
            have hi : ¬ (j : Int) < (j : Int) := by omega
            have e : xs = T := by have := H.out; rw [List.drop_eq_nil_of_le (by rw [HW.out]; omega)] at this; simpa [spr] using this
            subst e
            have hr := RdS.of_own ho
            rw [hxl, HTT.out] at hr
            go_wp2_with fail
            go_ret
            have hL2 := HLEFT.out
            rw [show hld room - sumH ws - gpM (hld gap) j = hld room - gpM (hld gap) j - sumH ws from by omega] at hL2
            rw [hL2] at hr
            exact ⟨_, rfl, hr, HBL.out⟩
      by_cases h5 : how = 5
      · subst h5
        have HS := Lib.hid (spr_drop 5 left k (hld gap))
        obtain ⟨T, hT⟩ : ∃ T, T = spr 5 left k (hld gap) 0 0 ws := ⟨_, rfl⟩
        have HTT := Lib.hid hT
        clear hT
        go_loopw [12, 13, 14] (fun u a i wr => ∃ (j : Nat) (at_ : Int) (xs : List Int), i = .int .i64 j ∧ j ≤ k ∧ a = .int .i64 at_ ∧ -16777216 * 2 * j ≤ at_ ∧ at_ ≤ 16777216 * 2 * j ∧ xs.length = j ∧ wr.ownsRow w.heap.size 3 1 u xs.length (vInts xs) ∧ Hid (Below w.heap.size w wr) ∧ Hid (xs ++ spr 5 left k (hld gap) j at_ (ws.drop j) = T)) (fun _ _ i _ => k - (intOf i).toNat)
        case atStart => exact ⟨0, 0, [], rfl, by omega, rfl, by omega, by omega, rfl, World.ownsRow_nil _ _ _ _, Below.refl _ _, by simp [Hid, HTT.out]⟩
        case round =>
          obtain ⟨j, at_, xs, rfl, hj, rfl, ha1, ha2, hxl, ho, HBL, H⟩ := hrel
          by_cases hlt : j < k
          · have hkL : j < ws.length := by rw [HW.out]; exact hlt
            obtain ⟨g, o, rfl, hg, hc⟩ := HC.out (by omega)
            have hcx0 := Lib.hid (hc j (.int .i64 (ws[j]'hkL)) (HCW.out j hkL))
            have hst := Lib.hid (HS.out j at_ _ ws (List.getElem?_eq_getElem hkL))
            clear hc
            generalize ws[j]'hkL = x at *
            have hxb := hld_bd x
            have hbz := HBL.out.size
            obtain ⟨s1, s2, s3, s4, s5, s6⟩ := shares left j k hlb2.1 (by omega)
            unfold Hid at s1 s2 s3 s4 s5 s6
            have hi : (j : Int) < (k : Int) := by omega
            have hi2 : (j : Int) < (k : Int) := by omega
            have hgl : g < w.heap.size := by omega
            go_wp2_with (first | (go_at_call 17; refine (c_Held4 _ _).mono ?_; rintro e w' ⟨rfl, rfl⟩) | (go_at_call 57; refine (c_Down _ _ _ (by omega) (by omega) (by omega)).mono ?_; rintro e w' ⟨rfl, rfl⟩) | (at_builtin; refine wp_push rfl _ _ _ rfl w.heap.size 3 Try.underlying28 inf_int rfl (by decide) wr u12 xs.length (vInts xs) [.int .i64 (at_ + latF 5 left k j)] (by refine alloc_int _ ?_; unfold latF; repeat' split; all_goals first | omega | (exfalso; simp only [true_and] at *; omega)) rfl rfl ho rfl (one1 _) (by omega) (by omega) hbz ?_; intro v1 w1 hp1; have hcx := ((hp1.below HBL.out (Nat.le_refl _) hbz).cell (p := ⟨g, o + j, none⟩) hgl).trans hcx0.out))
            all_goals
              go_roundw
              case rel =>
                refine ⟨j + 1, at_ + (hld x + hld gap), xs ++ [at_ + latF 5 left k j], by go_num, by omega, by first | go_num | (congr 1; omega), by omega, by omega, by simp [hxl], by simpa [vInts] using hp1.own, hp1.below HBL.out (Nat.le_refl _) hbz, ?_⟩
                have h1 := H.out
                rw [hst.out] at h1
                unfold Hid
                simpa using h1
              case measure => simp [intOf]; omega
          · have ej : j = k := by omega
            subst ej
            have hi : ¬ (j : Int) < (j : Int) := by omega
            have e : xs = T := by have := H.out; rw [List.drop_eq_nil_of_le (by rw [HW.out]; omega)] at this; simpa [spr] using this
            subst e
            have hr := RdS.of_own ho
            rw [hxl, HTT.out] at hr
            go_wp2_with fail
            go_ret
            have hL2 := HLEFT.out
            rw [show hld room - sumH ws - gpM (hld gap) j = hld room - gpM (hld gap) j - sumH ws from by omega] at hL2
            rw [hL2] at hr
            exact ⟨_, rfl, hr, HBL.out⟩
      have HS := Lib.hid (spr_drop how left k (hld gap))
      obtain ⟨T, hT⟩ : ∃ T, T = spr how left k (hld gap) 0 0 ws := ⟨_, rfl⟩
      have HTT := Lib.hid hT
      clear hT
      go_loopw [12, 13, 14] (fun u a i wr => ∃ (j : Nat) (at_ : Int) (xs : List Int), i = .int .i64 j ∧ j ≤ k ∧ a = .int .i64 at_ ∧ -16777216 * 2 * j ≤ at_ ∧ at_ ≤ 16777216 * 2 * j ∧ xs.length = j ∧ wr.ownsRow w.heap.size 3 1 u xs.length (vInts xs) ∧ Hid (Below w.heap.size w wr) ∧ Hid (xs ++ spr how left k (hld gap) j at_ (ws.drop j) = T)) (fun _ _ i _ => k - (intOf i).toNat)
      case atStart => exact ⟨0, 0, [], rfl, by omega, rfl, by omega, by omega, rfl, World.ownsRow_nil _ _ _ _, Below.refl _ _, by simp [Hid, HTT.out]⟩
      case round =>
        obtain ⟨j, at_, xs, rfl, hj, rfl, ha1, ha2, hxl, ho, HBL, H⟩ := hrel
        by_cases hlt : j < k
        · have hkL : j < ws.length := by rw [HW.out]; exact hlt
          obtain ⟨g, o, rfl, hg, hc⟩ := HC.out (by omega)
          have hcx0 := Lib.hid (hc j (.int .i64 (ws[j]'hkL)) (HCW.out j hkL))
          have hst := Lib.hid (HS.out j at_ _ ws (List.getElem?_eq_getElem hkL))
          clear hc
          generalize ws[j]'hkL = x at *
          have hxb := hld_bd x
          have hbz := HBL.out.size
          obtain ⟨s1, s2, s3, s4, s5, s6⟩ := shares left j k hlb2.1 (by omega)
          unfold Hid at s1 s2 s3 s4 s5 s6
          have hi : (j : Int) < (k : Int) := by omega
          have hi2 : (j : Int) < (k : Int) := by omega
          have hgl : g < w.heap.size := by omega
          go_wp2_with (first | (go_at_call 17; refine (c_Held4 _ _).mono ?_; rintro e w' ⟨rfl, rfl⟩) | (go_at_call 57; refine (c_Down _ _ _ (by omega) (by omega) (by omega)).mono ?_; rintro e w' ⟨rfl, rfl⟩) | (at_builtin; refine wp_push rfl _ _ _ rfl w.heap.size 3 Try.underlying28 inf_int rfl (by decide) wr u12 xs.length (vInts xs) [.int .i64 (at_ + latF how left k j)] (by refine alloc_int _ ?_; unfold latF; repeat' split; all_goals first | omega | (exfalso; simp only [true_and] at *; omega)) rfl rfl ho rfl (one1 _) (by omega) (by omega) hbz ?_; intro v1 w1 hp1; have hcx := ((hp1.below HBL.out (Nat.le_refl _) hbz).cell (p := ⟨g, o + j, none⟩) hgl).trans hcx0.out))
          all_goals
            go_roundw
            case rel =>
              refine ⟨j + 1, at_ + (hld x + hld gap), xs ++ [at_ + latF how left k j], by go_num, by omega, by first | go_num | (congr 1; omega), by omega, by omega, by simp [hxl], by simpa [vInts] using hp1.own, hp1.below HBL.out (Nat.le_refl _) hbz, ?_⟩
              have h1 := H.out
              rw [hst.out] at h1
              unfold Hid
              simpa using h1
            case measure => simp [intOf]; omega
        · have ej : j = k := by omega
          subst ej
          have hi : ¬ (j : Int) < (j : Int) := by omega
          have e : xs = T := by have := H.out; rw [List.drop_eq_nil_of_le (by rw [HW.out]; omega)] at this; simpa [spr] using this
          subst e
          have hr := RdS.of_own ho
          rw [hxl, HTT.out] at hr
          go_wp2_with fail
          go_ret
          have hL2 := HLEFT.out
          rw [show hld room - sumH ws - gpM (hld gap) j = hld room - gpM (hld gap) j - sumH ws from by omega] at hL2
          rw [hL2] at hr
          exact ⟨_, rfl, hr, HBL.out⟩
end Go.Proofs.Ytnjckpgacbibhaa
