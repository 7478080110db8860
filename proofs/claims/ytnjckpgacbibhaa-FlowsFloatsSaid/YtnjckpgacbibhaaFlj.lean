/- FlowsFloats: the walk -/
import Derived.Test.YtnjckpgacbibhaaFli
import Derived.StillTailTactics
namespace Go.Proofs.Ytnjckpgacbibhaa
set_option linter.unusedVariables false
set_option linter.unusedSimpArgs false
open Go.RowKit Go.Cas

set_option maxRecDepth 100000 in
set_option maxHeartbeats 16000000 in
theorem W_walkFlF (v : Value) (N : Nat) (P : List PutC) (wd y h : Int) (w : World) (h240 : (N : Int) > 240) (hl : P.length = N) (hNm : N ≤ maxLen) (hp : RdS w w.heap.size 7 v N (P.flatMap pc)) : Calls Try.prog 12 #[.int .i64 wd, v, .int .i64 y, .int .i64 h] w fun e w' => e = .returned (.bool true) ∧ Below w.heap.size w w' := by
  have hN63 : (N : Int) ≤ 9223372036854775807 := by unfold maxLen at hNm; omega
  obtain ⟨hl2, A, c, rfl, hnc, hcell⟩ := hp
  have HC := Lib.hid hcell
  have HL := Lib.hid hl
  clear hcell hl hl2
  obtain ⟨W, hW⟩ : ∃ W, W = zH wd := ⟨_, rfl⟩
  have HW := Lib.hid hW
  have hWb : 0 ≤ W ∧ W ≤ 16777216 := by rw [hW]; exact zH_bd wd
  have hWn : hld wd < 0 → W = 0 := fun h => by rw [hW]; unfold zH; omega
  have hWp : ¬ hld wd < 0 → hld wd = W := fun h => by rw [hW]; unfold zH; omega
  have HWN := Lib.hid hWn; have HWP := Lib.hid hWp
  clear hW hWn hWp
  have HNEW := Lib.hid (c_New wd w)
  rw [← HW.out] at HNEW
  go_enter Try.func12, Try.ntmps12
  go_wp2_with fail
  refine HNEW.out.mono ?_; rintro e w1 ⟨rfl, k1, k2, hb, hs⟩
  go_wp2_with fail
  go_ret
  exact ⟨rfl, hb⟩

set_option maxRecDepth 100000 in
set_option maxHeartbeats 16000000 in
theorem W_walkFlN (v : Value) (N : Nat) (P : List PutC) (wd y h : Int) (w : World) (h240 : ¬ (N : Int) > 240) (hneg : hld wd < 0) (hl : P.length = N) (hNm : N ≤ maxLen) (hp : RdS w w.heap.size 7 v N (P.flatMap pc)) : Calls Try.prog 12 #[.int .i64 wd, v, .int .i64 y, .int .i64 h] w fun e w' => e = .returned (.bool true) ∧ Below w.heap.size w w' := by
  have hN63 : (N : Int) ≤ 9223372036854775807 := by unfold maxLen at hNm; omega
  obtain ⟨hl2, A, c, rfl, hnc, hcell⟩ := hp
  have HC := Lib.hid hcell
  have HL := Lib.hid hl
  clear hcell hl hl2
  obtain ⟨W, hW⟩ : ∃ W, W = zH wd := ⟨_, rfl⟩
  have HW := Lib.hid hW
  have hWb : 0 ≤ W ∧ W ≤ 16777216 := by rw [hW]; exact zH_bd wd
  have hWn : hld wd < 0 → W = 0 := fun h => by rw [hW]; unfold zH; omega
  have hWp : ¬ hld wd < 0 → hld wd = W := fun h => by rw [hW]; unfold zH; omega
  have HWN := Lib.hid hWn; have HWP := Lib.hid hWp
  clear hW hWn hWp
  have HNEW := Lib.hid (c_New wd w)
  rw [← HW.out] at HNEW
  have hw0 := HWN.out hneg
  subst hw0
  go_enter Try.func12, Try.ntmps12
  go_wp2_with fail
  refine HNEW.out.mono ?_; rintro e w1 ⟨rfl, k1, k2, hb, hs⟩
  have HK1 := Lib.hid k1; have HK2 := Lib.hid k2; have HBW := Lib.hid hb
  clear k1 k2 hb
  go_wp2_with (go_at_call 17; refine (c_Held4 _ _).mono ?_; rintro e w' ⟨rfl, rfl⟩)
  have S0 : FSt w (w1.alloc (.cells #[.int .i64 0, .int .i64 0, .slice none 0 0] 83)) 0 (.slice none 0 0) (.slice none 0 0) [] [] 0 0 0 0 :=
    { hf := HK1.out.alloc _, hl := HK2.out.alloc _, hr := bk_new' _ _ _ hs.symm, ov := World.ownsRow_nil _ _ _ _, ou := World.ownsRow_nil _ _ _ _, sep := Sep.none_l _, bel := bl_alloc HBW.out _, sz := by simp [hs], good := GoodF.nil, goodR := GoodF.nil, len := rfl, lenR := rfl, nil := fun _ => rfl }
  have HED : Hid (Calls Try.prog 45 #[.pointer (some ⟨w.heap.size + 1, 0, none⟩), .int .i64 0, .int .i64 1] (w1.alloc (.cells #[.int .i64 0, .int .i64 0, .slice none 0 0] 83)) fun e w' => e = .returned (.tuple #[.int .i64 0, .int .i64 0]) ∧ FSt w w' 0 (.slice none 0 0) (.slice none 0 0) [] [] 0 0 0 0) := (s_Edges S0 S0.hf 0 1).mono fun _ _ h => ⟨h.1, S0.below h.2⟩
  clear S0
  refine HED.out.mono ?_; rintro e w2 ⟨rfl, S1⟩
  have HS1 := Lib.hid S1
  clear S1 hs HED HNEW HK1 HK2 HBW
  go_wp2_with fail
  go_loopw [14] (fun i wr => ∃ (k n : Nat) (L : List Flo) (v u : Value) (lo hi : Int), k ≤ N ∧ i = .int .i64 k ∧ Hid (FSt w wr 0 v u L L n n lo hi)) (fun i _ => N - (intOf i).toNat)
  case atStart => exact ⟨0, 0, [], _, _, _, _, by omega, rfl, HS1.out⟩
  case round =>
    obtain ⟨k, n, L, v, u, lo, hi, hk, rfl, HS⟩ := hrel
    obtain ⟨q1, q2, q3⟩ := HS.out.facts
    by_cases hlt : k < N
    · have hik : (k : Int) < (N : Int) := by omega
      have hkL : k < P.length := by rw [HL.out]; exact hlt
      obtain ⟨g, o, rfl, hg, hc⟩ := HC.out (by omega)
      obtain ⟨f, hf⟩ : ∃ f, P[k]? = some f := ⟨_, List.getElem?_eq_getElem hkL⟩
      obtain ⟨d0, d1, d2, d3, d4, d5, d6⟩ := pc_cells hc hf
      have lift : ∀ {q u}, w.cell? ⟨g, q, none⟩ = some u → wr.cell? ⟨g, q, none⟩ = some u := fun {q u} e => (HS.out.bel.cell (p := ⟨g, q, none⟩) hg).trans e
      replace d0 := lift d0; replace d1 := lift d1; replace d2 := lift d2; replace d3 := lift d3; replace d4 := lift d4; replace d5 := lift d5; replace d6 := lift d6
      have dc : ∀ w', Below w.heap.size w w' → w'.cell? ⟨g, o + k * 7, none⟩ = some (.bool f.r) ∧ w'.cell? ⟨g, o + k * 7 + 2, none⟩ = some (.int .i64 f.w) ∧ w'.cell? ⟨g, o + k * 7 + 3, none⟩ = some (.int .i64 f.h) ∧ w'.cell? ⟨g, o + k * 7 + 4, none⟩ = some (.int .i64 f.fr) := fun w' hb => by
        obtain ⟨d0, d1, d2, d3, d4, d5, d6⟩ := pc_cells hc hf
        exact ⟨(hb.cell (p := ⟨g, _, none⟩) hg).trans d0, (hb.cell (p := ⟨g, _, none⟩) hg).trans d2, (hb.cell (p := ⟨g, _, none⟩) hg).trans d3, (hb.cell (p := ⟨g, _, none⟩) hg).trans d4⟩
      have dd : ∀ w', Below w.heap.size w w' → w'.cell? ⟨g, o + k * 7 + 5, none⟩ = some (.int .i64 f.lo) ∧ w'.cell? ⟨g, o + k * 7 + 6, none⟩ = some (.int .i64 f.hi) := fun w' hb => by
        obtain ⟨d0, d1, d2, d3, d4, d5, d6⟩ := pc_cells hc hf
        exact ⟨(hb.cell (p := ⟨g, _, none⟩) hg).trans d5, (hb.cell (p := ⟨g, _, none⟩) hg).trans d6⟩
      clear lift hc hf
      obtain ⟨fr, fi, fw, fh, ff, fl, fH⟩ := f
      simp only at d0 d1 d2 d3 d4 d5 d6 dc dd
      have DC := Lib.hid dc; have DD := Lib.hid dd
      clear dc dd
      cases fi
      · go_wp2_with fail
        have HS2 := Lib.hid ((HS.out.setLow 0).setHigh 0)
        clear q1 q2
        go_region_held3 (fun w' => w'.cell? ⟨g, o + k * 7, none⟩ = some (.bool fr) ∧ w'.cell? ⟨g, o + k * 7 + 2, none⟩ = some (.int .i64 fw) ∧ w'.cell? ⟨g, o + k * 7 + 3, none⟩ = some (.int .i64 fh) ∧ w'.cell? ⟨g, o + k * 7 + 4, none⟩ = some (.int .i64 ff))
          (first | exact DC.out _ HS2.out.bel | exact DC.out _ HS2.out.drew.bel | exact DC.out _ HS3.out.bel)
          ((go_at_call 42; refine (s_AddAny HS2.out.drew HS2.out.drew.hf (HS2.out.vne (by omega)) (by omega) (by omega) (by omega) _ _ _ _).mono ?_; rintro e w3 ⟨x, yy, v', L', n', rfl, AS, S3⟩; have HS3 := Lib.hid S3; clear S3))
        have DC3 := Lib.hid (DC.out _ HS3.out.bel)
        go_wp2_with fail
        go_region_held3 (fun w' => w'.cell? ⟨g, o + k * 7, none⟩ = some (.bool fr) ∧ w'.cell? ⟨g, o + k * 7 + 2, none⟩ = some (.int .i64 fw) ∧ w'.cell? ⟨g, o + k * 7 + 3, none⟩ = some (.int .i64 fh) ∧ w'.cell? ⟨g, o + k * 7 + 4, none⟩ = some (.int .i64 ff))
          (first | exact DC3.out | exact DC.out _ HS3.out.drew.bel | exact DC.out _ HS4.out.bel)
          ((go_at_call 48; refine (s_AddRAny HS3.out.drew (by omega) (by omega) _ _ _ _).mono ?_; rintro e w4 ⟨x2, y2, u', M', m', rfl, AR, S4⟩; have HS4 := Lib.hid S4; clear S4))
        obtain ⟨rfl, rfl, rfl, rfl⟩ := AS.out.uniq AR.out
        go_wp2_with fail
        go_roundw
        case rel => exact ⟨k + 1, _, _, _, _, _, _, by omega, by go_num, HS4.out⟩
        case measure => simp [intOf]; omega
      · go_wp2_with fail
        have HS2 := Lib.hid ((HS.out.setLow 0).setHigh 0)
        clear q1 q2
        go_region_held3 (fun w' => w'.cell? ⟨g, o + k * 7 + 5, none⟩ = some (.int .i64 fl) ∧ w'.cell? ⟨g, o + k * 7 + 6, none⟩ = some (.int .i64 fH))
          (first | exact DD.out _ HS2.out.bel | exact DD.out _ HS2.out.drew.bel | exact DD.out _ HG.out.2.2.2.2.bel)
          ((go_at_call 46; refine (s_In HS2.out.drew _ _).mono ?_; rintro e w3 ⟨gp, rfl, HG⟩))
        obtain ⟨H, hH⟩ : ∃ H, H = max (hld fl) (hld fH) := ⟨_, rfl⟩
        rw [← hH] at HG
        have hHb : -16777216 ≤ H ∧ H ≤ 16777216 := by have := hld_bd fl; have := hld_bd fH; omega
        have hlb := hld_bd fl
        have HH := Lib.hid hH
        clear hH
        obtain ⟨q1, q2, q3⟩ := HG.out.2.2.2.2.facts
        obtain ⟨d5, d6⟩ := DD.out _ HG.out.2.2.2.2.bel
        by_cases hc : hld fH < hld fl
        · skip
          have e1 : hld fl = H := by rw [HH.out]; omega
          have hc2 : hld fH < H := by omega
          have G0 : FG w w3 0 v u L L n n 0 0 gp H H := ⟨HG.out.2.2.2.2, by have := HG.out.1; rwa [e1] at this, HG.out.2.1, HG.out.2.2.1, HG.out.2.2.2.1⟩
          have HG0 := Lib.hid G0
          clear G0
          skip
          go_wp2_with (go_at_call 17; refine (c_Held4 _ _).mono ?_; rintro e w' ⟨rfl, rfl⟩)
          go_quiet (fail)
          go_wp2_with fail
          have HG1 := Lib.hid (((((HG0.out.setLow H).setHigh (hld fH)).drewN nq).setHigh H))
          refine (s_Edges HG1.out.st HG1.out.kg _ _).mono ?_; rintro e w4 ⟨rfl, hb⟩
          have HG2 := Lib.hid (HG1.out.below hb)
          clear hb q1 q2 q3 d5 d6
          go_wp2_with (go_at_call 17; refine (c_Held4 _ _).mono ?_; rintro e w' ⟨rfl, rfl⟩)
          refine (s_EdgesR HG2.out.st _ _).mono ?_; rintro e w5 ⟨sx, rfl, hb⟩
          have HG3 := Lib.hid (HG2.out.below hb)
          have hgb := HG3.out.st.sz
          have DC5 := DC.out _ HG3.out.st.bel
          clear hb
          go_wp2_with fail
          go_region_held3 (fun w' => w'.cell? ⟨g, o + k * 7, none⟩ = some (.bool fr) ∧ w'.cell? ⟨g, o + k * 7 + 2, none⟩ = some (.int .i64 fw) ∧ w'.cell? ⟨g, o + k * 7 + 3, none⟩ = some (.int .i64 fh) ∧ w'.cell? ⟨g, o + k * 7 + 4, none⟩ = some (.int .i64 ff))
            (first | exact DC5 | exact DC.out _ HG3.out.st.bel | exact DC.out _ HG3.out.st.drew.bel | exact DC.out _ HS3.out.bel)
            ((go_at_call 42; refine (s_AddAny HG3.out.drew.st HG3.out.drew.kg HG3.out.vn HG3.out.gl (by omega) (by omega) _ _ _ _).mono ?_; rintro e w6 ⟨x, yy, v', L', n', rfl, AS, S3⟩; have HS3 := Lib.hid S3; clear S3))
          have DC3 := Lib.hid (DC.out _ HS3.out.bel)
          clear DC5
          go_wp2_with fail
          go_region_held3 (fun w' => w'.cell? ⟨g, o + k * 7, none⟩ = some (.bool fr) ∧ w'.cell? ⟨g, o + k * 7 + 2, none⟩ = some (.int .i64 fw) ∧ w'.cell? ⟨g, o + k * 7 + 3, none⟩ = some (.int .i64 fh) ∧ w'.cell? ⟨g, o + k * 7 + 4, none⟩ = some (.int .i64 ff))
            (first | exact DC3.out | exact DC.out _ HS3.out.drew.bel | exact DC.out _ HS4.out.bel)
            ((go_at_call 48; refine (s_AddRAny HS3.out.drew (by omega) (by omega) _ _ _ _).mono ?_; rintro e w7 ⟨x2, y2, u', M', m', rfl, AR, S4⟩; have HS4 := Lib.hid S4; clear S4))
          obtain ⟨rfl, rfl, rfl, rfl⟩ := AS.out.uniq AR.out
          go_wp2_with fail
          go_roundw
          case rel => exact ⟨k + 1, _, _, _, _, _, _, by omega, by go_num, HS4.out⟩
          case measure => simp [intOf]; omega
        · skip
          have e1 : hld fH = H := by rw [HH.out]; omega
          have hc2 : ¬ H < hld fl := by omega
          have G0 : FG w w3 0 v u L L n n 0 0 gp (hld fl) H := ⟨HG.out.2.2.2.2, by have := HG.out.1; exact this, HG.out.2.1, HG.out.2.2.1, HG.out.2.2.2.1⟩
          have HG0 := Lib.hid G0
          clear G0
          skip
          go_wp2_with (go_at_call 17; refine (c_Held4 _ _).mono ?_; rintro e w' ⟨rfl, rfl⟩)
          go_quiet (fail)
          go_wp2_with fail
          have HG1 := Lib.hid ((((HG0.out.setLow (hld fl)).setHigh H).drewN nq))
          refine (s_Edges HG1.out.st HG1.out.kg _ _).mono ?_; rintro e w4 ⟨rfl, hb⟩
          have HG2 := Lib.hid (HG1.out.below hb)
          clear hb q1 q2 q3 d5 d6
          go_wp2_with (go_at_call 17; refine (c_Held4 _ _).mono ?_; rintro e w' ⟨rfl, rfl⟩)
          refine (s_EdgesR HG2.out.st _ _).mono ?_; rintro e w5 ⟨sx, rfl, hb⟩
          have HG3 := Lib.hid (HG2.out.below hb)
          have hgb := HG3.out.st.sz
          have DC5 := DC.out _ HG3.out.st.bel
          clear hb
          go_wp2_with fail
          go_region_held3 (fun w' => w'.cell? ⟨g, o + k * 7, none⟩ = some (.bool fr) ∧ w'.cell? ⟨g, o + k * 7 + 2, none⟩ = some (.int .i64 fw) ∧ w'.cell? ⟨g, o + k * 7 + 3, none⟩ = some (.int .i64 fh) ∧ w'.cell? ⟨g, o + k * 7 + 4, none⟩ = some (.int .i64 ff))
            (first | exact DC5 | exact DC.out _ HG3.out.st.bel | exact DC.out _ HG3.out.st.drew.bel | exact DC.out _ HS3.out.bel)
            ((go_at_call 42; refine (s_AddAny HG3.out.drew.st HG3.out.drew.kg HG3.out.vn HG3.out.gl (by omega) (by omega) _ _ _ _).mono ?_; rintro e w6 ⟨x, yy, v', L', n', rfl, AS, S3⟩; have HS3 := Lib.hid S3; clear S3))
          have DC3 := Lib.hid (DC.out _ HS3.out.bel)
          clear DC5
          go_wp2_with fail
          go_region_held3 (fun w' => w'.cell? ⟨g, o + k * 7, none⟩ = some (.bool fr) ∧ w'.cell? ⟨g, o + k * 7 + 2, none⟩ = some (.int .i64 fw) ∧ w'.cell? ⟨g, o + k * 7 + 3, none⟩ = some (.int .i64 fh) ∧ w'.cell? ⟨g, o + k * 7 + 4, none⟩ = some (.int .i64 ff))
            (first | exact DC3.out | exact DC.out _ HS3.out.drew.bel | exact DC.out _ HS4.out.bel)
            ((go_at_call 48; refine (s_AddRAny HS3.out.drew (by omega) (by omega) _ _ _ _).mono ?_; rintro e w7 ⟨x2, y2, u', M', m', rfl, AR, S4⟩; have HS4 := Lib.hid S4; clear S4))
          obtain ⟨rfl, rfl, rfl, rfl⟩ := AS.out.uniq AR.out
          go_wp2_with fail
          go_roundw
          case rel => exact ⟨k + 1, _, _, _, _, _, _, by omega, by go_num, HS4.out⟩
          case measure => simp [intOf]; omega
    · obtain rfl : k = N := by omega
      clear hlt
      obtain ⟨hul, Au, cu, hu, hun, huc⟩ := RdS.of_own HS.out.ou
      subst hu
      have HUL := Lib.hid hul; have HUC := Lib.hid huc
      have hn200 := HS.out.n200
      have hik : ¬ (k : Int) < (k : Int) := by omega
      clear hul huc
      go_wp2_with fail
      have HS2 := Lib.hid ((HS.out.setLow 0).setHigh 0)
      refine (s_Edges HS2.out HS2.out.hf _ _).mono ?_; rintro e w4 ⟨rfl, hb⟩
      have HS3 := Lib.hid (HS2.out.below hb)
      clear hb q1 q2
      go_wp2_with (go_at_call 17; refine (c_Held4 _ _).mono ?_; rintro e w' ⟨rfl, rfl⟩)
      refine (s_EdgesR HS3.out _ _).mono ?_; rintro e w5 ⟨sx, rfl, hb⟩
      have HS4 := Lib.hid (HS3.out.below hb)
      clear hb
      go_wp2_with fail
      refine (s_All HS4.out).mono ?_; rintro e w6 ⟨al, rfl, ⟨hal, Aa, ca, ha, han, hac⟩, hb⟩
      subst ha
      have HS5 := Lib.hid (HS4.out.below hb)
      have HAC := Lib.hid hac
      obtain ⟨_, _, _, hu5, _, huc5⟩ := RdS.of_own HS5.out.ou
      injection hu5 with hu5 _ hu6
      subst hu5 hu6
      have HUC5 := Lib.hid huc5
      have q1 := HS5.out.hr.cell
      clear hac hb hal huc5
      go_wp2_with fail
      go_loopw [31] (fun i wr2 => ∃ (j d : Nat), j ≤ n ∧ wr2 = w6.drewN d ∧ i = .int .i64 j) (fun i _ => n - (intOf i).toNat)
      case atStart => exact ⟨0, 0, by omega, rfl, rfl⟩
      case round =>
        obtain ⟨j, d, hj, rfl, rfl⟩ := hrel
        by_cases hjn : j < n
        · have hik : (j : Int) < (n : Int) := by omega
          have hkL : j < L.length := by rw [HS5.out.len]; exact hjn
          obtain ⟨ga, oa, rfl, _, hca⟩ := HAC.out (by omega)
          obtain ⟨gu, ou, rfl, _, hcu⟩ := HUC5.out (by omega)
          obtain ⟨f, hf⟩ : ∃ f, L[j]? = some f := ⟨_, List.getElem?_eq_getElem hkL⟩
          obtain ⟨a0, a1, a2, a3, a4⟩ := rd_cells hca hf
          obtain ⟨b0, b1, b2, b3, b4⟩ := rd_cells hcu hf
          clear hca hcu hf
          obtain ⟨r, x, fy, fw, fh⟩ := f
          simp only at a0 a1 a2 a3 a4 b0 b1 b2 b3 b4
          cases r
          all_goals
            go_wp2_with fail
            go_quiet (fail)
            go_wp2_with fail
            go_roundw
            case rel => exact ⟨j + 1, _, by omega, by first | rfl | exact World.drewN_drewN .., by go_num⟩
            case measure => simp [intOf]; omega
        · obtain rfl : j = n := by omega
          have hik : ¬ (j : Int) < (j : Int) := by omega
          have HS6 := Lib.hid (HS5.out.drewN d)
          go_wp2_with fail
          refine (s_ClearF HS6.out _ _).mono ?_; rintro e w7 ⟨rfl, hb⟩
          have HS7 := Lib.hid (HS6.out.below hb); clear hb
          go_wp2_with fail
          refine (s_ClearR HS7.out _ _).mono ?_; rintro e w8 ⟨rfl, hb⟩
          have HS8 := Lib.hid (HS7.out.below hb); clear hb
          go_wp2_with fail
          refine (s_ClearF HS8.out _ _).mono ?_; rintro e w7 ⟨rfl, hb⟩
          have HS7 := Lib.hid (HS8.out.below hb); clear hb
          go_wp2_with fail
          refine (s_ClearR HS7.out _ _).mono ?_; rintro e w8 ⟨rfl, hb⟩
          have HS8 := Lib.hid (HS7.out.below hb); clear hb
          go_wp2_with fail
          refine (s_ClearF HS8.out _ _).mono ?_; rintro e w7 ⟨rfl, hb⟩
          have HS7 := Lib.hid (HS8.out.below hb); clear hb
          go_wp2_with fail
          refine (s_ClearR HS7.out _ _).mono ?_; rintro e w8 ⟨rfl, hb⟩
          have HS8 := Lib.hid (HS7.out.below hb); clear hb
          go_wp2_with fail
          refine (s_ClearF HS8.out _ _).mono ?_; rintro e w7 ⟨rfl, hb⟩
          have HS7 := Lib.hid (HS8.out.below hb); clear hb
          rw [clE_none]
          go_wp2_with fail
          go_ret
          exact ⟨ret_bool (by simp), HS7.out.bel⟩
end Go.Proofs.Ytnjckpgacbibhaa
