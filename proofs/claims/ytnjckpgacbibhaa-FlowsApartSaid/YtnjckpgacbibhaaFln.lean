/- FlowsApart: the walk -/
import Derived.Test.YtnjckpgacbibhaaFlm
namespace Go.Proofs.Ytnjckpgacbibhaa
set_option linter.unusedVariables false
set_option linter.unusedSimpArgs false
open Go.RowKit Go.Cas

theorem belowD {B : Nat} {a w : World} (h : Below B a w) : Below B a w.drew := ⟨h.os, h.tape, h.output, h.size, h.block⟩
set_option maxRecDepth 100000 in
set_option maxHeartbeats 16000000 in
theorem W_walkAp (v : Value) (N : Nat) (P : List PutC) (wd : Int) (w : World) (hl : P.length = N) (hNm : N ≤ maxLen) (hp : RdS w w.heap.size 7 v N (P.flatMap pc)) : Calls Try.prog 11 #[.int .i64 wd, v] w fun e w' => e = .returned (.bool true) ∧ Below w.heap.size w w' := by
  have hN63 : (N : Int) ≤ 9223372036854775807 := by unfold maxLen at hNm; omega
  obtain ⟨hl2, A, c, rfl, hnc, hcell⟩ := hp
  have HC := Lib.hid hcell
  have HL := Lib.hid hl
  have HNEW := Lib.hid (c_New wd w)
  clear hcell hl hl2
  by_cases h1 : wd < 0
  · go_enter Try.func11, Try.ntmps11
    go_wp2_with fail
    refine HNEW.out.mono ?_; rintro e w1 ⟨rfl, k1, k2, hb, hs⟩
    clear k1 k2 hs
    go_wp2_with fail
    go_ret
    exact ⟨rfl, hb⟩
  by_cases h2 : wd > 16777216
  · go_enter Try.func11, Try.ntmps11
    go_wp2_with fail
    refine HNEW.out.mono ?_; rintro e w1 ⟨rfl, k1, k2, hb, hs⟩
    clear k1 k2 hs
    go_wp2_with fail
    go_ret
    exact ⟨rfl, hb⟩
  by_cases h60 : (N : Int) > 60
  · go_enter Try.func11, Try.ntmps11
    go_wp2_with fail
    refine HNEW.out.mono ?_; rintro e w1 ⟨rfl, k1, k2, hb, hs⟩
    clear k1 k2 hs
    go_wp2_with fail
    go_ret
    exact ⟨rfl, hb⟩
  have hzw : zH wd = wd := by unfold zH hld; omega
  rw [hzw] at HNEW
  clear hzw
  go_enter Try.func11, Try.ntmps11
  go_wp2_with fail
  refine HNEW.out.mono ?_; rintro e w1 ⟨rfl, k1, k2, hb, hs⟩
  have S0 : GSt w w1 wd (.slice none 0 0) [] 0 := { hf := k1, hl := k2, ov := World.ownsRow_nil _ _ _ _, bel := hb, sz := by omega, good := GoodF.nil, len := rfl, nil := fun _ => rfl }
  have HS0 := Lib.hid S0
  have HA0 := Lib.hid (Apt.nil wd P)
  clear S0 k1 k2 hb hs HNEW
  go_wp2_with fail
  go_loopw [6] (fun i wr => ∃ (k : Nat) (L : List Flo) (v : Value), k ≤ N ∧ i = .int .i64 k ∧ Hid (GSt w wr wd v L k) ∧ Hid (Apt wd L P)) (fun i _ => N - (intOf i).toNat)
  case atStart => exact ⟨0, [], _, by omega, rfl, HS0.out, HA0.out⟩
  case round =>
    obtain ⟨k, L, v, hk, rfl, HS, HA⟩ := hrel
    have q3 := HS.out.sz
    by_cases hlt : k < N
    · have hik : (k : Int) < (N : Int) := by omega
      have hkL : k < P.length := by rw [HL.out]; exact hlt
      obtain ⟨g, o, rfl, hg, hc⟩ := HC.out (by omega)
      obtain ⟨f, hf⟩ : ∃ f, P[k]? = some f := ⟨_, List.getElem?_eq_getElem hkL⟩
      have HPK := Lib.hid hf
      have dc : ∀ w', Below w.heap.size w w' → w'.cell? ⟨g, o + k * 7, none⟩ = some (.bool f.r) ∧ w'.cell? ⟨g, o + k * 7 + 2, none⟩ = some (.int .i64 f.w) ∧ w'.cell? ⟨g, o + k * 7 + 3, none⟩ = some (.int .i64 f.h) ∧ w'.cell? ⟨g, o + k * 7 + 4, none⟩ = some (.int .i64 f.fr) := fun w' hb => by
        obtain ⟨d0, d1, d2, d3, d4, d5, d6⟩ := pc_cells hc hf
        exact ⟨(hb.cell (p := ⟨g, _, none⟩) hg).trans d0, (hb.cell (p := ⟨g, _, none⟩) hg).trans d2, (hb.cell (p := ⟨g, _, none⟩) hg).trans d3, (hb.cell (p := ⟨g, _, none⟩) hg).trans d4⟩
      obtain ⟨d0, d1, d2, d3, d4, d5, d6⟩ := pc_cells hc hf
      replace d1 := (HS.out.bel.cell (p := ⟨g, _, none⟩) hg).trans d1
      have DC := Lib.hid dc
      obtain ⟨d0, d2, d3, d4⟩ := dc _ HS.out.bel
      clear hc hf dc d5 d6
      obtain ⟨fr, fi, fw, fh, ff, fl, fH⟩ := f
      simp only at d0 d1 d2 d3 d4 DC
      cases fi
      · by_cases c1 : fw < 0
        · go_wp2_with fail
          go_ret
          exact ⟨rfl, HS.out.bel⟩
        by_cases c2 : fw > wd
        · go_wp2_with fail
          go_ret
          exact ⟨rfl, HS.out.bel⟩
        by_cases c3 : fh < 0
        · go_wp2_with fail
          go_ret
          exact ⟨rfl, HS.out.bel⟩
        by_cases c4 : fh > 100000
        · go_wp2_with fail
          go_ret
          exact ⟨rfl, HS.out.bel⟩
        by_cases c5 : ff < 0
        · go_wp2_with fail
          go_ret
          exact ⟨rfl, HS.out.bel⟩
        by_cases c6 : ff > 100000
        · go_wp2_with fail
          go_ret
          exact ⟨rfl, HS.out.bel⟩
        have hzw : zH fw = fw := by unfold zH hld; omega
        have hzh : zH fh = fh := by unfold zH hld; omega
        have hzf : hld ff = ff := by unfold hld; omega
        have hadd : ∀ wx, wx = wr.drew → Calls Try.prog 42 #[.pointer (some ⟨w.heap.size + 1, 0, none⟩), .bool fr, .int .i64 fw, .int .i64 fh, .int .i64 ff] wx fun e w' => ∃ x y v' L', e = .returned (.tuple #[.int .i64 x, .int .i64 y]) ∧ GSt w w' wd v' L' (k + 1) ∧ Apt wd L' P := by
          rintro wx rfl
          refine (g_Add HS.out.drew (by omega) (by omega) fr fw fh ff).mono ?_
          rintro e w' ⟨x, y, v', rfl, hf1, S3⟩
          rw [hzw, hzh, hzf] at hf1
          rw [hzw, hzh] at S3
          refine ⟨x, y, v', _, rfl, S3, ?_⟩
          exact HA.out.snoc (p := ⟨fr, false, fw, fh, ff, fl, fH⟩) (by rw [HS.out.len]; exact HPK.out) (by omega) (by omega) (by omega) hf1.out.1 hf1.out.2 (Int.le_refl _) rfl rfl
        have HADD := Lib.hid hadd
        clear hadd hzw hzh hzf
        go_wp2_with fail
        go_region_held3 (fun w' => w'.cell? ⟨g, o + k * 7, none⟩ = some (.bool fr) ∧ w'.cell? ⟨g, o + k * 7 + 2, none⟩ = some (.int .i64 fw) ∧ w'.cell? ⟨g, o + k * 7 + 3, none⟩ = some (.int .i64 fh) ∧ w'.cell? ⟨g, o + k * 7 + 4, none⟩ = some (.int .i64 ff))
          (first | exact DC.out _ HS.out.bel | exact DC.out _ HS.out.drew.bel | exact DC.out _ HS3.out.bel)
          ((go_at_call 42; refine (HADD.out _ rfl).mono ?_; rintro e w3 ⟨x, yy, v', L', rfl, S3, A3⟩; have HS3 := Lib.hid S3; have HA3 := Lib.hid A3; clear S3 A3))
        go_wp2_with fail
        go_roundw
        case rel => exact ⟨k + 1, _, _, by omega, by go_num, HS3.out, HA3.out⟩
        case measure => simp [intOf]; omega
      · go_wp2_with fail
        go_ret
        exact ⟨rfl, HS.out.bel⟩
    · obtain rfl : k = N := by omega
      have hik : ¬ (k : Int) < (k : Int) := by omega
      go_wp2_with fail
      refine (g_All HS.out).mono ?_; rintro e w6 ⟨al, rfl, ⟨hal, Aa, ca, ha, han, hac⟩, hb⟩
      subst ha
      have HAC := Lib.hid hac
      have HB6 := Lib.hid (bl_trans HS.out.bel hb)
      clear hac hb hal
      go_wp2_with fail
      go_loopw [8] (fun i wr2 => ∃ (j : Nat), j ≤ k ∧ i = .int .i64 j ∧ Hid (Below w6.heap.size w6 wr2)) (fun i _ => k - (intOf i).toNat)
      case atStart => exact ⟨0, by omega, rfl, Below.refl _ _⟩
      case round =>
        obtain ⟨j, hj, rfl, HBJ⟩ := hrel
        by_cases hjn : j < k
        · have hik : (j : Int) < (k : Int) := by omega
          have hkL : j < L.length := by rw [HS.out.len]; exact hjn
          have hkP : j < P.length := by rw [HL.out]; exact hjn
          obtain ⟨ga, oa, rfl, hga, hca⟩ := HAC.out (by omega)
          obtain ⟨g, o, rfl, hg, hc⟩ := HC.out (by omega)
          obtain ⟨f, hf⟩ : ∃ f, L[j]? = some f := ⟨_, List.getElem?_eq_getElem hkL⟩
          obtain ⟨p, hp⟩ : ∃ p, P[j]? = some p := ⟨_, List.getElem?_eq_getElem hkP⟩
          have hok := HA.out.ok j f p hf hp
          have hfb := goodF_fbi HS.out.good hf
          have HFB := Lib.hid hfb
          have HFJ := Lib.hid hf
          have BW := Lib.hid (HB6.out.trans (HBJ.out.mono HB6.out.size))
          have HLT := Lib.hid (show ga < w6.heap.size from hga)
          obtain ⟨a0, a1, a2, a3, a4⟩ := rd_cells hca hf
          replace a1 := (HBJ.out.cell (p := ⟨ga, _, none⟩) hga).trans a1
          replace a2 := (HBJ.out.cell (p := ⟨ga, _, none⟩) hga).trans a2
          replace a3 := (HBJ.out.cell (p := ⟨ga, _, none⟩) hga).trans a3
          replace a4 := (HBJ.out.cell (p := ⟨ga, _, none⟩) hga).trans a4
          obtain ⟨d0, d1, d2, d3, d4, d5, d6⟩ := pc_cells hc hp
          replace d2 := (BW.out.cell (p := ⟨g, _, none⟩) hg).trans d2
          replace d3 := (BW.out.cell (p := ⟨g, _, none⟩) hg).trans d3
          replace d4 := (BW.out.cell (p := ⟨g, _, none⟩) hg).trans d4
          have hgw : g < wr.heap.size := by have := BW.out.size; omega
          have hgaw : ga < wr.heap.size := by have := HBJ.out.size; omega
          have HCA := Lib.hid hca
          clear hca hc hf hp a0 d0 d1 d5 d6 hga
          obtain ⟨r, x, fy, fw, fh⟩ := f
          obtain ⟨pr, pi, pw, ph, pf, pl, pH⟩ := p
          obtain ⟨o1, o2, o3, o4, o5⟩ := hok
          obtain ⟨b1, b2, b3, b4, b5, b6, b7, b8⟩ := hfb
          simp only at a1 a2 a3 a4 d2 d3 d4 o1 o2 o3 o4 o5 b1 b2 b3 b4 b5 b6 b7 b8
          subst o4 o5
          have t1 : decide (x < 0) = false := decide_eq_false (by omega)
          have t2 : decide (wd < x + fw) = false := decide_eq_false (by omega)
          have t3 : decide (fy < pf) = false := decide_eq_false (by omega)
          have t4 : IntKind.i64.wrap (x + fw) = x + fw := IntWalk.i64_in _ (by omega)
          go_wp2_with fail
          go_quiet (fail)
          go_wp2_with fail
          obtain ⟨w7, hw7⟩ : ∃ W7, W7 = (wr.alloc (.cells #[.int .i64 x, .int .i64 fy, .int .i64 fw, .int .i64 fh] 33)).drewN nq := ⟨_, rfl⟩
          obtain ⟨R, hR⟩ : ∃ R, R = wr.heap.size := ⟨_, rfl⟩
          have HRB : Hid (Bk w7 R 33 #[.int .i64 x, .int .i64 fy, .int .i64 fw, .int .i64 fh]) := by rw [hw7, hR]; exact (Bk.new _ _ _).drewN _
          have HB7 : Hid (Below w6.heap.size w6 w7) := by rw [hw7]; exact bl_drewN (bl_alloc HBJ.out _) _
          have HW7 := Lib.hid hw7; have HRR := Lib.hid hR
          clear hw7 hR a1 a2 a3 a4 d2 d3 d4 t1 t2 t3 t4
          go_loopw [10] (fun i wr3 => ∃ (m : Nat), m ≤ j ∧ i = .int .i64 m ∧ Hid (Below w7.heap.size w7 wr3)) (fun i _ => j - (intOf i).toNat)
          case atStart => exact ⟨0, by omega, rfl, by rw [← HW7.out]; exact Below.refl _ _⟩
          case round =>
            obtain ⟨m, hm, rfl, HBM⟩ := hrel
            rw [← HRR.out]
            by_cases hmj : m < j
            · have hik2 : (m : Int) < (j : Int) := by omega
              have hik3 : (m : Int) < (k : Int) := by omega
              have hkM : m < L.length := by rw [HS.out.len]; omega
              obtain ⟨q, hq⟩ : ∃ q, L[m]? = some q := ⟨_, List.getElem?_eq_getElem hkM⟩
              have hap := HA.out.ap j m _ q hmj HFJ.out hq
              have hqb := goodF_fbi HS.out.good hq
              have f24 : ∀ w', Below w7.heap.size w7 w' → w'.cell? ⟨R, 0, none⟩ = some (.int .i64 x) ∧ w'.cell? ⟨R, 1, none⟩ = some (.int .i64 fy) ∧ w'.cell? ⟨R, 2, none⟩ = some (.int .i64 fw) ∧ w'.cell? ⟨R, 3, none⟩ = some (.int .i64 fh) ∧ w'.cell? ⟨ga, oa + m * 5 + 1, none⟩ = some (.int .i64 q.x) ∧ w'.cell? ⟨ga, oa + m * 5 + 2, none⟩ = some (.int .i64 q.y) ∧ w'.cell? ⟨ga, oa + m * 5 + 3, none⟩ = some (.int .i64 q.w) ∧ w'.cell? ⟨ga, oa + m * 5 + 4, none⟩ = some (.int .i64 q.h) := fun w' hb => by
                have kb := (HRB.out.below hb HRB.out.lt).cell
                obtain ⟨_, c1, c2, c3, c4⟩ := rd_cells HCA.out hq
                have bb := HB7.out.trans (hb.mono HB7.out.size)
                exact ⟨by rw [kb]; rfl, by rw [kb]; rfl, by rw [kb]; rfl, by rw [kb]; rfl, (bb.cell (p := ⟨ga, _, none⟩) HLT.out).trans c1, (bb.cell (p := ⟨ga, _, none⟩) HLT.out).trans c2, (bb.cell (p := ⟨ga, _, none⟩) HLT.out).trans c3, (bb.cell (p := ⟨ga, _, none⟩) HLT.out).trans c4⟩
              have F24 := Lib.hid f24
              have HAP := Lib.hid hap.1
              have hay := hap.2
              have HQB := Lib.hid hqb
              clear f24 hq hap hqb
              obtain ⟨qr, qx, qy, qw, qh⟩ := q
              simp only at hay F24
              go_wp2_with fail
              go_region_held3 (fun w' => w'.cell? ⟨R, 0, none⟩ = some (.int .i64 x) ∧ w'.cell? ⟨R, 1, none⟩ = some (.int .i64 fy) ∧ w'.cell? ⟨R, 2, none⟩ = some (.int .i64 fw) ∧ w'.cell? ⟨R, 3, none⟩ = some (.int .i64 fh) ∧ w'.cell? ⟨ga, oa + m * 5 + 1, none⟩ = some (.int .i64 qx) ∧ w'.cell? ⟨ga, oa + m * 5 + 2, none⟩ = some (.int .i64 qy) ∧ w'.cell? ⟨ga, oa + m * 5 + 3, none⟩ = some (.int .i64 qw) ∧ w'.cell? ⟨ga, oa + m * 5 + 4, none⟩ = some (.int .i64 qh))
                (first | exact F24.out _ HBM.out | exact F24.out _ (belowD HBM.out) | exact F24.out _ HB9.out)
                ((go_at_call 44; refine (c_apart _ _ _ HFB.out HQB.out HAP.out).mono ?_; rintro e w9 ⟨rfl, hb9⟩; have HB9 := Lib.hid (bl_trans (belowD HBM.out) hb9); clear hb9))
              obtain ⟨e0, e1, e2, e3, e4, e5, e6, e7⟩ := F24.out _ HB9.out
              have t5 : decide (fy < qy) = false := decide_eq_false (by omega)
              go_wp2_with fail
              go_quiet (fail)
              go_wp2_with fail
              go_roundw
              case rel => exact ⟨m + 1, by omega, by go_num, bl_drewN HB9.out _⟩
              case measure => simp [intOf]; omega
            · obtain rfl : m = j := by omega
              have hik2 : ¬ (m : Int) < (m : Int) := by omega
              go_wp2_with fail
              go_roundw
              case rel => exact ⟨m + 1, by omega, by go_num, HB7.out.trans (HBM.out.mono HB7.out.size)⟩
              case measure => simp [intOf]; omega
        · obtain rfl : j = k := by omega
          have hik : ¬ (j : Int) < (j : Int) := by omega
          go_wp2_with fail
          go_ret
          exact ⟨rfl, HB6.out.trans (HBJ.out.mono HB6.out.size)⟩
end Go.Proofs.Ytnjckpgacbibhaa
