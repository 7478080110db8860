/- GridFree: the walk -/
import Derived.Test.YtnjckpgacbibhaaGrm
namespace Go.Proofs.Ytnjckpgacbibhaa
set_option linter.unusedVariables false
set_option linter.unusedSimpArgs false
open Go.RowKit Go.Cas Go.WideShapes Go.ChangeShapes

set_option maxRecDepth 100000 in
set_option maxHeartbeats 16000000 in
theorem W_walkGF (v : Value) (n : Nat) (I : List CIn) (cols : Int) (w : World) (hl : I.length = n) (hN : n ≤ maxLen) (hp : RdS w w.heap.size 4 v n (cins I)) : Calls Try.prog 14 #[v, .int .i64 cols] w fun e w' => e = .returned (.bool true) ∧ Below w.heap.size w w' := by
  have hN63 : (n : Int) ≤ 9223372036854775807 := by unfold maxLen at hN; omega
  have HP := Lib.hid hp
  obtain ⟨_, A, c, rfl, hnc, _⟩ := hp
  by_cases h60 : (n : Int) > 60
  · clear hl hN
    go_enter Try.func14, Try.ntmps14
    go_wp2_with fail
    go_ret
    exact ⟨rfl, Below.refl _ _⟩
  obtain ⟨L4, C3, hpl⟩ := pl_ex I cols (by omega)
  have HPL := Lib.hid hpl
  have HF := Lib.hid (pl_fin (by omega) hpl)
  have HL := Lib.hid hl
  have hC1 := HF.out.one
  have hC2 := HF.out.top
  have hC3 : ¬ C3 < 1 := by omega
  clear hl hN hpl
  go_enter Try.func14, Try.ntmps14
  go_wp2_with fail
  refine (c_cells _ n I w HP.out (by omega)).mono ?_
  rintro e w1 ⟨u, rfl, hu, hb1⟩
  have HU := Lib.hid hu
  obtain ⟨_, A1, c1, rfl, hnc1, _⟩ := hu
  have HB1 := Lib.hid hb1
  clear hb1
  go_wp2_with fail
  refine (place_P _ n _ I cols w1 HU.out (Nat.le_refl _) (by omega) L4 C3 HPL.out).mono ?_
  rintro e w2 ⟨u2, rfl, hu2, hb2⟩
  have HU2 := Lib.hid hu2
  obtain ⟨_, A2, c2, rfl, hnc2, _⟩ := hu2
  have HB2 := Lib.hid (bl_trans HB1.out hb2)
  have HP2 := Lib.hid ((HP.out.below HB2.out).mono HB2.out.size)
  clear hb2
  obtain ⟨M, hM⟩ : ∃ M, M = rowsF L4 := ⟨_, rfl⟩
  have HMM := Lib.hid hM
  rw [← hM]
  clear hM
  go_wp2_with fail
  go_loopw [8] (fun i wr => ∃ (k : Nat), k ≤ n ∧ i = .int .i64 k ∧ Hid (Below w2.heap.size w2 wr)) (fun i _ => n - (intOf i).toNat)
  case atStart => exact ⟨0, by omega, rfl, Below.refl _ _⟩
  case round =>
    obtain ⟨k, hk, rfl, HBR⟩ := hrel
    by_cases hlt : k < n
    · have hik : (k : Int) < (n : Int) := by omega
      obtain ⟨x, hx⟩ : ∃ x, L4[k]? = some x := ⟨_, List.getElem?_eq_getElem (by rw [HF.out.len, HL.out]; exact hlt)⟩
      obtain ⟨z, hz⟩ : ∃ z, I[k]? = some z := ⟨_, List.getElem?_eq_getElem (by rw [HL.out]; exact hlt)⟩
      have hxb := HF.out.each x (List.mem_of_getElem? hx)
      have HU2' := HU2
      obtain ⟨g, o, rfl, _, f1⟩ := rd_cells HU2.out hlt hx
      obtain ⟨g', o', rfl, _, f2⟩ := rd_cin HP2.out hlt hz
      obtain ⟨d0, d1, d2, d3⟩ := f1 _ HBR.out
      have HX := Lib.hid hx; have HZ := Lib.hid hz
      rw [← HMM.out] at hxb
      obtain ⟨e0, e2⟩ := f2 _ (bl_alloc HBR.out (.cells #[.int .i64 x.c, .int .i64 x.p, .int .i64 x.r, .int .i64 x.q] 99))
      clear hx hz f1 f2
      obtain ⟨xc, xp, xr, xq⟩ := x
      obtain ⟨zc, zp, zr, zq⟩ := z
      simp only at d0 d1 d2 d3 e0 e2 hxb
      have n1 : ¬ xc < 1 := by omega
      have n2 : ¬ xr < 1 := by omega
      have n3 : ¬ C3 < xc + xp - 1 := by omega
      have n4 : ¬ M < xr + xq - 1 := by omega
      obtain ⟨R, hR⟩ : ∃ R, R = wr.heap.size := ⟨_, rfl⟩
      have HRR := Lib.hid hR
      have HK : Hid (Bk (wr.alloc (.cells #[.int .i64 xc, .int .i64 xp, .int .i64 xr, .int .i64 xq] 99)) R 99 #[.int .i64 xc, .int .i64 xp, .int .i64 xr, .int .i64 xq]) := bk_new' _ _ _ hR
      have HBK := Lib.hid (bl_alloc HBR.out (.cells #[.int .i64 xc, .int .i64 xp, .int .i64 xr, .int .i64 xq] 99))
      clear hR
      by_cases z1 : 0 < zc ∧ 0 < zr
      · obtain ⟨z1, z2⟩ := z1
        go_wp2_with fail
        go_roundw
        case rel => exact ⟨k + 1, by omega, by go_num, HBK.out⟩
        case measure => simp [intOf]; omega
      · have HZN := Lib.hid z1
        by_cases z2 : 0 < zc
        all_goals
          have z3 : (0 < zc → ¬ 0 < zr) := fun h1 h2 => z1 ⟨h1, h2⟩
          first
            | (have z4 : ¬ 0 < zr := z3 z2)
            | skip
          clear z1 z3
          go_wp2_with fail
          rw [← HRR.out]
          clear d0 d1 d2 d3 e0 e2
          go_loopw [10] (fun i wr => ∃ (m : Nat), m ≤ n ∧ i = .int .i64 m ∧ Hid (Bk wr R 99 #[.int .i64 xc, .int .i64 xp, .int .i64 xr, .int .i64 xq]) ∧ Hid (Below w2.heap.size w2 wr)) (fun i _ => n - (intOf i).toNat)
          case atStart => exact ⟨0, by omega, rfl, HK.out, HBK.out⟩
          case round =>
            obtain ⟨m, hm, rfl, HKR, HBR2⟩ := hrel
            by_cases hmn : m < n
            · have hik2 : (m : Int) < (n : Int) := by omega
              obtain ⟨y, hy⟩ : ∃ y, L4[m]? = some y := ⟨_, List.getElem?_eq_getElem (by rw [HF.out.len, HL.out]; exact hmn)⟩
              have hyb := HF.out.each y (List.mem_of_getElem? hy)
              have HY := Lib.hid hy
              obtain ⟨g2, o2, eA, _, f1⟩ := rd_cells HU2'.out hmn hy
              injection eA with eA
              injection eA with eg eo
              subst eg eo
              obtain ⟨d0, d1, d2, d3⟩ := f1 _ HBR2.out
              clear hy f1
              obtain ⟨yc, yp, yr, yq⟩ := y
              simp only at d0 d1 d2 d3 hyb
              have HK2 := Lib.hid (HKR.out.alloc (.cells #[.int .i64 yc, .int .i64 yp, .int .i64 yr, .int .i64 yq] 99))
              have HB2' := Lib.hid (bl_alloc HBR2.out (.cells #[.int .i64 yc, .int .i64 yp, .int .i64 yr, .int .i64 yq] 99))
              have q1 := HK2.out.cell; have q2 := HK2.out.lt
              have q3 := HKR.out.lt
              by_cases hmk : m = k
              · subst hmk
                go_wp2_with fail
                go_roundw
                case rel => exact ⟨m + 1, by omega, by go_num, HK2.out, HB2'.out⟩
                case measure => simp [intOf]; omega
              · have hmk2 : ((m : Int) != (k : Int)) = true := by simp; omega
                have hap := HF.out.apart k m _ _ _ (fun e => hmk e.symm) HX.out HY.out HZ.out HZN.out
                unfold ovI at hap
                simp only at hap
                have HAP := Lib.hid hap
                clear hap hmk
                by_cases a1 : xc < yc + yp
                · by_cases a2 : yc < xc + xp
                  · by_cases a3 : xr < yr + yq
                    · by_cases a4 : yr < xr + xq
                      · exact absurd ⟨a1, a2, a3, a4⟩ HAP.out
                      · go_wp2_with fail
                        go_roundw
                        case rel => exact ⟨m + 1, by omega, by go_num, HK2.out, HB2'.out⟩
                        case measure => simp [intOf]; omega
                    · go_wp2_with fail
                      go_roundw
                      case rel => exact ⟨m + 1, by omega, by go_num, HK2.out, HB2'.out⟩
                      case measure => simp [intOf]; omega
                  · go_wp2_with fail
                    go_roundw
                    case rel => exact ⟨m + 1, by omega, by go_num, HK2.out, HB2'.out⟩
                    case measure => simp [intOf]; omega
                · go_wp2_with fail
                  go_roundw
                  case rel => exact ⟨m + 1, by omega, by go_num, HK2.out, HB2'.out⟩
                  case measure => simp [intOf]; omega
            · obtain rfl : m = n := by omega
              have hik2 : ¬ (m : Int) < (m : Int) := by omega
              go_wp2_with fail
              go_roundw
              case rel => exact ⟨k + 1, by omega, by go_num, HBR2.out⟩
              case measure => simp [intOf]; omega
    · obtain rfl : k = n := by omega
      have hik : ¬ (k : Int) < (k : Int) := by omega
      go_wp2_with fail
      go_ret
      exact ⟨rfl, bl_trans HB2.out HBR.out⟩
set_option maxRecDepth 100000 in
theorem W_gridFree {H : Type} {enc : TypeId × Value → H} {b0 base : Nat} {r : Reach} {spare : Nat → Bool} {held : Bool} {d : DataW H} {p : List MemPlace} (v : Value) (cols : Int) (w : World)
    (hv : Value.okWide Try.prog w r b0 91 v) (hh : DataW.Trod enc Try.prog w base spare held 91 v d p) (_ : (Lit.int .i64 cols).wf = true) :
    Calls Try.prog 14 #[v, .int .i64 cols] w fun e w' => e = .returned (.bool true) ∧ Below w.heap.size w w' := by
  obtain ⟨n, L, h1, h2, h3⟩ := open_Cells hv hh
  exact W_walkGF v n L cols w h1 h2 h3
end Go.Proofs.Ytnjckpgacbibhaa
