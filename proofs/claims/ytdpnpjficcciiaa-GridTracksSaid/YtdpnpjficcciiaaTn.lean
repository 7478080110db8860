import Derived.Test.YtdpnpjficcciiaaTm
import Derived.Deep.DeepCutAuto
import Derived.Deep.QuietTactic
import Derived.BigQuiet
import Derived.IntWalk
import Derived.Deep.CutBlock
import Derived.Lib.ItoaNum
import Derived.Laws.BitsAllLaws
import Derived.WalkLawsBesides
namespace Go.Proofs.Ytdpnpjficcciiaa
set_option linter.unusedVariables false
set_option linter.unusedSimpArgs false
open Go.RowKit Go.Cas Go.Shelf
namespace Dv2
theorem un {a b q y v : Nat} (h : q * y + v = a * 4294967296 + b) (hv : v < 18446744073709551616) : IntKind.u64.wrap (IntKind.u64.wrap (IntKind.u64.wrap ((a : Int) * 4294967296) + (b : Int)) - IntKind.u64.wrap ((q : Int) * (y : Int))) = (v : Int) := by
  rw [Mul64.mulN]
  generalize q * y = z at h
  simp only [IntKind.wrap_u64]
  omega
end Dv2
theorem cast_shl (a s : Nat) : (a : Int) * 2 ^ s = ((a * 2 ^ s : Nat) : Int) := by rw [Int.natCast_mul, Int.natCast_pow]; rfl
theorem cast_shr (a s : Nat) : (a : Int) / 2 ^ s = ((a / 2 ^ s : Nat) : Int) := by rw [Int.natCast_ediv, Int.natCast_pow]; rfl
set_option maxHeartbeats 2000000 in
theorem c_Div0 (lo y : Nat) (w : World) (h0 : 0 < y) (hl : lo < 18446744073709551616) (hy : y < 18446744073709551616) :
    Calls Try.prog 43 #[.int .u64 (0 : Int), .int .u64 (lo : Int), .int .u64 (y : Int)] w fun e w' => e = .returned (.tuple #[.int .u64 ((lo / y : Nat) : Int), .int .u64 ((lo % y : Nat) : Int)]) ∧ ∃ n, w' = w.drewN n := by
  have a1 : ((y : Int) == 0) = false := by simp; omega
  have a2 : ¬ (y : Int) ≤ 0 := by omega
  have a4 : IntKind.u64.wrap ((lo : Int) / (y : Int)) = (lo : Int) / (y : Int) := by
    rw [← Int.natCast_ediv]; exact Mul64.wrapN _ (Nat.lt_of_le_of_lt (Nat.div_le_self _ _) hl)
  have H1 := Lib.hid h0; have H2 := Lib.hid hl; have H3 := Lib.hid hy
  clear hl hy
  go_enter Try.func43, Try.ntmps43
  go_wp2_with fail
  go_quiet (fail)
  go_wp2_with fail
  go_ret2
  exact ⟨by rw [Int.natCast_ediv, Int.natCast_emod]; rfl, _, rfl⟩
set_option maxRecDepth 100000 in
set_option maxHeartbeats 4000000 in
theorem c_Div1 (hi lo y s : Nat) (w : World) (h0 : 0 < hi) (hh : hi < y) (hl : lo < 18446744073709551616) (hy : y < 18446744073709551616) (hs : s ≤ 63) (hYs : y * 2 ^ s < 18446744073709551616) (hYt : 9223372036854775808 ≤ y * 2 ^ s) (hlz : Calls Try.prog 48 #[.int .u64 y] w fun e w' => e = .returned (.int .i64 s) ∧ w' = w) :
    Calls Try.prog 43 #[.int .u64 (hi : Int), .int .u64 (lo : Int), .int .u64 (y : Int)] w fun e w' => e = .returned (.tuple #[.int .u64 (((hi * 18446744073709551616 + lo) / y : Nat) : Int), .int .u64 (((hi * 18446744073709551616 + lo) % y : Nat) : Int)]) ∧ w = w' := by
  have a1 : ((y : Int) == 0) = false := by simp; omega
  have a2 : ¬ (y : Int) ≤ (hi : Int) := by omega
  have a3 : ((hi : Int) == 0) = false := by simp; omega
  have H2 := Lib.hid hl; have H3 := Lib.hid hy
  have HLZ := Lib.hid hlz; have HYs := Lib.hid hYs; have HYt := Lib.hid hYt
  clear hl hy hlz hYs hYt
  go_enter Try.func43, Try.ntmps43
  go_upto_region 15 with (go_at_call 48; refine HLZ.out.mono ?_; rintro e w' ⟨rfl, hw⟩; rw [hw]; clear hw)
  obtain ⟨Y, hY⟩ : ∃ Y, Y = y * 2 ^ s := ⟨_, rfl⟩
  obtain ⟨U, hU⟩ : ∃ U, U = hi * 2 ^ s + lo / 2 ^ (64 - s) := ⟨_, rfl⟩
  obtain ⟨T, hT⟩ : ∃ T, T = lo * 2 ^ s % 18446744073709551616 := ⟨_, rfl⟩
  obtain ⟨w1, w2, w3⟩ := Dv.words (s := s) (by omega) hh H2.out HYs.out
  have hhi : hi * 2 ^ s < 18446744073709551616 := Nat.lt_of_le_of_lt (Nat.le_add_right _ _) (Nat.lt_trans w2 HYs.out)
  have hlos : lo / 2 ^ (64 - s) < 18446744073709551616 := Nat.lt_of_le_of_lt (Nat.le_add_left _ (hi * 2 ^ s)) (Nat.lt_trans w2 HYs.out)
  have E1 : IntKind.u64.wrap ((y : Int) * 2 ^ s) = (Y : Int) := by
    rw [cast_shl, Mul64.wrapN _ HYs.out, hY]
  have E2 : IntKind.u64.wrap ((hi : Int) * 2 ^ s) = ((hi * 2 ^ s : Nat) : Int) := by
    rw [cast_shl, Mul64.wrapN _ hhi]
  have E3 : IntKind.u64.wrap ((lo : Int) * 2 ^ s) = (T : Int) := by
    rw [cast_shl, Mul64.wrapM, hT]
  have E4 : (lo : Int) / 2 ^ (64 - s) = ((lo / 2 ^ (64 - s) : Nat) : Int) := cast_shr _ _
  have E5 : bits BinOp.or IntKind.u64 ((hi * 2 ^ s : Nat) : Int) ((lo / 2 ^ (64 - s) : Nat) : Int) = (U : Int) := by
    rw [u64_or_nat _ _ hhi hlos, w1, hU]
  have hT2 : T < 18446744073709551616 := by rw [hT]; exact Nat.mod_lt _ (by omega)
  have hU2 : U < Y := by rw [hU, hY]; exact w2
  have hY2 : Y < 18446744073709551616 := by rw [hY]; exact HYs.out
  have hY3 : 9223372036854775808 ≤ Y := by rw [hY]; exact HYt.out
  have HW : Hid (U * 18446744073709551616 + T = (hi * 18446744073709551616 + lo) * 2 ^ s ∧ Y = y * 2 ^ s) := by rw [hU, hT]; exact ⟨w3, hY⟩
  rw [E1, E2, E3, E4, E5, Mul64.maskN Y hY2, Mul64.maskN T hT2, Mul64.divN, Mul64.divN]
  clear w1 w2 w3 hhi hlos E1 E2 E3 E4 E5 hU hT hY
  obtain ⟨y1, hy1⟩ : ∃ y1, y1 = Y / 4294967296 := ⟨_, rfl⟩
  obtain ⟨y0, hy0⟩ : ∃ y0, y0 = Y % 4294967296 := ⟨_, rfl⟩
  obtain ⟨u1, hu1⟩ : ∃ u1, u1 = T / 4294967296 := ⟨_, rfl⟩
  obtain ⟨u0, hu0⟩ : ∃ u0, u0 = T % 4294967296 := ⟨_, rfl⟩
  rw [← hy1, ← hy0, ← hu1, ← hu0]
  have HYY : Hid (Y = y1 * 4294967296 + y0) := by rw [hy1, hy0]; exact (Dv.halves Y).symm
  have HTT : Hid (T = u1 * 4294967296 + u0) := by rw [hu1, hu0]; exact (Dv.halves T).symm
  have b1 : (2147483648 : Int) ≤ (y1 : Int) := by omega
  have b2 : (y1 : Int) < 4294967296 := by omega
  have b3 : (y0 : Int) < 4294967296 := by omega
  have b4 : (u1 : Int) < 4294967296 := by omega
  have b5 : (u0 : Int) < 4294967296 := by omega
  have hY4 : (Y : Int) < 18446744073709551616 := by omega
  have hT4 : (T : Int) < 18446744073709551616 := by omega
  have hU4 : (U : Int) < (Y : Int) := by omega
  clear hy1 hy0 hu1 hu0 hY2 hY3 hT2
  have hy1z : ((y1 : Int) == 0) = false := by simp; omega
  obtain ⟨Q1, hQ1⟩ : ∃ Q, Q = U / y1 := ⟨_, rfl⟩
  have hQb1 : (Q1 : Int) ≤ 4294967297 := by have := Dv.est_le (q := Q1) HYY.out hU2 (by omega) (by omega) (by rw [hQ1]; exact Nat.le_refl _); omega
  have EQ1 : IntKind.u64.wrap ((U : Int) / (y1 : Int)) = (Q1 : Int) := by
    rw [← Int.natCast_ediv, ← hQ1, Mul64.wrapN _ (by omega)]
  have HE1 : Hid (Dv.Est U u1 Y y1 y0 Q1 (U % y1)) := by rw [hQ1]; exact Dv.est0 HYY.out (by omega) (by omega)
  obtain ⟨r1, hr1⟩ : ∃ r, r = U % y1 := ⟨_, rfl⟩
  rw [← hr1] at HE1
  have hrb1 : (r1 : Int) < 4294967296 := by have : U % y1 < y1 := Nat.mod_lt _ (by omega); omega
  have hsp1 := HE1.out.split
  have ER1 : IntKind.u64.wrap ((U : Int) - IntKind.u64.wrap ((Q1 : Int) * (y1 : Int))) = (r1 : Int) := by
    rw [Mul64.mulN, Mul64.wrapN (Q1 * y1) (by omega), show (U : Int) - ((Q1 * y1 : Nat) : Int) = (r1 : Int) by omega, Mul64.wrapN _ (by omega)]
  clear hQ1 hr1 hsp1
  go_upto_block 0 with fail
  clear EQ1 ER1
  go_cut [15, 16] (fun s15 _ wx => s15 = .int .u64 (((U * 4294967296 + u1) / Y : Nat) : Int) ∧ w = wx)
  case first =>
    go_wp2_with fail
    go_loop [15, 16] (fun a c => ∃ q r : Nat, a = .int .u64 q ∧ c = .int .u64 r ∧ (q : Int) ≤ 4294967297 ∧ (r : Int) < 4294967296 ∧ Hid (Dv.Est U u1 Y y1 y0 q r)) (fun a _ => (intOf a).toNat)
    case atStart => exact ⟨Q1, r1, rfl, rfl, hQb1, hrb1, HE1.out⟩
    case round =>
      obtain ⟨q, r, rfl, rfl, hq, hr, HE⟩ := hrel
      obtain ⟨Z, hZ⟩ : ∃ Z, Z = q * y0 := ⟨_, rfl⟩
      have hZb : (Z : Int) ≤ 18446744073709551615 := by
        have h1 : q * y0 ≤ 4294967297 * 4294967295 := Nat.mul_le_mul (by omega) (by omega)
        omega
      have EZ : IntKind.u64.wrap ((q : Int) * (y0 : Int)) = (Z : Int) := by rw [Mul64.mulN, ← hZ, Mul64.wrapN _ (by omega)]
      have HZ := Lib.hid hZ
      clear hZ
      by_cases hc : 4294967296 ≤ q ∨ 4294967296 * r + u1 < Z
      · obtain ⟨hq0, he⟩ := Dv.est_next HE.out HYY.out hU2 (by omega) (by rw [← HZ.out]; exact hc)
        have HEN := Lib.hid he
        clear he
        have hq2 : ((q : Int) - 1) = ((q - 1 : Nat) : Int) := by omega
        have HQ2 := Lib.hid hq2
        clear hq2
        by_cases hc1 : (4294967296 : Int) ≤ (q : Int)
        · by_cases hc3 : (4294967296 : Int) ≤ (r : Int) + (y1 : Int)
          · have HQ : Hid (q - 1 = (U * 4294967296 + u1) / Y) := Dv.est_brk HEN.out HYY.out (by omega) (by omega) (by omega)
            clear hc
            go_wp2_with fail
            go_meet
            case rel => exact ⟨by rw [HQ2.out, HQ.out], rfl⟩
          · clear hc
            go_wp2_with fail
            go_round
            case rel => exact ⟨q - 1, r + y1, by rw [HQ2.out], by go_num, by omega, by omega, HEN.out⟩
            case measure => simp [intOf]; omega
        · have hc2 : 4294967296 * (r : Int) + (u1 : Int) < (Z : Int) := by omega
          by_cases hc3 : (4294967296 : Int) ≤ (r : Int) + (y1 : Int)
          · have HQ : Hid (q - 1 = (U * 4294967296 + u1) / Y) := Dv.est_brk HEN.out HYY.out (by omega) (by omega) (by omega)
            clear hc
            go_wp2_with fail
            go_meet
            case rel => exact ⟨by rw [HQ2.out, HQ.out], rfl⟩
          · clear hc
            go_wp2_with fail
            go_round
            case rel => exact ⟨q - 1, r + y1, by rw [HQ2.out], by go_num, by omega, by omega, HEN.out⟩
            case measure => simp [intOf]; omega
      · have hq1 : ¬ (4294967296 : Int) ≤ (q : Int) := by omega
        have hz1 : ¬ 4294967296 * (r : Int) + (u1 : Int) < (Z : Int) := by omega
        have HQ : Hid (q = (U * 4294967296 + u1) / Y) := Dv.est_q HE.out HYY.out (by rw [← HZ.out]; omega)
        clear hc
        go_wp2_with fail
        go_meet
        case rel => exact ⟨by rw [HQ.out], rfl⟩
  case rest =>
    obtain ⟨rfl, rfl⟩ := hcut
    obtain ⟨D1, hD1⟩ : ∃ D1, D1 = (U * 4294967296 + u1) / Y := ⟨_, rfl⟩
    obtain ⟨V, hV⟩ : ∃ V, V = (U * 4294967296 + u1) % Y := ⟨_, rfl⟩
    rw [← hD1]
    have hV2 : V < Y := by rw [hV]; exact Nat.mod_lt _ (by omega)
    have hD2 : (D1 : Int) < 4294967296 := by have : D1 < 4294967296 := (by rw [hD1]; exact Nat.div_lt_of_lt_mul (by omega)); omega
    have hDV : D1 * Y + V = U * 4294967296 + u1 := by rw [hD1, hV, Nat.mul_comm]; exact Nat.div_add_mod _ _
    have EV : IntKind.u64.wrap (IntKind.u64.wrap (IntKind.u64.wrap ((U : Int) * 4294967296) + (u1 : Int)) - IntKind.u64.wrap ((D1 : Int) * (Y : Int))) = (V : Int) := Dv2.un hDV (by omega)
    have HD1 := Lib.hid hD1; have HV := Lib.hid hV
    clear hDV hD1 hV
    obtain ⟨Q0, hQ0⟩ : ∃ Q, Q = V / y1 := ⟨_, rfl⟩
    have hQb0 : (Q0 : Int) ≤ 4294967297 := by have := Dv.est_le (q := Q0) HYY.out hV2 (by omega) (by omega) (by rw [hQ0]; exact Nat.le_refl _); omega
    have EQ0 : IntKind.u64.wrap ((V : Int) / (y1 : Int)) = (Q0 : Int) := by
      rw [← Int.natCast_ediv, ← hQ0, Mul64.wrapN _ (by omega)]
    have HE0 : Hid (Dv.Est V u0 Y y1 y0 Q0 (V % y1)) := by rw [hQ0]; exact Dv.est0 HYY.out (by omega) (by omega)
    obtain ⟨r0, hr0⟩ : ∃ r, r = V % y1 := ⟨_, rfl⟩
    rw [← hr0] at HE0
    have hrb0 : (r0 : Int) < 4294967296 := by have : V % y1 < y1 := Nat.mod_lt _ (by omega); omega
    have hsp0 := HE0.out.split
    have ER0 : IntKind.u64.wrap ((V : Int) - IntKind.u64.wrap ((Q0 : Int) * (y1 : Int))) = (r0 : Int) := by
      rw [Mul64.mulN, Mul64.wrapN (Q0 * y1) (by omega), show (V : Int) - ((Q0 * y1 : Nat) : Int) = (r0 : Int) by omega, Mul64.wrapN _ (by omega)]
    clear hQ0 hr0 hsp0
    go_upto_block 2 with fail
    clear EQ0 ER0
    go_cut [18, 16] (fun s15 _ wx => s15 = .int .u64 (((V * 4294967296 + u0) / Y : Nat) : Int) ∧ w = wx)
    case first =>
      go_wp2_with fail
      go_loop [18, 16] (fun a c => ∃ q r : Nat, a = .int .u64 q ∧ c = .int .u64 r ∧ (q : Int) ≤ 4294967297 ∧ (r : Int) < 4294967296 ∧ Hid (Dv.Est V u0 Y y1 y0 q r)) (fun a _ => (intOf a).toNat)
      case atStart => exact ⟨Q0, r0, rfl, rfl, hQb0, hrb0, HE0.out⟩
      case round =>
        obtain ⟨q, r, rfl, rfl, hq, hr, HE⟩ := hrel
        obtain ⟨Z, hZ⟩ : ∃ Z, Z = q * y0 := ⟨_, rfl⟩
        have hZb : (Z : Int) ≤ 18446744073709551615 := by
          have h1 : q * y0 ≤ 4294967297 * 4294967295 := Nat.mul_le_mul (by omega) (by omega)
          omega
        have EZ : IntKind.u64.wrap ((q : Int) * (y0 : Int)) = (Z : Int) := by rw [Mul64.mulN, ← hZ, Mul64.wrapN _ (by omega)]
        have HZ := Lib.hid hZ
        clear hZ
        by_cases hc : 4294967296 ≤ q ∨ 4294967296 * r + u0 < Z
        · obtain ⟨hq0, he⟩ := Dv.est_next HE.out HYY.out hV2 (by omega) (by rw [← HZ.out]; exact hc)
          have HEN := Lib.hid he
          clear he
          have hq2 : ((q : Int) - 1) = ((q - 1 : Nat) : Int) := by omega
          have HQ2 := Lib.hid hq2
          clear hq2
          by_cases hc1 : (4294967296 : Int) ≤ (q : Int)
          · by_cases hc3 : (4294967296 : Int) ≤ (r : Int) + (y1 : Int)
            · have HQ : Hid (q - 1 = (V * 4294967296 + u0) / Y) := Dv.est_brk HEN.out HYY.out (by omega) (by omega) (by omega)
              clear hc
              go_wp2_with fail
              go_meet
              case rel => exact ⟨by rw [HQ2.out, HQ.out], rfl⟩
            · clear hc
              go_wp2_with fail
              go_round
              case rel => exact ⟨q - 1, r + y1, by rw [HQ2.out], by go_num, by omega, by omega, HEN.out⟩
              case measure => simp [intOf]; omega
          · have hc2 : 4294967296 * (r : Int) + (u0 : Int) < (Z : Int) := by omega
            by_cases hc3 : (4294967296 : Int) ≤ (r : Int) + (y1 : Int)
            · have HQ : Hid (q - 1 = (V * 4294967296 + u0) / Y) := Dv.est_brk HEN.out HYY.out (by omega) (by omega) (by omega)
              clear hc
              go_wp2_with fail
              go_meet
              case rel => exact ⟨by rw [HQ2.out, HQ.out], rfl⟩
            · clear hc
              go_wp2_with fail
              go_round
              case rel => exact ⟨q - 1, r + y1, by rw [HQ2.out], by go_num, by omega, by omega, HEN.out⟩
              case measure => simp [intOf]; omega
        · have hq1 : ¬ (4294967296 : Int) ≤ (q : Int) := by omega
          have hz1 : ¬ 4294967296 * (r : Int) + (u0 : Int) < (Z : Int) := by omega
          have HQ : Hid (q = (V * 4294967296 + u0) / Y) := Dv.est_q HE.out HYY.out (by rw [← HZ.out]; omega)
          clear hc
          go_wp2_with fail
          go_meet
          case rel => exact ⟨by rw [HQ.out], rfl⟩
    case rest =>
      obtain ⟨rfl, rfl⟩ := hcut
      obtain ⟨D0, hD0⟩ : ∃ D0, D0 = (V * 4294967296 + u0) / Y := ⟨_, rfl⟩
      obtain ⟨X, hX⟩ : ∃ X, X = (V * 4294967296 + u0) % Y := ⟨_, rfl⟩
      rw [← hD0]
      have hX2 : X < Y := by rw [hX]; exact Nat.mod_lt _ (by omega)
      have hD02 : (D0 : Int) < 4294967296 := by have : D0 < 4294967296 := (by rw [hD0]; exact Nat.div_lt_of_lt_mul (by omega)); omega
      have hDX : D0 * Y + X = V * 4294967296 + u0 := by rw [hD0, hX, Nat.mul_comm]; exact Nat.div_add_mod _ _
      have EX : IntKind.u64.wrap (IntKind.u64.wrap (IntKind.u64.wrap ((V : Int) * 4294967296) + (u0 : Int)) - IntKind.u64.wrap ((D0 : Int) * (Y : Int))) = (X : Int) := Dv2.un hDX (by omega)
      have HF : Hid (D1 * 4294967296 + D0 = (hi * 18446744073709551616 + lo) / y ∧ X / 2 ^ s = (hi * 18446744073709551616 + lo) % y) := by
        obtain ⟨e1, e2⟩ := HW.out
        have e3 : (U * 4294967296 + u1) * 4294967296 + u0 = (hi * 18446744073709551616 + lo) * 2 ^ s := by rw [← e1, HTT.out]; clear e1 e2; omega
        obtain ⟨f1, f2⟩ := Dv.two (a := U * 4294967296 + u1) (u0 := u0) (y := Y) (by omega)
        rw [e3, e2] at f1 f2
        obtain ⟨g1, g2⟩ := Dv.shift (N := hi * 18446744073709551616 + lo) (y := y) (s := s)
        rw [g1] at f1
        rw [HD1.out, hD0, hX, HV.out, e2]
        refine ⟨f1.symm, ?_⟩
        rw [← f2, g2]
      clear hDX hD0 hX
      go_wp2_with fail
      go_ret2
      refine ⟨?_, rfl⟩
      have e1 : ((D1 : Int) * 4294967296 + (D0 : Int)) = (((hi * 18446744073709551616 + lo) / y : Nat) : Int) := by rw [← HF.out.1]; omega
      have e2 : ((X / 2 ^ s : Nat) : Int) = (((hi * 18446744073709551616 + lo) % y : Nat) : Int) := by rw [HF.out.2]
      rw [← e1, ← e2]
      rfl
end Go.Proofs.Ytdpnpjficcciiaa
