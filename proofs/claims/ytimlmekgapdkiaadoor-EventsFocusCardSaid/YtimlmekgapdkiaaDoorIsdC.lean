/- numbers: two sorted parts become one, in place: a case -/
import Derived.Test.YtimlmekgapdkiaaDoorIsc
namespace Go.Proofs.YtimlmekgapdkiaaDoor
set_option linter.unusedVariables false
set_option linter.unusedSimpArgs false
open Go.RowKit Go.Cas
set_option maxRecDepth 100000 in
set_option maxHeartbeats 16000000 in
theorem c_symC {κ : Nat → Int} {pv : Value} {B g cap n : Nat} {w0 : World} (hn : n ≤ 1000) (d : Nat) (ih : ∀ (w : World) (L : List Nat) (a m b : Nat), b - a ≤ d → a < m → m < b → b ≤ n → SOk B g cap n w0 L w → KyB κ L → Srt κ L a m → Srt κ L m b →
    Calls Tryd.prog 120 #[.slice (some ⟨g, 0, none⟩) n cap, .int .i64 a, .int .i64 m, .int .i64 b, (cmpV pv)] w (SRet B g cap n w0 (fun L' => SM κ L L' a b ∧ Srt κ L' a b))) (w : World) (L : List Nat) (a m b : Nat) (ham : a < m) (hmb : m < b) (hb : b ≤ n) (h : SOk B g cap n w0 L w) (hs : KyB κ L) (hcmp : CmpOk κ pv g w0) (hA : Srt κ L a m) (hB : Srt κ L m b) (hd : b - a ≤ d + 1) (hma : ¬ m - a = 1) (hbm : ¬ b - m = 1) :
    Calls Tryd.prog 120 #[.slice (some ⟨g, 0, none⟩) n cap, .int .i64 a, .int .i64 m, .int .i64 b, (cmpV pv)] w (SRet B g cap n w0 (fun L' => SM κ L L' a b ∧ Srt κ L' a b)) := by
  have H := Lib.hid h; have HSP := Lib.hid hs; have HCMP := Lib.hid hcmp; have HA := Lib.hid hA; have HB := Lib.hid hB
  have HLEN := Lib.hid h.len
  have hcap := h.cap_
  clear h hs hcmp hA hB
  have v1 : IntKind.i64.wrap ((m : Int) - (a : Int)) = ((m - a : Nat) : Int) := by rw [IntWalk.i64_in _ (by omega)]; omega
  have v2 : IntKind.i64.wrap ((b : Int) - (m : Int)) = ((b - m : Nat) : Int) := by rw [IntWalk.i64_in _ (by omega)]; omega
  have IH := Lib.hid ih
  clear ih
  have hma2 : ¬ ((m - a : Nat) : Int) = 1 := by omega
  have hma3 : (((m - a : Nat) : Int) == 1) = false := by simpa using hma2
  have hbm2 : ¬ ((b - m : Nat) : Int) = 1 := by omega
  have hbm3 : (((b - m : Nat) : Int) == 1) = false := by simpa using hbm2
  obtain ⟨mid, hmid⟩ : ∃ mid, mid = (a + b) / 2 := ⟨_, rfl⟩
  obtain ⟨lo, hlo⟩ : ∃ lo, lo = if mid < m then mid + m - b else a := ⟨_, rfl⟩
  obtain ⟨hi, hhi⟩ : ∃ hi, hi = if mid < m then mid else m := ⟨_, rfl⟩
  have HIN := Lib.hid (srch_in ham hmb hmid hlo hhi)
  have HSC := Lib.hid (Srch.start (key := κ) L (mid + m - 1) lo hi HIN.out.2.1)
  have HCU : Hid (∀ s, Srch κ L (mid + m - 1) lo hi s s → Cutt κ L a m b s (mid + m - s) ∧ s + (mid + m - s - m) = mid) := fun s h => h.cutt ham hmb hmid hlo hhi
  have w1 : ((a : Int) + (b : Int)) / 2 = (mid : Int) := by omega
  have hm1 : a < mid ∧ mid < b := by omega
  have w2 : IntKind.i64.wrap ((mid : Int) + (m : Int) - (b : Int)) = ((mid + m - b : Nat) : Int) ∨ ¬ mid < m := by
    by_cases h : mid < m
    · left; rw [IntWalk.i64_in _ (by omega)]; omega
    · exact .inr h
  clear hmid hma hbm
  go_enter Tryd.func120, Tryd.ntmps120
  go_upto_if 140 with fail
  clear v1 v2 hma2 hbm2
  go_cut [20, 21] (fun s r wx => s = .int .i64 lo ∧ r = .int .i64 hi ∧ wx = w)
  case first =>
    by_cases hc : mid < m
    · rw [if_pos hc] at hlo hhi
      have hc2 : (mid : Int) < (m : Int) := by omega
      rcases w2 with w2 | w2
      · subst hlo hhi
        go_wp2_with fail
        go_meet
        case rel => exact ⟨rfl, rfl, rfl⟩
      · omega
    · rw [if_neg hc] at hlo hhi
      have hc2 : ¬ (mid : Int) < (m : Int) := by omega
      subst hlo hhi
      clear w2
      go_wp2_with fail
      go_meet
      case rel => exact ⟨rfl, rfl, rfl⟩
  case rest =>
    obtain ⟨rfl, rfl, rfl⟩ := hcut
    clear w2 hlo hhi w1
    have w4 : IntKind.i64.wrap ((mid : Int) + (m : Int) - 1) = ((mid + m - 1 : Nat) : Int) := by rw [IntWalk.i64_in _ (by omega)]; omega
    have w5 : IntKind.i64.wrap ((mid : Int) + (m : Int)) = (mid : Int) + (m : Int) := IntWalk.i64_in _ (by omega)
    have hh := HIN.out
    go_wp2_with fail
    go_loopw [20, 21] (fun x y wr => ∃ (s r : Nat), x = .int .i64 s ∧ y = .int .i64 r ∧ Hid (Srch κ L (mid + m - 1) lo hi s r) ∧ Hid (SOk B g cap n w0 L wr)) (fun x y _ => (intOf y).toNat - (intOf x).toNat)
    case atStart => exact ⟨lo, hi, rfl, rfl, HSC.out, H.out⟩
    case round =>
      obtain ⟨s, r, rfl, rfl, HSR, HS⟩ := hrel
      have b1 := HSR.out.h1; have b2 := HSR.out.h2; have b3 := HSR.out.h3
      by_cases hlt : s < r
      · skip
        have hik : (s : Int) < (r : Int) := by omega
        obtain ⟨q, hq⟩ : ∃ q, q = (s + r) / 2 := ⟨_, rfl⟩
        have hqb : s ≤ q ∧ q < r := by omega
        have w1 : ((s : Int) + (r : Int)) / 2 = (q : Int) := by omega
        have hi2 := HIN.out.2.2.2.2.2 q (by omega) (by omega)
        obtain ⟨t, ht⟩ : ∃ t, t = mid + m - 1 - q := ⟨_, rfl⟩
        have w2 : IntKind.i64.wrap (((mid + m - 1 : Nat) : Int) - (q : Int)) = (t : Int) := by rw [IntWalk.i64_in _ (by omega)]; omega
        have w3 : IntKind.i64.wrap ((q : Int) + 1) = (q : Int) + 1 := IntWalk.i64_in _ (by omega)
        have hqn : (q : Int) < (n : Int) := by omega
        have htn : (t : Int) < (n : Int) := by omega
        have ht0 : (0 : Int) ≤ (t : Int) := by omega
        clear hq
        have HTE := Lib.hid ht
        obtain ⟨x1, hx1⟩ : ∃ x, L[t]? = some x := ⟨_, List.getElem?_eq_getElem (by have := HLEN.out; omega)⟩
        obtain ⟨y1, hy1⟩ : ∃ x, L[q]? = some x := ⟨_, List.getElem?_eq_getElem (by have := HLEN.out; omega)⟩
        clear ht
        have HX1 := Lib.hid hx1; have HY1 := Lib.hid hy1
        have hbx := HSP.out _ _ hx1; have hby := HSP.out _ _ hy1
        have HC : Hid (∀ W', SOk B g cap n w0 L W' → Calls Tryd.prog 76 #[.int .i64 (x1 : Int), .int .i64 (y1 : Int), pv] W' fun e w' => e = .returned (.int .i64 (κ x1 - κ y1)) ∧ Below W'.heap.size W' w') := fun W' hW => HCMP.out.at_ hW.kept hbx hby
        have FC := Lib.hid (two_cells (B := B) (g := g) (cap := cap) (n := n) (w0 := w0) hx1 hy1)
        have HK1 := Lib.hid (ky_some (key := κ) hx1); have HK2 := Lib.hid (ky_some (key := κ) hy1)
        clear hx1 hy1
        by_cases hc : κ x1 < κ y1
        · have hc2 : κ x1 - κ y1 < 0 := by omega
          have hc3 : decide (κ x1 - κ y1 < 0) = true := decide_eq_true hc2
          go_upto_region 35 with fail
          go_region_held3 (fun w' => w'.cell? ⟨g, t, none⟩ = some (.int .i64 (x1 : Int)) ∧ w'.cell? ⟨g, q, none⟩ = some (.int .i64 (y1 : Int)))
            (first | exact FC.out _ HS.out | exact FC.out _ HS.out.drew | exact FC.out _ HS5.out)
            ((go_at_call 76; refine (HC.out _ HS.out.drew).mono ?_; rintro e w5 ⟨rfl, hb5⟩; have HS5 := Lib.hid (HS.out.drew.below hb5); clear hb5))
          have HN : Hid (Srch κ L (mid + m - 1) lo hi s q) := HSR.out.down HA.out HB.out HIN.out.2.2.2.2.2 hqb (by rw [← HTE.out, HK1.out, HK2.out]; exact hc)
          clear hc3
          go_wp2_with fail
          go_roundw
          case rel => exact ⟨s, q, rfl, rfl, HN.out, HS5.out⟩
          case measure => first | (simp [intOf]; done) | (simp [intOf]; omega)
        · have hc2 : ¬ κ x1 - κ y1 < 0 := by omega
          have hc3 : decide (κ x1 - κ y1 < 0) = false := decide_eq_false hc2
          go_upto_region 35 with fail
          go_region_held3 (fun w' => w'.cell? ⟨g, t, none⟩ = some (.int .i64 (x1 : Int)) ∧ w'.cell? ⟨g, q, none⟩ = some (.int .i64 (y1 : Int)))
            (first | exact FC.out _ HS.out | exact FC.out _ HS.out.drew | exact FC.out _ HS5.out)
            ((go_at_call 76; refine (HC.out _ HS.out.drew).mono ?_; rintro e w5 ⟨rfl, hb5⟩; have HS5 := Lib.hid (HS.out.drew.below hb5); clear hb5))
          have HN : Hid (Srch κ L (mid + m - 1) lo hi (q + 1) r) := HSR.out.up HA.out HB.out HIN.out.2.2.2.2.2 hqb (by rw [← HTE.out, HK1.out, HK2.out]; omega)
          clear hc3
          go_wp2_with fail
          go_roundw
          case rel => exact ⟨q + 1, r, by rw [Int.natCast_succ], rfl, HN.out, HS5.out⟩
          case measure => first | (simp [intOf]; done) | (simp [intOf]; omega)
      · skip
        obtain rfl : s = r := by omega
        have hik : ¬ (s : Int) < (s : Int) := by omega
        obtain ⟨hcut, hsm⟩ := HCU.out s HSR.out
        have HCUT := Lib.hid hcut
        have c1 := hcut.h1; have c2 := hcut.h2; have c3 := hcut.h3; have c4 := hcut.h4
        obtain ⟨e, he⟩ : ∃ e, e = mid + m - s := ⟨_, rfl⟩
        rw [← he] at HCUT c3 c4 hsm
        have w6 : IntKind.i64.wrap ((mid : Int) + (m : Int) - (s : Int)) = (e : Int) := by rw [IntWalk.i64_in _ (by omega)]; omega
        have HRID := Lib.hid (fun h => rotL_id (L := L) (a := s) (m := m) (b := e) c2 c3 (by have := HLEN.out; omega) h)
        have hbl : b ≤ L.length := by have := HLEN.out; omega
        have HM1 := Lib.hid (HCUT.out.sm HA.out HB.out hbl)
        have hleft := HCUT.out.left HA.out HB.out hbl
        rw [hsm] at hleft
        have hap := HCUT.out.apart HA.out HB.out hbl
        rw [hsm] at hap
        have HLF := Lib.hid hleft; have HAP := Lib.hid hap
        have HRC := Lib.hid (c_rotate HS.out hn s m e)
        have HSPn := Lib.hid (HSP.out.sm HM1.out)
        clear hcut hleft hap hbl he
        obtain ⟨L1, hL1⟩ : ∃ L1, L1 = rotL L s m e := ⟨_, rfl⟩
        rw [← hL1] at HRID HM1 HLF HAP HRC HSPn
        clear hL1
        go_upto_region 39 with fail
        go_cut [185] (fun s185 wx => s185 = .bool (decide (s < m ∧ m < e)) ∧ wx = wr)
        case first =>
          by_cases h2 : s < m
          · have h2' : (s : Int) < (m : Int) := by omega
            by_cases h3 : m < e
            · have h3' : (m : Int) < (e : Int) := by omega
              have HD := Lib.hid (show decide (s < m ∧ m < e) = true by simp [h2, h3])
              go_wp2_with fail
              go_meet
              case rel => exact ⟨by rw [HD.out], rfl⟩
            · have h3' : ¬ (m : Int) < (e : Int) := by omega
              have HD := Lib.hid (show decide (s < m ∧ m < e) = false by simp [h3])
              go_wp2_with fail
              go_meet
              case rel => exact ⟨by rw [HD.out], rfl⟩
          · have h2' : ¬ (s : Int) < (m : Int) := by omega
            have HD := Lib.hid (show decide (s < m ∧ m < e) = false by simp [h2])
            go_wp2_with fail
            go_meet
            case rel => exact ⟨by rw [HD.out], rfl⟩
        case rest =>
        obtain ⟨rfl, rfl⟩ := hcut
        as_aux_lemma =>
          obtain ⟨bb, hbb⟩ : ∃ bb, bb = decide (s < m ∧ m < e) := ⟨_, rfl⟩
          have HBB := Lib.hid hbb
          rw [← hbb]
          clear hbb
          go_upto_if 185 with fail
          go_cut [24] (fun s24 wx => s24 = .int .i64 e ∧ Hid (SOk B g cap n w0 L1 wx))
          case first =>
            cases bb
            · have h1 : ¬ (s < m ∧ m < e) := of_decide_eq_false HBB.out.symm
              have HSI : Hid (SOk B g cap n w0 L1 wc) := by rw [HRID.out (by omega)]; exact HS.out
              go_wp2_with fail
              go_meet
              case rel => exact ⟨rfl, HSI.out⟩
            · obtain ⟨h2, h3⟩ : s < m ∧ m < e := of_decide_eq_true HBB.out.symm
              have HRC2 := Lib.hid (HRC.out h2 h3 (by omega) (cmpV pv))
              go_wp2_with fail
              refine HRC2.out.mono ?_
              rintro e w' ⟨⟨u, rfl⟩, L2, rfl, hs2⟩
              have HS2 := Lib.hid hs2
              clear hs2
              go_wp2_with fail
              go_meet
              case rel => exact ⟨rfl, HS2.out⟩
          case rest =>
            obtain ⟨rfl, HS1⟩ := hcut
            as_aux_lemma =>
              clear HS
              go_upto_region 41 with fail
              rename World => wk
              go_cut [199] (fun s199 wx => s199 = .bool (decide (a < s ∧ s < mid)) ∧ wx = wk)
              case first =>
                by_cases h2 : a < s
                · have h2' : (a : Int) < (s : Int) := by omega
                  by_cases h3 : s < mid
                  · have h3' : (s : Int) < (mid : Int) := by omega
                    have HD := Lib.hid (show decide (a < s ∧ s < mid) = true by simp [h2, h3])
                    go_wp2_with fail
                    go_meet
                    case rel => exact ⟨by rw [HD.out], rfl⟩
                  · have h3' : ¬ (s : Int) < (mid : Int) := by omega
                    have HD := Lib.hid (show decide (a < s ∧ s < mid) = false by simp [h3])
                    go_wp2_with fail
                    go_meet
                    case rel => exact ⟨by rw [HD.out], rfl⟩
                · have h2' : ¬ (a : Int) < (s : Int) := by omega
                  have HD := Lib.hid (show decide (a < s ∧ s < mid) = false by simp [h2])
                  go_wp2_with fail
                  go_meet
                  case rel => exact ⟨by rw [HD.out], rfl⟩
              case rest =>
              obtain ⟨rfl, rfl⟩ := hcut
              as_aux_lemma =>
                obtain ⟨bc, hbc⟩ : ∃ bc, bc = decide (a < s ∧ s < mid) := ⟨_, rfl⟩
                have HBC := Lib.hid hbc
                rw [← hbc]
                clear hbc
                go_upto_if 199 with fail
                go_cut [24] (fun s24 wx => s24 = .int .i64 e ∧ ∃ L2, Hid (SM κ L1 L2 a mid) ∧ Hid (Srt κ L2 a mid) ∧ Hid (SOk B g cap n w0 L2 wx))
                case first =>
                  cases bc
                  · have h1 : ¬ (a < s ∧ s < mid) := of_decide_eq_false HBC.out.symm
                    have HTT : Hid (Srt κ L1 a mid) := by
                      by_cases h2 : a = s
                      · have := HLF.out.2.1; rw [← h2] at this; exact this
                      · have := HLF.out.1; rw [show s = mid by omega] at this; exact this
                    have HMM := Lib.hid (SM.refl κ L1 a mid)
                    go_wp2_with fail
                    go_meet
                    case rel => exact ⟨rfl, L1, HMM.out, HTT.out, HS1.out⟩
                  · obtain ⟨h2, h3⟩ : a < s ∧ s < mid := of_decide_eq_true HBC.out.symm
                    have HR := Lib.hid (IH.out _ L1 a s mid (by omega) h2 h3 (by omega) HS1.out HSPn.out HLF.out.1 HLF.out.2.1)
                    go_wp2_with fail
                    refine HR.out.mono ?_
                    rintro e' w' ⟨⟨u, rfl⟩, L2, ⟨hm2, ht2⟩, hs2⟩
                    have HS2 := Lib.hid hs2; have HM2 := Lib.hid hm2; have HT2 := Lib.hid ht2
                    clear hs2 hm2 ht2
                    go_wp2_with fail
                    go_meet
                    case rel => exact ⟨rfl, L2, HM2.out, HT2.out, HS2.out⟩
                case rest =>
                  obtain ⟨rfl, L2, HM2, HT2, HS2⟩ := hcut
                  as_aux_lemma =>
                    have HT3 : Hid (Srt κ L2 mid e) := HLF.out.2.2.1.keep HM2.out (.inr (Nat.le_refl _))
                    have HT4 : Hid (Srt κ L2 e b) := HLF.out.2.2.2.keep HM2.out (.inr (by omega))
                    have HSP2 := Lib.hid (HSPn.out.sm HM2.out)
                    clear HS1
                    by_cases h1 : mid < e ∧ e < b
                    · obtain ⟨h2, h3⟩ := h1
                      have h2' : (mid : Int) < (e : Int) := by omega
                      have h3' : (e : Int) < (b : Int) := by omega
                      have HR := Lib.hid (IH.out _ L2 mid e b (by omega) h2 h3 hb HS2.out HSP2.out HT3.out HT4.out)
                      go_wp2_with fail
                      refine HR.out.mono ?_
                      rintro e' w' ⟨⟨u, rfl⟩, L3, ⟨hm3, ht3⟩, hs3⟩
                      have HS3 := Lib.hid hs3; have HM3 := Lib.hid hm3; have HT5 := Lib.hid ht3
                      clear hs3 hm3 ht3
                      go_wp2_with fail
                      go_end0
                      exact ⟨⟨_, rfl⟩, L3, ⟨(HM1.out.trans HM2.out (Nat.le_refl _) (by omega)).trans HM3.out (by omega) (Nat.le_refl _), halves (by omega) HAP.out HM2.out HT2.out HM3.out HT5.out⟩, HS3.out⟩
                    · have HTT : Hid (Srt κ L2 mid b) := by
                        by_cases h2 : mid = e
                        · have := HT4.out; rw [← h2] at this; exact this
                        · have := HT3.out; rw [show e = b by omega] at this; exact this
                      have HFIN : Hid (SM κ L L2 a b ∧ Srt κ L2 a b) := ⟨HM1.out.trans HM2.out (Nat.le_refl _) (by omega), halves (by omega) HAP.out HM2.out HT2.out (SM.refl κ L2 mid b) HTT.out⟩
                      by_cases h2 : mid < e
                      · have h2' : (mid : Int) < (e : Int) := by omega
                        have h3' : ¬ (e : Int) < (b : Int) := by omega
                        go_wp2_with fail
                        go_end0
                        exact ⟨⟨_, rfl⟩, L2, HFIN.out, HS2.out⟩
                      · have h2' : ¬ (mid : Int) < (e : Int) := by omega
                        go_wp2_with fail
                        go_end0
                        exact ⟨⟨_, rfl⟩, L2, HFIN.out, HS2.out⟩
end Go.Proofs.YtimlmekgapdkiaaDoor
