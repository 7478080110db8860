/- numbers: two sorted parts become one, in place: a case -/
import Derived.Test.YtimlmekgapdkiaaDoorIsc
namespace Go.Proofs.YtimlmekgapdkiaaDoor
set_option linter.unusedVariables false
set_option linter.unusedSimpArgs false
open Go.RowKit Go.Cas
set_option maxRecDepth 100000 in
set_option maxHeartbeats 16000000 in
theorem c_symA {κ : Nat → Int} {pv : Value} {B g cap n : Nat} {w0 : World} (hn : n ≤ 1000) (w : World) (L : List Nat) (a m b : Nat) (ham : a < m) (hmb : m < b) (hb : b ≤ n) (h : SOk B g cap n w0 L w) (hs : KyB κ L) (hcmp : CmpOk κ pv g w0) (hA : Srt κ L a m) (hB : Srt κ L m b) (hma : m - a = 1) :
    Calls Tryd.prog 120 #[.slice (some ⟨g, 0, none⟩) n cap, .int .i64 a, .int .i64 m, .int .i64 b, (cmpV pv)] w (SRet B g cap n w0 (fun L' => SM κ L L' a b ∧ Srt κ L' a b)) := by
  have H := Lib.hid h; have HSP := Lib.hid hs; have HCMP := Lib.hid hcmp; have HA := Lib.hid hA; have HB := Lib.hid hB
  have HLEN := Lib.hid h.len
  have hcap := h.cap_
  clear h hs hcmp hA hB
  have v1 : IntKind.i64.wrap ((m : Int) - (a : Int)) = ((m - a : Nat) : Int) := by rw [IntWalk.i64_in _ (by omega)]; omega
  have v2 : IntKind.i64.wrap ((b : Int) - (m : Int)) = ((b - m : Nat) : Int) := by rw [IntWalk.i64_in _ (by omega)]; omega
  have hma2 : ((m - a : Nat) : Int) = 1 := by omega
  have HMA : Hid (m = a + 1) := by unfold Hid; omega
  clear hma
  go_enter Tryd.func120, Tryd.ntmps120
  go_wp2_with fail
  clear v1 v2 hma2
  go_loopw [10, 11] (fun i j wr => ∃ (i' j' : Nat), i = .int .i64 i' ∧ j = .int .i64 j' ∧ m ≤ i' ∧ i' ≤ j' ∧ j' ≤ b ∧ Hid (∀ q, a < q → q < i' → ky κ L q < ky κ L a) ∧ Hid (∀ q, j' ≤ q → q < b → ky κ L a ≤ ky κ L q) ∧ Hid (SOk B g cap n w0 L wr)) (fun i j _ => (intOf j).toNat - (intOf i).toNat)
  case atStart => exact ⟨m, b, rfl, rfl, by omega, by omega, by omega, fun q h1 h2 => by have := HMA.out; omega, fun q h1 h2 => by omega, H.out⟩
  case round =>
    obtain ⟨i, j, rfl, rfl, hmi, hij, hjb, HLO, HHI, HS⟩ := hrel
    by_cases hlt : i < j
    · skip
      have hik : (i : Int) < (j : Int) := by omega
      obtain ⟨q, hq⟩ : ∃ q, q = (i + j) / 2 := ⟨_, rfl⟩
      have hqb : i ≤ q ∧ q < j := by omega
      have w1 : ((i : Int) + (j : Int)) / 2 = (q : Int) := by omega
      have w3 : IntKind.i64.wrap ((q : Int) + 1) = (q : Int) + 1 := IntWalk.i64_in _ (by omega)
      have hqn : (q : Int) < (n : Int) := by omega
      have han : (a : Int) < (n : Int) := by omega
      clear hq
      obtain ⟨x1, hx1⟩ : ∃ x, L[q]? = some x := ⟨_, List.getElem?_eq_getElem (by have := HLEN.out; omega)⟩
      obtain ⟨y1, hy1⟩ : ∃ x, L[a]? = some x := ⟨_, List.getElem?_eq_getElem (by have := HLEN.out; omega)⟩
      have HX1 := Lib.hid hx1; have HY1 := Lib.hid hy1
      have hbx := HSP.out _ _ hx1; have hby := HSP.out _ _ hy1
      have HC : Hid (∀ W', SOk B g cap n w0 L W' → Calls Tryd.prog 76 #[.int .i64 (x1 : Int), .int .i64 (y1 : Int), pv] W' fun e w' => e = .returned (.int .i64 (κ x1 - κ y1)) ∧ Below W'.heap.size W' w') := fun W' hW => HCMP.out.at_ hW.kept hbx hby
      have FC := Lib.hid (two_cells (B := B) (g := g) (cap := cap) (n := n) (w0 := w0) hx1 hy1)
      have HK1 := Lib.hid (ky_some (key := κ) hx1); have HK2 := Lib.hid (ky_some (key := κ) hy1)
      clear hx1 hy1
      go_upto_region 5 with fail
      go_region_held3 (fun w' => w'.cell? ⟨g, q, none⟩ = some (.int .i64 (x1 : Int)) ∧ w'.cell? ⟨g, a, none⟩ = some (.int .i64 (y1 : Int)))
        (first | exact FC.out _ HS.out | exact FC.out _ HS.out.drew | exact FC.out _ HS5.out)
        ((go_at_call 76; refine (HC.out _ HS.out.drew).mono ?_; rintro e w5 ⟨rfl, hb5⟩; have HS5 := Lib.hid (HS.out.drew.below hb5); clear hb5))
      by_cases hc : κ x1 < κ y1
      · have hc2 : κ x1 - κ y1 < 0 := by omega
        have HN : Hid (∀ p, a < p → p < q + 1 → ky κ L p < ky κ L a) := fun p p1 p2 => by
          rw [HK2.out]
          exact ky_mono HB.out (show q < b by omega) (by rw [HK1.out]; exact hc) p (by have := HMA.out; omega) (by omega)
        go_wp2_with fail
        go_roundw
        case rel => exact ⟨q + 1, j, by rw [Int.natCast_succ], rfl, by omega, by omega, hjb, HN.out, HHI.out, HS5.out⟩
        case measure => first | (simp [intOf]; done) | (simp [intOf]; omega)
      · have hc2 : ¬ κ x1 - κ y1 < 0 := by omega
        have HN : Hid (∀ p, q ≤ p → p < b → ky κ L a ≤ ky κ L p) := fun p p1 p2 => by
          have := HB.out q p (by omega) p1 p2
          rw [HK1.out] at this
          rw [HK2.out]; omega
        go_wp2_with fail
        go_roundw
        case rel => exact ⟨i, q, rfl, rfl, hmi, by omega, by omega, HLO.out, HN.out, HS5.out⟩
        case measure => first | (simp [intOf]; done) | (simp [intOf]; omega)
    · skip
      have hik : ¬ (i : Int) < (j : Int) := by omega
      have hii : i = j := by omega
      have HHI2 : Hid (∀ q, i ≤ q → q < b → ky κ L a ≤ ky κ L q) := by rw [hii]; exact HHI.out
      have HF := Lib.hid (Fst.start (key := κ) L a b)
      have w2 : IntKind.i64.wrap ((i : Int) - 1) = (i : Int) - 1 := IntWalk.i64_in _ (by omega)
      clear hii HHI
      go_wp2_with fail
      go_loopw [13] (fun x wr => ∃ (k : Nat) (L2 : List Nat), x = .int .i64 k ∧ a ≤ k ∧ k + 1 ≤ i ∧ Hid (Fst κ L L2 a b k) ∧ Hid (SOk B g cap n w0 L2 wr)) (fun x _ => i - (intOf x).toNat)
      case atStart => exact ⟨a, L, rfl, by omega, by omega, HF.out, HS.out⟩
      case round =>
        obtain ⟨k, L2, rfl, hak, hki, HF2, HS2⟩ := hrel
        by_cases hk : k + 1 < i
        · have hk2 : (k : Int) < (i : Int) - 1 := by omega
          have hl := HS2.out.len
          obtain ⟨x1, hx1⟩ : ∃ x, L2[k]? = some x := ⟨_, List.getElem?_eq_getElem (by omega)⟩
          obtain ⟨y1, hy1⟩ : ∃ x, L2[k + 1]? = some x := ⟨_, List.getElem?_eq_getElem (by omega)⟩
          have d0 := HS2.out.cells hx1
          have e0 := HS2.out.cells hy1
          have f := HS2.out.free; have lt := HS2.out.lt
          have hkk : κ y1 < κ x1 := by
            rw [← ky_some (key := κ) hx1, ← ky_some (key := κ) hy1, ky_congr HF2.out.at_, ky_congr (HF2.out.high (k + 1) (by omega))]
            exact HLO.out (k + 1) (by omega) hk
          have HF3 := Lib.hid (HF2.out.step hak (by omega) hx1 hy1 hkk)
          have HW := Lib.hid (HS2.out.swap1 (i := k) (j := k + 1) x1 y1).drew
          have w3 : IntKind.i64.wrap ((k : Int) + 1) = (k : Int) + 1 := IntWalk.i64_in _ (by omega)
          have hkn : (k : Int) < (n : Int) := by omega
          have hkn1 : (k : Int) + 1 < (n : Int) := by omega
          have hk0 : (0 : Int) ≤ (k : Int) + 1 := by omega
          clear hx1 hy1 hl hkk
          go_wp2_with fail
          go_region
          all_goals
            go_wp2_with fail
            go_roundw
            case rel => exact ⟨k + 1, _, by rw [Int.natCast_succ], by omega, by omega, HF3.out, HW.out⟩
            case measure => first | (simp [intOf]; done) | (simp [intOf]; omega)
        · have hk2 : ¬ (k : Int) < (i : Int) - 1 := by omega
          have HD : Hid (Srt κ L2 a b) := HF2.out.done (i := i) (by omega) (by omega) (by have := HB.out; rw [HMA.out] at this; exact this) HLO.out HHI2.out
          go_wp2_with fail
          (try simp only [Exit.inBlock, Exit.then])
          refine bodyPost_ret (results_none rfl _ _ _) rfl ?_
          exact ⟨⟨_, rfl⟩, L2, ⟨HF2.out.sm, HD.out⟩, HS2.out⟩
end Go.Proofs.YtimlmekgapdkiaaDoor
