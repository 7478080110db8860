/- numbers: ranges change places; a rotation; numbers: insertion; numbers: two sorted parts become one, in place -/
import Derived.Test.YtimlmekgapdkiaaDoorIsa
import Derived.BigRegion
namespace Go.Proofs.YtimlmekgapdkiaaDoor
set_option linter.unusedVariables false
set_option linter.unusedSimpArgs false
open Go.RowKit Go.Cas

set_option maxRecDepth 100000 in
set_option maxHeartbeats 8000000 in
theorem c_swapR {B g cap n : Nat} {w0 w : World} {L : List Nat} (h : SOk B g cap n w0 L w) (hn : n ≤ 1000) (a b m : Nat) (hab : a + m ≤ b) (hb : b + m ≤ n) (fv : Value) :
    Calls Tryd.prog 125 #[.slice (some ⟨g, 0, none⟩) n cap, .int .i64 a, .int .i64 b, .int .i64 m, fv] w (SRet B g cap n w0 (fun L' => ∀ q, L'[q]? = L[six a b m q]?)) := by
  have H := Lib.hid h
  clear h
  go_enter Tryd.func125, Tryd.ntmps125
  go_wp2_with fail
  go_loopw [10] (fun i wr => ∃ (k : Nat) (L' : List Nat), k ≤ m ∧ i = .int .i64 k ∧ Hid (∀ q, L'[q]? = L[six a b k q]?) ∧ Hid (SOk B g cap n w0 L' wr)) (fun i _ => m - (intOf i).toNat)
  case atStart => exact ⟨0, L, by omega, rfl, fun q => by rw [six_zero], H.out⟩
  case round =>
    obtain ⟨k, L', hk, rfl, HX, HS⟩ := hrel
    by_cases hlt : k < m
    · have hik : (k : Int) < (m : Int) := by omega
      obtain ⟨pa, hpa⟩ : ∃ pa, pa = a + k := ⟨_, rfl⟩
      obtain ⟨pb, hpb⟩ : ∃ pb, pb = b + k := ⟨_, rfl⟩
      have hl := HS.out.len
      obtain ⟨x, hx⟩ : ∃ x, L'[pa]? = some x := ⟨_, List.getElem?_eq_getElem (by omega)⟩
      obtain ⟨y, hy⟩ : ∃ y, L'[pb]? = some y := ⟨_, List.getElem?_eq_getElem (by omega)⟩
      have d0 := HS.out.cells hx
      have e0 := HS.out.cells hy
      have f := HS.out.free; have lt := HS.out.lt; have cp := HS.out.cap_
      have v1 : IntKind.i64.wrap ((a : Int) + (k : Int)) = (pa : Int) := by rw [IntWalk.i64_in _ (by omega), hpa, Int.natCast_add]
      have v2 : IntKind.i64.wrap ((b : Int) + (k : Int)) = (pb : Int) := by rw [IntWalk.i64_in _ (by omega), hpb, Int.natCast_add]
      have HNX : Hid (∀ q, (swp L' pa pb x y)[q]? = L[six a b (k + 1) q]?) := fun q => by
        rw [swp_get hx hy, six_succ (by omega), ← hpa, ← hpb]
        obtain ⟨s1, s2⟩ := six_at (a := a) (b := b) (n := k) (by omega)
        split
        · rw [HX.out pa, hpa, s1]
        · split
          · rw [HX.out pb, hpb, s2]
          · exact HX.out q
      have HW1 := Lib.hid (HS.out.swap1 (i := pa) (j := pb) x y).drew
      have hpn : (pa : Int) < (n : Int) := by omega
      have hpm : (pb : Int) < (n : Int) := by omega
      have hp0 : (0 : Int) ≤ (pa : Int) := by omega
      have hp1 : (0 : Int) ≤ (pb : Int) := by omega
      have hpd : pa ≠ pb := by omega
      clear hx hy hpa hpb hl
      go_wp2_with fail
      go_region
      all_goals
        go_wp2_with fail
        go_roundw
        case rel => exact ⟨k + 1, _, by omega, by go_num, HNX.out, HW1.out⟩
        case measure => simp [intOf]; omega
    · obtain rfl : k = m := by omega
      have hik : ¬ (k : Int) < (k : Int) := by omega
      go_wp2_with fail
      go_end0
      exact ⟨⟨_, rfl⟩, L', HX.out, HS.out⟩
set_option maxRecDepth 100000 in
set_option maxHeartbeats 8000000 in
theorem c_rotate {B g cap n : Nat} {w0 w : World} {L : List Nat} (h : SOk B g cap n w0 L w) (hn : n ≤ 1000) (a m b : Nat) (ham : a < m) (hmb : m < b) (hb : b ≤ n) (fv : Value) :
    Calls Tryd.prog 124 #[.slice (some ⟨g, 0, none⟩) n cap, .int .i64 a, .int .i64 m, .int .i64 b, fv] w (SRet B g cap n w0 (fun L' => L' = rotL L a m b)) := by
  have H := Lib.hid h
  have HL := Lib.hid h.len
  clear h
  have v1 : IntKind.i64.wrap ((m : Int) - (a : Int)) = ((m - a : Nat) : Int) := by rw [IntWalk.i64_in _ (by omega)]; omega
  have v2 : IntKind.i64.wrap ((b : Int) - (m : Int)) = ((b - m : Nat) : Int) := by rw [IntWalk.i64_in _ (by omega)]; omega
  have HF : Hid (∀ q, (rotL L a m b)[q]? = L[rix a m b q]?) := fun q => rot_get (by omega) (by omega) (by rw [HL.out]; exact hb) q
  have HLN : Hid ((rotL L a m b).length = n) := by unfold Hid; rw [rotL_len (by omega) (by omega) (by rw [HL.out]; exact hb)]; exact HL.out
  obtain ⟨Lf, hLf⟩ : ∃ Lf, Lf = rotL L a m b := ⟨_, rfl⟩
  rw [← hLf] at HF HLN ⊢
  clear hLf
  go_enter Tryd.func124, Tryd.ntmps124
  go_wp2_with fail
  clear v1 v2
  go_loopw [10, 11] (fun x y wr => ∃ (i j : Nat) (L' : List Nat), x = .int .i64 i ∧ y = .int .i64 j ∧ 0 < i ∧ 0 < j ∧ i ≤ m ∧ m + j ≤ n ∧ Hid (∀ q, Lf[q]? = L'[rix (m - i) m (m + j) q]?) ∧ Hid (SOk B g cap n w0 L' wr)) (fun x y _ => (intOf x).toNat + (intOf y).toNat)
  case atStart => exact ⟨m - a, b - m, L, rfl, rfl, by omega, by omega, by omega, by omega, (by intro q; rw [HF.out q, show m - (m - a) = a by omega, show m + (b - m) = b by omega]), H.out⟩
  case round =>
    obtain ⟨i, j, L', rfl, rfl, hi, hj, him, hjn, HX, HS⟩ := hrel
    have v1 : IntKind.i64.wrap ((m : Int) - (i : Int)) = ((m - i : Nat) : Int) := by rw [IntWalk.i64_in _ (by omega)]; omega
    by_cases hij : i = j
    · subst hij
      have HC := Lib.hid (c_swapR HS.out hn (m - i) m i (by omega) (by omega) fv)
      go_wp2_with fail
      refine HC.out.mono ?_
      rintro e w' ⟨⟨u, rfl⟩, L2, h2, hs2⟩
      have HS2 := Lib.hid hs2
      have HE : Hid (L2 = Lf) := by
        apply List.ext_getElem?
        intro q
        rw [h2, HX.out q, rix_swap3 him]
      clear h2 hs2
      go_wp2_with fail
      go_end0
      exact ⟨⟨_, rfl⟩, L2, HE.out, HS2.out⟩
    · have hne : ¬ (i : Int) = (j : Int) := by omega
      by_cases hgt : j < i
      · have hgti : (j : Int) < (i : Int) := by omega
        have HC := Lib.hid (c_swapR HS.out hn (m - i) m j (by omega) (by omega) fv)
        have v2 : IntKind.i64.wrap ((i : Int) - (j : Int)) = ((i - j : Nat) : Int) := by rw [IntWalk.i64_in _ (by omega)]; omega
        go_wp2_with fail
        refine HC.out.mono ?_
        rintro e w' ⟨⟨u, rfl⟩, L2, h2, hs2⟩
        have HS2 := Lib.hid hs2
        have HE : Hid (∀ q, Lf[q]? = L2[rix (m - (i - j)) m (m + j) q]?) := fun q => by
          rw [h2, (rix_swap1 hgt him).1]; exact HX.out q
        clear h2 hs2
        go_wp2_with fail
        go_roundw
        case rel => exact ⟨i - j, j, L2, rfl, rfl, by omega, hj, by omega, hjn, HE.out, HS2.out⟩
        case measure => simp [intOf]; omega
      · have hgti : ¬ (j : Int) < (i : Int) := by omega
        have HC := Lib.hid (c_swapR HS.out hn (m - i) (m + j - i) i (by omega) (by omega) fv)
        have v2 : IntKind.i64.wrap ((j : Int) - (i : Int)) = ((j - i : Nat) : Int) := by rw [IntWalk.i64_in _ (by omega)]; omega
        have v3 : IntKind.i64.wrap ((m : Int) + (j : Int)) = (m : Int) + (j : Int) := IntWalk.i64_in _ (by omega)
        have v4 : IntKind.i64.wrap ((m : Int) + (j : Int) - (i : Int)) = ((m + j - i : Nat) : Int) := by rw [IntWalk.i64_in _ (by omega)]; omega
        go_wp2_with fail
        refine HC.out.mono ?_
        rintro e w' ⟨⟨u, rfl⟩, L2, h2, hs2⟩
        have HS2 := Lib.hid hs2
        have HE : Hid (∀ q, Lf[q]? = L2[rix (m - i) m (m + (j - i)) q]?) := fun q => by
          rw [h2, rix_swap2 (by omega) him]; exact HX.out q
        clear h2 hs2
        go_wp2_with fail
        go_roundw
        case rel => exact ⟨i, j - i, L2, rfl, rfl, hi, by omega, him, by omega, HE.out, HS2.out⟩
        case measure => simp [intOf]; omega
end Go.Proofs.YtimlmekgapdkiaaDoor
namespace Go.Proofs.YtimlmekgapdkiaaDoor
set_option linter.unusedVariables false
set_option linter.unusedSimpArgs false
open Go.RowKit Go.Cas

set_option maxHeartbeats 4000000 in
theorem c_insert0 (pv : Value) (v : Value) (w : World) (a b : Nat) (hb : b ≤ a + 1) (ha : a ≤ 1000) :
    Calls Tryd.prog 119 #[v, .int .i64 a, .int .i64 b, (cmpV pv)] w (fun e w' => (∃ u, e = .returned u) ∧ w = w') := by
  have v1 : IntKind.i64.wrap ((a : Int) + 1) = (a : Int) + 1 := IntWalk.i64_in _ (by omega)
  have h1 : ¬ (a : Int) + 1 < (b : Int) := by omega
  go_enter Tryd.func119, Tryd.ntmps119
  go_wp2_with fail
  refine wp_loop_rounds 1 ?_
  rw [rounds_succ]
  go_wp2_with fail
  go_end0
  exact ⟨⟨_, rfl⟩, rfl⟩
set_option maxRecDepth 100000 in
set_option maxHeartbeats 16000000 in
theorem c_insert {κ : Nat → Int} {pv : Value} {B g cap n : Nat} {w0 w : World} {L : List Nat} (h : SOk B g cap n w0 L w) (hn : n ≤ 1000) (hs : KyB κ L) (hcmp : CmpOk κ pv g w0) (a b : Nat) (hab : a < b) (hb : b ≤ n) :
    Calls Tryd.prog 119 #[.slice (some ⟨g, 0, none⟩) n cap, .int .i64 a, .int .i64 b, (cmpV pv)] w (SRet B g cap n w0 (fun L' => SM κ L L' a b ∧ Srt κ L' a b)) := by
  have H := Lib.hid h
  have HSP := Lib.hid hs
  have HCMP := Lib.hid hcmp
  have H1 := Lib.hid (Srt.one (key := κ) L a (a + 1) (Nat.le_refl _))
  have H0 := Lib.hid (SM.refl κ L a b)
  clear h hs hcmp
  have v1 : IntKind.i64.wrap ((a : Int) + 1) = ((a + 1 : Nat) : Int) := by rw [IntWalk.i64_in _ (by omega), Int.natCast_succ]
  go_enter Tryd.func119, Tryd.ntmps119
  go_wp2_with fail
  clear v1
  go_loopw [8] (fun x wr => ∃ (i : Nat) (L' : List Nat), x = .int .i64 i ∧ a + 1 ≤ i ∧ i ≤ b ∧ Hid (SM κ L L' a b) ∧ Hid (Srt κ L' a i) ∧ Hid (SOk B g cap n w0 L' wr)) (fun x _ => b - (intOf x).toNat)
  case atStart => exact ⟨a + 1, L, rfl, by omega, by omega, H0.out, H1.out, H.out⟩
  case round =>
    obtain ⟨i, L', rfl, hai, hib, HM, HST, HS⟩ := hrel
    by_cases hlt : i < b
    · have hik : (i : Int) < (b : Int) := by omega
      go_wp2_with fail
      go_loopw [9] (fun x wr => ∃ (j : Nat) (L2 : List Nat), x = .int .i64 j ∧ a ≤ j ∧ j ≤ i ∧ Hid (SM κ L L2 a b) ∧ Hid (Ins κ L2 a j i) ∧ Hid (SOk B g cap n w0 L2 wr)) (fun x _ => (intOf x).toNat)
      case atStart => exact ⟨i, L', rfl, by omega, by omega, HM.out, Ins.start HST.out, HS.out⟩
      case round =>
        obtain ⟨j, L2, rfl, haj, hji, HM2, HI, HS2⟩ := hrel
        by_cases hja : a < j
        · obtain ⟨p, rfl⟩ : ∃ p, j = p + 1 := ⟨j - 1, by omega⟩
          have hjk : (a : Int) < (p : Int) + 1 := by omega
          have hl := HS2.out.len
          obtain ⟨x, hx⟩ : ∃ x, L2[p]? = some x := ⟨_, List.getElem?_eq_getElem (by omega)⟩
          obtain ⟨y, hy⟩ : ∃ y, L2[p + 1]? = some y := ⟨_, List.getElem?_eq_getElem (by omega)⟩
          have hbx := (HSP.out.sm HM2.out) p x hx
          have hby := (HSP.out.sm HM2.out) (p + 1) y hy
          have FC : Hid (∀ w', SOk B g cap n w0 L2 w' → w'.cell? ⟨g, p + 1, none⟩ = some (.int .i64 (y : Int)) ∧ w'.cell? ⟨g, p, none⟩ = some (.int .i64 (x : Int))) := fun w' h => by
            have d0 := h.cells hx
            have e0 := h.cells hy
            exact ⟨e0, d0⟩
          have cp := HS2.out.cap_
          have v1 : IntKind.i64.wrap ((p : Int) + 1 - 1) = (p : Int) := by rw [IntWalk.i64_in _ (by omega)]; omega
          have HC : Hid (∀ W', SOk B g cap n w0 L2 W' → Calls Tryd.prog 76 #[.int .i64 (y : Int), .int .i64 (x : Int), pv] W' fun e w' => e = .returned (.int .i64 (κ y - κ x)) ∧ Below W'.heap.size W' w') := fun W' hW => HCMP.out.at_ hW.kept hby hbx
          have HKX := Lib.hid (ky_some (key := κ) hx); have HKY := Lib.hid (ky_some (key := κ) hy)
          have HX := Lib.hid hx; have HY := Lib.hid hy
          have hpn : (p : Int) + 1 < (n : Int) := by omega
          have hp0 : (0 : Int) ≤ (p : Int) := by omega
          have hpn2 : (p : Int) < (n : Int) := by omega
          have v0 : IntKind.i64.wrap (p : Int) = (p : Int) := IntWalk.i64_in _ (by omega)
          have hp3 : (0 : Int) ≤ (p : Int) + 1 := by omega
          clear hx hy hl
          go_upto_region 4 with fail
          go_region_held3 (fun w' => w'.cell? ⟨g, p + 1, none⟩ = some (.int .i64 (y : Int)) ∧ w'.cell? ⟨g, p, none⟩ = some (.int .i64 (x : Int)))
            (first | exact FC.out _ HS2.out | exact FC.out _ HS2.out.drew | exact FC.out _ HS5.out)
            ((go_at_call 76; refine (HC.out _ HS2.out.drew).mono ?_; rintro e w5 ⟨rfl, hb5⟩; have HS5 := Lib.hid (HS2.out.drew.below hb5); clear hb5))
          have v5 : κ y - κ x < 0 ↔ κ y < κ x := by omega
          obtain ⟨d0, e0⟩ := FC.out _ HS5.out
          have f := HS5.out.free; have lt := HS5.out.lt
          by_cases hlt2 : κ y < κ x
          · have hlt3 : κ y - κ x < 0 := by omega
            have HW := Lib.hid (HS5.out.swap2 (i := p) (j := p + 1) (by omega) x y).drew
            have HM3 : Hid (SM κ L (swp L2 p (p + 1) x y) a b) := HM2.out.trans (SM.swap HX.out HY.out hlt2 (by omega) (by omega)) (Nat.le_refl _) (Nat.le_refl _)
            have HI3 := Lib.hid (HI.out.step hji (by omega) HX.out HY.out hlt2)
            clear v5
            go_wp2_with fail
            go_region
            all_goals
              go_wp2_with fail
              go_roundw
              case rel => exact ⟨p, _, by first | rfl | rw [v1], by omega, by omega, HM3.out, HI3.out, HW.out⟩
              case measure => first | (simp [intOf]; done) | (simp [intOf]; omega)
          · have hlt3 : ¬ κ y - κ x < 0 := by omega
            have HS3 : Hid (Srt κ L2 a (i + 1)) := HI.out.done hji (.inr (by rw [Nat.add_sub_cancel, HKX.out, HKY.out]; omega))
            have v9 : IntKind.i64.wrap ((i : Int) + 1) = ((i + 1 : Nat) : Int) := by rw [IntWalk.i64_in _ (by omega), Int.natCast_succ]
            clear v5
            go_wp2_with fail
            go_roundw
            case rel => exact ⟨i + 1, L2, by first | rfl | rw [v9], by omega, by omega, HM2.out, HS3.out, HS5.out⟩
            case measure => first | (simp [intOf]; done) | (simp [intOf]; omega)
        · have hjk : ¬ (a : Int) < (j : Int) := by omega
          have HS3 : Hid (Srt κ L2 a (i + 1)) := HI.out.done hji (.inl (by omega))
          have v9 : IntKind.i64.wrap ((i : Int) + 1) = ((i + 1 : Nat) : Int) := by rw [IntWalk.i64_in _ (by omega), Int.natCast_succ]
          have HSD := Lib.hid HS2.out.drew
          go_upto_region 4 with fail
          go_region
          all_goals
            go_wp2_with fail
            go_roundw
            case rel => exact ⟨i + 1, L2, by first | rfl | rw [v9], by omega, by omega, HM2.out, HS3.out, HSD.out⟩
            case measure => first | (simp [intOf]; done) | (simp [intOf]; omega)
    · obtain rfl : i = b := by omega
      have hik : ¬ (i : Int) < (i : Int) := by omega
      go_wp2_with fail
      go_end0
      exact ⟨⟨_, rfl⟩, L', ⟨HM.out, HST.out⟩, HS.out⟩
end Go.Proofs.YtimlmekgapdkiaaDoor
namespace Go.Proofs.YtimlmekgapdkiaaDoor
set_option linter.unusedVariables false
set_option linter.unusedSimpArgs false
open Go.RowKit Go.Cas

theorem two_cells {B g cap n : Nat} {w0 : World} {L : List Nat} {p q : Nat} {x y : Nat} (hx : L[p]? = some x) (hy : L[q]? = some y) : ∀ w', SOk B g cap n w0 L w' → w'.cell? ⟨g, p, none⟩ = some (.int .i64 (x : Int)) ∧ w'.cell? ⟨g, q, none⟩ = some (.int .i64 (y : Int)) := fun w' h => by
  have d0 := h.cells hx
  have e0 := h.cells hy
  exact ⟨d0, e0⟩
theorem rotL_id {α : Type} {L : List α} {a m b : Nat} (h1 : a ≤ m) (h2 : m ≤ b) (h3 : b ≤ L.length) (h : a = m ∨ m = b) : rotL L a m b = L := by
  apply List.ext_getElem?
  intro q
  rw [rot_get h1 h2 h3]
  congr 1
  unfold rix
  split
  · rfl
  · split <;> omega
end Go.Proofs.YtimlmekgapdkiaaDoor
