/- seat C: ranges change places; a rotation -/
import Derived.Test.YtdpnpjficcciiaaSa
import Derived.BigRegion
namespace Go.Proofs.Ytdpnpjficcciiaa
set_option linter.unusedVariables false
set_option linter.unusedSimpArgs false
open Go.RowKit Go.Cas

def SRet (B g cap n : Nat) (w0 : World) (P : List Nd → Prop) (e : Ending) (w' : World) : Prop := (∃ u, e = .returned u) ∧ ∃ L', P L' ∧ SOk B g cap n w0 L' w'
set_option maxRecDepth 100000 in
set_option maxHeartbeats 8000000 in
theorem c_swapR {B g cap n : Nat} {w0 w : World} {L : List Nd} (h : SOk B g cap n w0 L w) (hn : n ≤ 1000) (a b m : Nat) (hab : a + m ≤ b) (hb : b + m ≤ n) (fv : Value) :
    Calls Try.prog 51 #[.slice (some ⟨g, 0, none⟩) n cap, .int .i64 a, .int .i64 b, .int .i64 m, fv] w (SRet B g cap n w0 (fun L' => ∀ q, L'[q]? = L[six a b m q]?)) := by
  have H := Lib.hid h
  clear h
  go_enter Try.func51, Try.ntmps51
  go_wp2_with fail
  go_loopw [10] (fun i wr => ∃ (k : Nat) (L' : List Nd), k ≤ m ∧ i = .int .i64 k ∧ Hid (∀ q, L'[q]? = L[six a b k q]?) ∧ Hid (SOk B g cap n w0 L' wr)) (fun i _ => m - (intOf i).toNat)
  case atStart => exact ⟨0, L, by omega, rfl, fun q => by rw [six_zero], H.out⟩
  case round =>
    obtain ⟨k, L', hk, rfl, HX, HS⟩ := hrel
    by_cases hlt : k < m
    · have hik : (k : Int) < (m : Int) := by omega
      obtain ⟨pa, hpa⟩ : ∃ pa, pa = a + k := ⟨_, rfl⟩
      obtain ⟨pb, hpb⟩ : ∃ pb, pb = b + k := ⟨_, rfl⟩
      have hl := HS.out.len
      obtain ⟨x, hx⟩ : ∃ x, L'[pa]? = some x := ⟨_, List.getElem?_eq_getElem (by omega)⟩
      obtain ⟨y, hy⟩ : ∃ y, L'[pb]? = some y := ⟨_, List.getElem?_eq_getElem (by omega)⟩
      obtain ⟨d0, d1, d2⟩ := HS.out.cells hx
      obtain ⟨e0, e1, e2⟩ := HS.out.cells hy
      have f := HS.out.free; have lt := HS.out.lt; have cp := HS.out.cap_
      have v1 : IntKind.i64.wrap ((a : Int) + (k : Int)) = (pa : Int) := by rw [IntWalk.i64_in _ (by omega), hpa, Int.natCast_add]
      have v2 : IntKind.i64.wrap ((b : Int) + (k : Int)) = (pb : Int) := by rw [IntWalk.i64_in _ (by omega), hpb, Int.natCast_add]
      have HNX : Hid (∀ q, (swp L' pa pb x y)[q]? = L[six a b (k + 1) q]?) := fun q => by
        rw [swp_get hx hy, six_succ (by omega), ← hpa, ← hpb]
        obtain ⟨s1, s2⟩ := six_at (a := a) (b := b) (n := k) (by omega)
        split
        · rw [HX.out pa, hpa, s1]
        · split
          · rw [HX.out pb, hpb, s2]
          · exact HX.out q
      have HW1 := Lib.hid (HS.out.swap1 (i := pa) (j := pb) (by omega) (by omega) x y).drew
      have hpn : (pa : Int) < (n : Int) := by omega
      have hpm : (pb : Int) < (n : Int) := by omega
      have hp0 : (0 : Int) ≤ (pa : Int) := by omega
      have hp1 : (0 : Int) ≤ (pb : Int) := by omega
      have hpd : pa * 3 ≠ pb * 3 := by omega
      clear hx hy hpa hpb hl
      obtain ⟨xf, xs, xz⟩ := x
      obtain ⟨yf, ys, yz⟩ := y
      simp only at d0 d1 d2 e0 e1 e2
      go_wp2_with fail
      go_region
      all_goals
        go_wp2_with fail
        go_roundw
        case rel => exact ⟨k + 1, _, by omega, by go_num, HNX.out, HW1.out⟩
        case measure => simp [intOf]; omega
    · obtain rfl : k = m := by omega
      have hik : ¬ (k : Int) < (k : Int) := by omega
      go_wp2_with fail
      go_end0
      exact ⟨⟨_, rfl⟩, L', HX.out, HS.out⟩
set_option maxRecDepth 100000 in
set_option maxHeartbeats 8000000 in
theorem c_rotate {B g cap n : Nat} {w0 w : World} {L : List Nd} (h : SOk B g cap n w0 L w) (hn : n ≤ 1000) (a m b : Nat) (ham : a < m) (hmb : m < b) (hb : b ≤ n) (fv : Value) :
    Calls Try.prog 49 #[.slice (some ⟨g, 0, none⟩) n cap, .int .i64 a, .int .i64 m, .int .i64 b, fv] w (SRet B g cap n w0 (fun L' => L' = rotL L a m b)) := by
  have H := Lib.hid h
  have HL := Lib.hid h.len
  clear h
  have v1 : IntKind.i64.wrap ((m : Int) - (a : Int)) = ((m - a : Nat) : Int) := by rw [IntWalk.i64_in _ (by omega)]; omega
  have v2 : IntKind.i64.wrap ((b : Int) - (m : Int)) = ((b - m : Nat) : Int) := by rw [IntWalk.i64_in _ (by omega)]; omega
  have HF : Hid (∀ q, (rotL L a m b)[q]? = L[rix a m b q]?) := fun q => rot_get (by omega) (by omega) (by rw [HL.out]; exact hb) q
  have HLN : Hid ((rotL L a m b).length = n) := by unfold Hid; rw [rotL_len (by omega) (by omega) (by rw [HL.out]; exact hb)]; exact HL.out
  obtain ⟨Lf, hLf⟩ : ∃ Lf, Lf = rotL L a m b := ⟨_, rfl⟩
  rw [← hLf] at HF HLN ⊢
  clear hLf
  go_enter Try.func49, Try.ntmps49
  go_wp2_with fail
  clear v1 v2
  go_loopw [10, 11] (fun x y wr => ∃ (i j : Nat) (L' : List Nd), x = .int .i64 i ∧ y = .int .i64 j ∧ 0 < i ∧ 0 < j ∧ i ≤ m ∧ m + j ≤ n ∧ Hid (∀ q, Lf[q]? = L'[rix (m - i) m (m + j) q]?) ∧ Hid (SOk B g cap n w0 L' wr)) (fun x y _ => (intOf x).toNat + (intOf y).toNat)
  case atStart => exact ⟨m - a, b - m, L, rfl, rfl, by omega, by omega, by omega, by omega, (by intro q; rw [HF.out q, show m - (m - a) = a by omega, show m + (b - m) = b by omega]), H.out⟩
  case round =>
    obtain ⟨i, j, L', rfl, rfl, hi, hj, him, hjn, HX, HS⟩ := hrel
    have v1 : IntKind.i64.wrap ((m : Int) - (i : Int)) = ((m - i : Nat) : Int) := by rw [IntWalk.i64_in _ (by omega)]; omega
    by_cases hij : i = j
    · subst hij
      have HC := Lib.hid (c_swapR HS.out hn (m - i) m i (by omega) (by omega) fv)
      go_wp2_with fail
      refine HC.out.mono ?_
      rintro e w' ⟨⟨u, rfl⟩, L2, h2, hs2⟩
      have HS2 := Lib.hid hs2
      have HE : Hid (L2 = Lf) := by
        apply List.ext_getElem?
        intro q
        rw [h2, HX.out q, rix_swap3 him]
      clear h2 hs2
      go_wp2_with fail
      go_end0
      exact ⟨⟨_, rfl⟩, L2, HE.out, HS2.out⟩
    · have hne : ¬ (i : Int) = (j : Int) := by omega
      by_cases hgt : j < i
      · have hgti : (j : Int) < (i : Int) := by omega
        have HC := Lib.hid (c_swapR HS.out hn (m - i) m j (by omega) (by omega) fv)
        have v2 : IntKind.i64.wrap ((i : Int) - (j : Int)) = ((i - j : Nat) : Int) := by rw [IntWalk.i64_in _ (by omega)]; omega
        go_wp2_with fail
        refine HC.out.mono ?_
        rintro e w' ⟨⟨u, rfl⟩, L2, h2, hs2⟩
        have HS2 := Lib.hid hs2
        have HE : Hid (∀ q, Lf[q]? = L2[rix (m - (i - j)) m (m + j) q]?) := fun q => by
          rw [h2, (rix_swap1 hgt him).1]; exact HX.out q
        clear h2 hs2
        go_wp2_with fail
        go_roundw
        case rel => exact ⟨i - j, j, L2, rfl, rfl, by omega, hj, by omega, hjn, HE.out, HS2.out⟩
        case measure => simp [intOf]; omega
      · have hgti : ¬ (j : Int) < (i : Int) := by omega
        have HC := Lib.hid (c_swapR HS.out hn (m - i) (m + j - i) i (by omega) (by omega) fv)
        have v2 : IntKind.i64.wrap ((j : Int) - (i : Int)) = ((j - i : Nat) : Int) := by rw [IntWalk.i64_in _ (by omega)]; omega
        have v3 : IntKind.i64.wrap ((m : Int) + (j : Int)) = (m : Int) + (j : Int) := IntWalk.i64_in _ (by omega)
        have v4 : IntKind.i64.wrap ((m : Int) + (j : Int) - (i : Int)) = ((m + j - i : Nat) : Int) := by rw [IntWalk.i64_in _ (by omega)]; omega
        go_wp2_with fail
        refine HC.out.mono ?_
        rintro e w' ⟨⟨u, rfl⟩, L2, h2, hs2⟩
        have HS2 := Lib.hid hs2
        have HE : Hid (∀ q, Lf[q]? = L2[rix (m - i) m (m + (j - i)) q]?) := fun q => by
          rw [h2, rix_swap2 (by omega) him]; exact HX.out q
        clear h2 hs2
        go_wp2_with fail
        go_roundw
        case rel => exact ⟨i, j - i, L2, rfl, rfl, hi, by omega, him, by omega, HE.out, HS2.out⟩
        case measure => simp [intOf]; omega
end Go.Proofs.Ytdpnpjficcciiaa
