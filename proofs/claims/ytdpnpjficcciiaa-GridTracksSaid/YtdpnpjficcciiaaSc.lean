/- seat C: insertion -/
import Derived.Test.YtdpnpjficcciiaaSb
namespace Go.Proofs.Ytdpnpjficcciiaa
set_option linter.unusedVariables false
set_option linter.unusedSimpArgs false
open Go.RowKit Go.Cas

abbrev cmpV : Value := .func (.func 31) #[] #[]
set_option maxHeartbeats 4000000 in
theorem c_insert0 (v : Value) (w : World) (a b : Nat) (hb : b ≤ a + 1) (ha : a ≤ 1000) :
    Calls Try.prog 46 #[v, .int .i64 a, .int .i64 b, cmpV] w (fun e w' => (∃ u, e = .returned u) ∧ w = w') := by
  have v1 : IntKind.i64.wrap ((a : Int) + 1) = (a : Int) + 1 := IntWalk.i64_in _ (by omega)
  have h1 : ¬ (a : Int) + 1 < (b : Int) := by omega
  go_enter Try.func46, Try.ntmps46
  go_wp2_with fail
  refine wp_loop_rounds 1 ?_
  rw [rounds_succ]
  go_wp2_with fail
  go_end0
  exact ⟨⟨_, rfl⟩, rfl⟩
set_option maxRecDepth 100000 in
set_option maxHeartbeats 16000000 in
theorem c_insert {B g cap n : Nat} {w0 w : World} {L : List Nd} (h : SOk B g cap n w0 L w) (hn : n ≤ 1000) (hs : SpB L) (a b : Nat) (hab : a < b) (hb : b ≤ n) :
    Calls Try.prog 46 #[.slice (some ⟨g, 0, none⟩) n cap, .int .i64 a, .int .i64 b, cmpV] w (SRet B g cap n w0 (fun L' => SM Nd.sp L L' a b ∧ Srt Nd.sp L' a b)) := by
  have H := Lib.hid h
  have HSP := Lib.hid hs
  have H1 := Lib.hid (Srt.one (key := Nd.sp) L a (a + 1) (Nat.le_refl _))
  have H0 := Lib.hid (SM.refl Nd.sp L a b)
  clear h hs
  have v1 : IntKind.i64.wrap ((a : Int) + 1) = ((a + 1 : Nat) : Int) := by rw [IntWalk.i64_in _ (by omega), Int.natCast_succ]
  go_enter Try.func46, Try.ntmps46
  go_wp2_with fail
  clear v1
  go_loopw [8] (fun x wr => ∃ (i : Nat) (L' : List Nd), x = .int .i64 i ∧ a + 1 ≤ i ∧ i ≤ b ∧ Hid (SM Nd.sp L L' a b) ∧ Hid (Srt Nd.sp L' a i) ∧ Hid (SOk B g cap n w0 L' wr)) (fun x _ => b - (intOf x).toNat)
  case atStart => exact ⟨a + 1, L, rfl, by omega, by omega, H0.out, H1.out, H.out⟩
  case round =>
    obtain ⟨i, L', rfl, hai, hib, HM, HST, HS⟩ := hrel
    by_cases hlt : i < b
    · have hik : (i : Int) < (b : Int) := by omega
      go_wp2_with fail
      go_loopw [9] (fun x wr => ∃ (j : Nat) (L2 : List Nd), x = .int .i64 j ∧ a ≤ j ∧ j ≤ i ∧ Hid (SM Nd.sp L L2 a b) ∧ Hid (Ins Nd.sp L2 a j i) ∧ Hid (SOk B g cap n w0 L2 wr)) (fun x _ => (intOf x).toNat)
      case atStart => exact ⟨i, L', rfl, by omega, by omega, HM.out, Ins.start HST.out, HS.out⟩
      case round =>
        obtain ⟨j, L2, rfl, haj, hji, HM2, HI, HS2⟩ := hrel
        by_cases hja : a < j
        · obtain ⟨p, rfl⟩ : ∃ p, j = p + 1 := ⟨j - 1, by omega⟩
          have hjk : (a : Int) < (p : Int) + 1 := by omega
          have hl := HS2.out.len
          obtain ⟨x, hx⟩ : ∃ x, L2[p]? = some x := ⟨_, List.getElem?_eq_getElem (by omega)⟩
          obtain ⟨y, hy⟩ : ∃ y, L2[p + 1]? = some y := ⟨_, List.getElem?_eq_getElem (by omega)⟩
          have hbx := (HSP.out.sm HM2.out) p x hx
          have hby := (HSP.out.sm HM2.out) (p + 1) y hy
          have FC : Hid (∀ w', SOk B g cap n w0 L2 w' → w'.cell? ⟨g, (p + 1) * 3, none⟩ = some (.int .i64 y.fr) ∧ w'.cell? ⟨g, (p + 1) * 3 + 1, none⟩ = some (.int .i64 y.sp) ∧ w'.cell? ⟨g, (p + 1) * 3 + 2, none⟩ = some (.int .i64 y.sz) ∧ w'.cell? ⟨g, p * 3, none⟩ = some (.int .i64 x.fr) ∧ w'.cell? ⟨g, p * 3 + 1, none⟩ = some (.int .i64 x.sp) ∧ w'.cell? ⟨g, p * 3 + 2, none⟩ = some (.int .i64 x.sz)) := fun w' h => by
            obtain ⟨d0, d1, d2⟩ := h.cells hx
            obtain ⟨e0, e1, e2⟩ := h.cells hy
            exact ⟨e0, e1, e2, d0, d1, d2⟩
          have cp := HS2.out.cap_
          have v1 : IntKind.i64.wrap ((p : Int) + 1 - 1) = (p : Int) := by rw [IntWalk.i64_in _ (by omega)]; omega
          have HC := Lib.hid (c_cmp y x hby hbx)
          have HKX := Lib.hid (ky_some (key := Nd.sp) hx); have HKY := Lib.hid (ky_some (key := Nd.sp) hy)
          have HX := Lib.hid hx; have HY := Lib.hid hy
          have hpn : (p : Int) + 1 < (n : Int) := by omega
          have hp0 : (0 : Int) ≤ (p : Int) := by omega
          have hpn2 : (p : Int) < (n : Int) := by omega
          have v0 : IntKind.i64.wrap (p : Int) = (p : Int) := IntWalk.i64_in _ (by omega)
          have hp3 : (0 : Int) ≤ (p : Int) + 1 := by omega
          clear hx hy hl
          obtain ⟨xf, xs, xz⟩ := x
          obtain ⟨yf, ys, yz⟩ := y
          simp only at FC HKX HKY hbx hby HC
          go_upto_region 4 with fail
          go_region_held3 (fun w' => w'.cell? ⟨g, (p + 1) * 3, none⟩ = some (.int .i64 yf) ∧ w'.cell? ⟨g, (p + 1) * 3 + 1, none⟩ = some (.int .i64 ys) ∧ w'.cell? ⟨g, (p + 1) * 3 + 2, none⟩ = some (.int .i64 yz) ∧ w'.cell? ⟨g, p * 3, none⟩ = some (.int .i64 xf) ∧ w'.cell? ⟨g, p * 3 + 1, none⟩ = some (.int .i64 xs) ∧ w'.cell? ⟨g, p * 3 + 2, none⟩ = some (.int .i64 xz))
            (first | exact FC.out _ HS2.out | exact FC.out _ HS2.out.drew | exact FC.out _ HS5.out)
            ((go_at_call 31; refine (HC.out _).mono ?_; rintro e w5 ⟨rfl, hb5⟩; have HS5 := Lib.hid (HS2.out.drew.below hb5); clear hb5))
          have v5 : ys - xs < 0 ↔ ys < xs := by omega
          obtain ⟨d0, d1, d2, e0, e1, e2⟩ := FC.out _ HS5.out
          have f := HS5.out.free; have lt := HS5.out.lt
          by_cases hlt2 : ys < xs
          · have hlt3 : ys - xs < 0 := by omega
            have HW := Lib.hid (HS5.out.swap2 (i := p) (j := p + 1) (by omega) (by omega) (by omega) ⟨xf, xs, xz⟩ ⟨yf, ys, yz⟩).drew
            have HM3 : Hid (SM Nd.sp L (swp L2 p (p + 1) ⟨xf, xs, xz⟩ ⟨yf, ys, yz⟩) a b) := HM2.out.trans (SM.swap HX.out HY.out hlt2 (by omega) (by omega)) (Nat.le_refl _) (Nat.le_refl _)
            have HI3 := Lib.hid (HI.out.step hji (by omega) HX.out HY.out hlt2)
            clear v5
            go_wp2_with fail
            go_region
            all_goals
              go_wp2_with fail
              go_roundw
              case rel => exact ⟨p, _, by first | rfl | rw [v1], by omega, by omega, HM3.out, HI3.out, HW.out⟩
              case measure => first | (simp [intOf]; done) | (simp [intOf]; omega)
          · have hlt3 : ¬ ys - xs < 0 := by omega
            have HS3 : Hid (Srt Nd.sp L2 a (i + 1)) := HI.out.done hji (.inr (by rw [Nat.add_sub_cancel, HKX.out, HKY.out]; omega))
            have v9 : IntKind.i64.wrap ((i : Int) + 1) = ((i + 1 : Nat) : Int) := by rw [IntWalk.i64_in _ (by omega), Int.natCast_succ]
            clear v5
            go_wp2_with fail
            go_roundw
            case rel => exact ⟨i + 1, L2, by first | rfl | rw [v9], by omega, by omega, HM2.out, HS3.out, HS5.out⟩
            case measure => first | (simp [intOf]; done) | (simp [intOf]; omega)
        · have hjk : ¬ (a : Int) < (j : Int) := by omega
          have HS3 : Hid (Srt Nd.sp L2 a (i + 1)) := HI.out.done hji (.inl (by omega))
          have v9 : IntKind.i64.wrap ((i : Int) + 1) = ((i + 1 : Nat) : Int) := by rw [IntWalk.i64_in _ (by omega), Int.natCast_succ]
          have HSD := Lib.hid HS2.out.drew
          go_upto_region 4 with fail
          go_region
          all_goals
            go_wp2_with fail
            go_roundw
            case rel => exact ⟨i + 1, L2, by first | rfl | rw [v9], by omega, by omega, HM2.out, HS3.out, HSD.out⟩
            case measure => first | (simp [intOf]; done) | (simp [intOf]; omega)
    · obtain rfl : i = b := by omega
      have hik : ¬ (i : Int) < (i : Int) := by omega
      go_wp2_with fail
      go_end0
      exact ⟨⟨_, rfl⟩, L', ⟨HM.out, HST.out⟩, HS.out⟩
end Go.Proofs.Ytdpnpjficcciiaa
