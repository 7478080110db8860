/- GridPlaces, GridFree: the walks -/
import Derived.Test.YtnjckpgacbibhaaGrl
namespace Go.Proofs.Ytnjckpgacbibhaa
set_option linter.unusedVariables false
set_option linter.unusedSimpArgs false
open Go.RowKit Go.Cas Go.WideShapes Go.ChangeShapes

theorem rd_cells {w : World} {lim n k : Nat} {A : Option Addr} {c : Nat} {L : List Itm} {x : Itm} (h : RdS w lim 4 (.slice A n c) n (ics L)) (hk : k < n) (hx : L[k]? = some x) : ∃ g o, A = some ⟨g, o, none⟩ ∧ g < lim ∧ ∀ w', Below lim w w' → (w'.cell? ⟨g, o + k * 4, none⟩ = some (.int .i64 x.c) ∧ w'.cell? ⟨g, o + k * 4 + 1, none⟩ = some (.int .i64 x.p) ∧ w'.cell? ⟨g, o + k * 4 + 2, none⟩ = some (.int .i64 x.r) ∧ w'.cell? ⟨g, o + k * 4 + 3, none⟩ = some (.int .i64 x.q)) := by
  obtain ⟨_, A', c', e, _, hc⟩ := h
  injection e with e1 _ e2
  subst e1 e2
  obtain ⟨g, o, e, hg, hcell⟩ := hc (by omega)
  refine ⟨g, o, e, hg, fun w' hb => ic_cells (fun j u hu => (hb.cell (p := ⟨g, _, none⟩) hg).trans (hcell j u hu)) hx⟩
theorem rd_cin {w : World} {lim n k : Nat} {A : Option Addr} {c : Nat} {L : List CIn} {x : CIn} (h : RdS w lim 4 (.slice A n c) n (cins L)) (hk : k < n) (hx : L[k]? = some x) : ∃ g o, A = some ⟨g, o, none⟩ ∧ g < lim ∧ ∀ w', Below lim w w' → (w'.cell? ⟨g, o + k * 4, none⟩ = some (.int .i64 x.c) ∧ w'.cell? ⟨g, o + k * 4 + 2, none⟩ = some (.int .i64 x.r)) := by
  obtain ⟨_, A', c', e, _, hc⟩ := h
  injection e with e1 _ e2
  subst e1 e2
  obtain ⟨g, o, e, hg, hcell⟩ := hc (by omega)
  refine ⟨g, o, e, hg, fun w' hb => ?_⟩
  have h4 : ∀ j, j < 4 → ∀ u, (cin x)[j]? = some u → w'.cell? ⟨g, o + k * 4 + j, none⟩ = some u := fun j hj u hu => by
    have := hcell (k * 4 + j) u (by rw [cins_get L k j x hx hj]; exact hu)
    rw [← Nat.add_assoc] at this
    exact (hb.cell (p := ⟨g, _, none⟩) hg).trans this
  exact ⟨h4 0 (by omega) _ rfl, h4 2 (by omega) _ rfl⟩

set_option maxRecDepth 100000 in
set_option maxHeartbeats 8000000 in
theorem W_walkGP (v : Value) (n : Nat) (I : List CIn) (cols : Int) (w : World) (hl : I.length = n) (hN : n ≤ maxLen) (hp : RdS w w.heap.size 4 v n (cins I)) : Calls Try.prog 13 #[v, .int .i64 cols] w fun e w' => e = .returned (.bool true) ∧ Below w.heap.size w w' := by
  have hN63 : (n : Int) ≤ 9223372036854775807 := by unfold maxLen at hN; omega
  have HP := Lib.hid hp
  obtain ⟨_, A, c, rfl, hnc, _⟩ := hp
  by_cases h60 : (n : Int) > 60
  · clear hl hN
    go_enter Try.func13, Try.ntmps13
    go_wp2_with fail
    go_ret
    exact ⟨rfl, Below.refl _ _⟩
  obtain ⟨L4, C3, hpl⟩ := pl_ex I cols (by omega)
  have HPL := Lib.hid hpl
  have HF := Lib.hid (pl_fin (by omega) hpl)
  have HL := Lib.hid hl
  clear hl hN hpl
  go_enter Try.func13, Try.ntmps13
  go_wp2_with fail
  refine (c_cells _ n I w HP.out (by omega)).mono ?_
  rintro e w1 ⟨u, rfl, hu, hb1⟩
  have HU := Lib.hid hu
  obtain ⟨_, A1, c1, rfl, hnc1, _⟩ := hu
  have HB1 := Lib.hid hb1
  clear hb1
  go_wp2_with fail
  refine (place_P _ n _ I cols w1 HU.out (Nat.le_refl _) (by omega) L4 C3 HPL.out).mono ?_
  rintro e w2 ⟨u2, rfl, hu2, hb2⟩
  have HU2 := Lib.hid hu2
  obtain ⟨_, A2, c2, rfl, hnc2, _⟩ := hu2
  have HB2 := Lib.hid (bl_trans HB1.out hb2)
  clear hb2
  go_wp2_with fail
  refine (place_R _ n w.heap.size I cols w2 (HP.out.below HB2.out) HB2.out.size (by omega) L4 C3 HPL.out).mono ?_
  rintro e w3 ⟨u3, rfl, hu3, hb3⟩
  have HU3 := Lib.hid hu3
  obtain ⟨_, A3, c3, rfl, hnc3, _⟩ := hu3
  have HU4 := Lib.hid ((HU2.out.below hb3).mono hb3.size)
  have HB3 := Lib.hid (bl_trans HB2.out hb3)
  clear hb3
  go_wp2_with fail
  go_loopw [11] (fun i wr => ∃ (k : Nat), k ≤ n ∧ i = .int .i64 k ∧ Hid (Below w3.heap.size w3 wr)) (fun i _ => n - (intOf i).toNat)
  case atStart => exact ⟨0, by omega, rfl, Below.refl _ _⟩
  case round =>
    obtain ⟨k, hk, rfl, HBR⟩ := hrel
    by_cases hlt : k < n
    · have hik : (k : Int) < (n : Int) := by omega
      obtain ⟨x, hx⟩ : ∃ x, L4[k]? = some x := ⟨_, List.getElem?_eq_getElem (by rw [HF.out.len, HL.out]; exact hlt)⟩
      obtain ⟨g, o, rfl, _, f1⟩ := rd_cells HU4.out hlt hx
      obtain ⟨g', o', rfl, _, f2⟩ := rd_cells HU3.out hlt hx
      obtain ⟨d0, d1, d2, d3⟩ := f1 _ HBR.out
      obtain ⟨e0, e1, e2, e3⟩ := f2 _ HBR.out
      clear hx f1 f2
      obtain ⟨xc, xp, xr, xq⟩ := x
      simp only at d0 d1 d2 d3 e0 e1 e2 e3
      go_wp2_with fail
      go_quiet (fail)
      go_wp2_with fail
      go_roundw
      case rel => exact ⟨k + 1, by omega, by go_num, bl_drewN HBR.out _⟩
      case measure => simp [intOf]; omega
    · obtain rfl : k = n := by omega
      have hik : ¬ (k : Int) < (k : Int) := by omega
      go_wp2_with fail
      go_ret
      exact ⟨rfl, bl_trans HB3.out HBR.out⟩
set_option maxRecDepth 100000 in
theorem W_gridPlaces {H : Type} {enc : TypeId × Value → H} {b0 base : Nat} {r : Reach} {spare : Nat → Bool} {held : Bool} {d : DataW H} {p : List MemPlace} (v : Value) (cols : Int) (w : World)
    (hv : Value.okWide Try.prog w r b0 91 v) (hh : DataW.Trod enc Try.prog w base spare held 91 v d p) (_ : (Lit.int .i64 cols).wf = true) :
    Calls Try.prog 13 #[v, .int .i64 cols] w fun e w' => e = .returned (.bool true) ∧ Below w.heap.size w w' := by
  obtain ⟨n, L, h1, h2, h3⟩ := open_Cells hv hh
  exact W_walkGP v n L cols w h1 h2 h3
end Go.Proofs.Ytnjckpgacbibhaa
