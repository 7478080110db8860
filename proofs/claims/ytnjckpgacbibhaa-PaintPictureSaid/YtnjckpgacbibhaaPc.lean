/- the picture of marks: the reference's -/
import Derived.Test.YtnjckpgacbibhaaPb
namespace Go.Proofs.Ytnjckpgacbibhaa
set_option linter.unusedVariables false
set_option linter.unusedSimpArgs false
open Go.RowKit Go.Cas

theorem c_most5 (a b : Int) (w : World) : Calls Try.prog 56 #[.int .i64 a, .int .i64 b] w fun e w' => e = .returned (.int .i64 (max a b)) ∧ w = w' := by
  go_enter Try.func56, Try.ntmps56
  go_wp2_with fail
  all_goals
    go_ret
    exact ⟨ret_int (by omega), rfl⟩
theorem c_least5 (a b : Int) (w : World) : Calls Try.prog 55 #[.int .i64 a, .int .i64 b] w fun e w' => e = .returned (.int .i64 (min a b)) ∧ w = w' := by
  go_enter Try.func55, Try.ntmps55
  go_wp2_with fail
  all_goals
    go_ret
    exact ⟨ret_int (by omega), rfl⟩
def insR (x y w h px py : Int) : Bool := decide (x ≤ px ∧ px < x + w ∧ y ≤ py ∧ py < y + h)
theorem insR_iff (x y w h px py : Int) : insR x y w h px py = true ↔ (x ≤ px ∧ px < x + w ∧ y ≤ py ∧ py < y + h) := by unfold insR; simp
abbrev agQ (x y w h : Int) : Value := .agg #[.int .i64 x, .int .i64 y, .int .i64 w, .int .i64 h]
set_option maxHeartbeats 2000000 in
theorem c_Inside (x y w h px py : Int) (W : World) (hx : -100000000 ≤ x ∧ x ≤ 100000000) (hy : -100000000 ≤ y ∧ y ≤ 100000000) (hw : -100000000 ≤ w ∧ w ≤ 100000000) (hh : -100000000 ≤ h ∧ h ≤ 100000000) :
    Calls Try.prog 58 #[agQ x y w h, .int .i64 px, .int .i64 py] W fun e w' => e = .returned (.bool (insR x y w h px py)) ∧ Below W.heap.size W w' := by
  by_cases c1 : x ≤ px
  · by_cases c2 : px < x + w
    · by_cases c3 : y ≤ py
      · by_cases c4 : py < y + h
        · have R := Lib.hid (show insR x y w h px py = true from (insR_iff _ _ _ _ _ _).2 ⟨c1, c2, c3, c4⟩)
          go_enter Try.func58, Try.ntmps58
          go_wp2_with fail
          go_ret
          exact ⟨ret_bool (by rw [R.out] <;> first | rfl | (simp; done) | (simp; omega)), by repeat (first | with_reducible refine bl_drewN ?_ _ | with_reducible refine bl_alloc ?_ _ | exact Below.refl _ _)⟩
        · have R := Lib.hid (show insR x y w h px py = false by rw [Bool.eq_false_iff]; intro e; obtain ⟨e1, e2, e3, e4⟩ := (insR_iff _ _ _ _ _ _).1 e; omega)
          go_enter Try.func58, Try.ntmps58
          go_wp2_with fail
          go_ret
          exact ⟨ret_bool (by rw [R.out] <;> first | rfl | (simp; done) | (simp; omega)), by repeat (first | with_reducible refine bl_drewN ?_ _ | with_reducible refine bl_alloc ?_ _ | exact Below.refl _ _)⟩
      · have R := Lib.hid (show insR x y w h px py = false by rw [Bool.eq_false_iff]; intro e; obtain ⟨e1, e2, e3, e4⟩ := (insR_iff _ _ _ _ _ _).1 e; omega)
        go_enter Try.func58, Try.ntmps58
        go_wp2_with fail
        go_ret
        exact ⟨ret_bool (by rw [R.out] <;> first | rfl | (simp; done) | (simp; omega)), by repeat (first | with_reducible refine bl_drewN ?_ _ | with_reducible refine bl_alloc ?_ _ | exact Below.refl _ _)⟩
    · have R := Lib.hid (show insR x y w h px py = false by rw [Bool.eq_false_iff]; intro e; obtain ⟨e1, e2, e3, e4⟩ := (insR_iff _ _ _ _ _ _).1 e; omega)
      go_enter Try.func58, Try.ntmps58
      go_wp2_with fail
      go_ret
      exact ⟨ret_bool (by rw [R.out] <;> first | rfl | (simp; done) | (simp; omega)), by repeat (first | with_reducible refine bl_drewN ?_ _ | with_reducible refine bl_alloc ?_ _ | exact Below.refl _ _)⟩
  · have R := Lib.hid (show insR x y w h px py = false by rw [Bool.eq_false_iff]; intro e; obtain ⟨e1, e2, e3, e4⟩ := (insR_iff _ _ _ _ _ _).1 e; omega)
    go_enter Try.func58, Try.ntmps58
    go_wp2_with fail
    go_ret
    exact ⟨ret_bool (by rw [R.out] <;> first | rfl | (simp; done) | (simp; omega)), by repeat (first | with_reducible refine bl_drewN ?_ _ | with_reducible refine bl_alloc ?_ _ | exact Below.refl _ _)⟩

def vI (n : Nat) (f : Nat → Int) : List Value := (List.range n).map (fun x => .int .i64 (f x))
theorem vI_succ (n : Nat) (f : Nat → Int) : vI (n + 1) f = vI n f ++ [.int .i64 (f n)] := by simp [vI, List.range_succ]
theorem vI_get (n : Nat) (f : Nat → Int) (k : Nat) (h : k < n) : (vI n f)[k]? = some (.int .i64 (f k)) := by simp [vI, h]
/-- a matrix whose rows are slices of the call's own -/
structure RMat (w : World) (B : Nat) (v : Value) (n W : Nat) (F : Nat → Nat → Int) (vs : List Value) : Prop where
  own : w.ownsRow B 28 1 v n vs
  row : ∀ j, j < n → ∃ u, vs[j]? = some u ∧ w.ownsRow B 3 1 u W (vI W (F j)) ∧ Sep v u
section
variable {w w' : World} {B n W : Nat} {v : Value} {F : Nat → Nat → Int} {vs : List Value}
theorem RMat.below (m : RMat w B v n W F vs) (hb : Below w.heap.size w w') : RMat w' B v n W F vs :=
  ⟨(Kept.of_below hb (fun _ => False)).own m.own (fun _ _ h => h), fun j hj => by
    obtain ⟨u, h1, h2, h3⟩ := m.row j hj
    exact ⟨u, h1, (Kept.of_below hb (fun _ => False)).own h2 (fun _ _ h => h), h3⟩⟩
theorem RMat.push {w0 : World} {u v' : Value} (m : RMat w0 B v n W F vs) (hu : w0.ownsRow B 3 1 u W (vI W (F n))) (hs : Sep v u) (hp : Pushed w0 B 28 1 v n vs [u] v' w') : RMat w' B v' (n + 1) W F (vs ++ [u]) := by
  have hl : vs.length = n := by have := m.own.1; omega
  refine ⟨hp.own, fun j hj => ?_⟩
  by_cases e : j = n
  · subst e
    refine ⟨u, by rw [List.getElem?_append_right (by omega)]; simp [hl], hp.other hu hs, hp.sep hu hs⟩
  · obtain ⟨q, h1, h2, h3⟩ := m.row j (by omega)
    exact ⟨q, by rw [List.getElem?_append_left (by omega)]; exact h1, hp.other h2 h3, hp.sep h2 h3⟩
end
theorem own_base {w : World} {B B2 : Nat} {e : TypeId} {size n : Nat} {v : Value} {xs : List Value} (h : w.ownsRow B e size v n xs) (hB : B2 ≤ B) : w.ownsRow B2 e size v n xs :=
  ⟨h.1, h.2.imp id (fun ⟨g, cap, cur, h1, hb, rest⟩ => ⟨g, cap, cur, h1, Nat.le_trans hB hb, rest⟩)⟩
theorem insR_M (m : Mrk) (y h px py : Int) (hy : y = topM m) (hh : y + h = m.y + m.h) : insR m.x y m.w h px py = insM m px py := by
  subst hy
  unfold insR insM
  rw [hh]

set_option maxRecDepth 100000 in
set_option maxHeartbeats 16000000 in
theorem c_PictureR (v : Value) (n lim : Nat) (L : List Mrk) (wd ht : Int) (w : World) (hr : RdS w lim 7 v n (L.flatMap mc)) (hL : L.length = n) (hlim : lim ≤ w.heap.size) (hn : n ≤ 1000) (gd : ∀ m ∈ L, MB m) :
    Calls Try.prog 21 #[v, .int .i64 wd, .int .i64 ht] w fun e w' => ∃ (u : Value) (vs : List Value), e = .returned u ∧ RMat w' w.heap.size u (sideN ht) (sideN wd) (fun y x => pxl L (mid x) (mid y)) vs ∧ Below w.heap.size w w' := by
  obtain ⟨hl, A, c, rfl, hnc, hcell⟩ := hr
  have HC := Lib.hid hcell
  have HN := Lib.hid hL
  have GD := Lib.hid gd
  obtain ⟨W, hW⟩ : ∃ W, W = sideN wd := ⟨_, rfl⟩
  obtain ⟨H, hH⟩ : ∃ H, H = sideN ht := ⟨_, rfl⟩
  have eW : min (max wd 0) 64 = (W : Int) := by rw [hW]; have := side_eq wd; omega
  have eH : min (max ht 0) 64 = (H : Int) := by rw [hH]; have := side_eq ht; omega
  have lW : W ≤ 64 := by rw [hW]; exact side_le wd
  have lH : H ≤ 64 := by rw [hH]; exact side_le ht
  rw [← hW, ← hH]
  clear hcell hl hL gd hW hH
  obtain ⟨B, hBe⟩ : ∃ B, B = w.heap.size := ⟨_, rfl⟩
  have HBE := Lib.hid hBe
  have HB0 := Lib.hid (Below.refl w.heap.size w)
  rw [← hBe] at HB0 ⊢
  obtain ⟨F, hF⟩ : ∃ F : Nat → Nat → Int, F = fun y x => pxl L (mid x) (mid y) := ⟨_, rfl⟩
  rw [← hF]
  have HF : Hid (∀ y x, F y x = pxl L (mid x) (mid y)) := fun y x => by rw [hF]
  have HLB : Hid (lim ≤ B) := by rw [hBe]; exact hlim
  clear hF hBe hlim
  go_enter Try.func21, Try.ntmps21
  go_wp2_with (first | (go_at_call 56; refine (c_most5 _ _ _).mono ?_; rintro e w' ⟨rfl, rfl⟩) | (go_at_call 55; refine (c_least5 _ _ _).mono ?_; rintro e w' ⟨rfl, rfl⟩))
  clear eW eH
  go_loopw [7, 8] (fun o i wr => ∃ (y : Nat) (vs : List Value), y ≤ H ∧ i = .int .i64 y ∧ Hid (RMat wr B o y W F vs) ∧ Hid (Below B w wr) ∧ Hid (B ≤ wr.heap.size)) (fun _ i _ => H - (intOf i).toNat)
  case atStart => exact ⟨0, [], by omega, rfl, ⟨World.ownsRow_nil _ _ _ _, fun j hj => by omega⟩, HB0.out, by rw [HBE.out]; exact Nat.le_refl _⟩
  case round =>
    obtain ⟨y, vs, hy, rfl, HM, HB, HZ⟩ := hrel
    by_cases hyH : y < H
    · have hik : (y : Int) < (H : Int) := by omega
      have hy64 : y < 64 := by omega
      obtain ⟨lr, hlr⟩ : ∃ lr, lr = wr.heap.size := ⟨_, rfl⟩
      have HLR := Lib.hid hlr
      obtain ⟨wy, hwy⟩ : ∃ wy, wy = wr := ⟨_, rfl⟩
      have HWY := Lib.hid hwy
      have HBY : Hid (Below B w wy) := by rw [hwy]; exact HB.out
      have HMY : Hid (RMat wy B u7 y W F vs) := by rw [hwy]; exact HM.out
      have HBL : Hid (B ≤ lr) := by rw [hlr]; exact HZ.out
      have HYL : Hid (wy.heap.size = lr) := by rw [hwy, hlr]; rfl
      clear hlr hwy
      go_wp2_with fail
      go_loopw [9, 10] (fun r i wr2 => ∃ (x : Nat), x ≤ W ∧ i = .int .i64 x ∧ Hid (wr2.ownsRow lr 3 1 r x (vI x (F y))) ∧ Hid (Below lr wy wr2)) (fun _ i _ => W - (intOf i).toNat)
      case atStart => exact ⟨0, by omega, rfl, World.ownsRow_nil _ _ _ _, by rw [HWY.out]; exact Below.refl _ _⟩
      case round =>
        obtain ⟨x, hx, rfl, HO, HBX⟩ := hrel
        have hlrs : Hid (lr ≤ wr.heap.size) := by have := HBX.out.size; rw [HLR.out, ← HWY.out]; exact this
        by_cases hxW : x < W
        · have hik2 : (x : Int) < (W : Int) := by omega
          have hx64 : x < 64 := by omega
          obtain ⟨wx, hwx⟩ : ∃ wx, wx = wr := ⟨_, rfl⟩
          have HWX := Lib.hid hwx
          have HBWX : Hid (Below B w wx) := by rw [hwx]; exact HBY.out.trans (HBX.out.mono HBL.out)
          have HXZ : Hid (lr ≤ wx.heap.size) := by rw [hwx]; exact hlrs.out
          have HBX2 : Hid (Below lr wy wx) := by rw [hwx]; exact HBX.out
          have HPN : Hid (F y x = pxl (L.take n) (mid x) (mid y)) := by rw [HF.out, List.take_of_length_le (by rw [HN.out]; omega)]; rfl
          clear hwx
          go_wp2_with fail
          go_loopw [11, 12] (fun co i wr3 => ∃ (q : Nat), q ≤ n ∧ co = .int .i64 (-1) ∧ i = .int .i64 ((q : Int) - 1) ∧ Hid (F y x = pxl (L.take q) (mid x) (mid y)) ∧ Hid (Below wx.heap.size wx wr3)) (fun _ i _ => (intOf i + 1).toNat)
          case atStart => exact ⟨n, by omega, rfl, by go_num, HPN.out, by rw [HWX.out]; exact Below.refl _ _⟩
          case round =>
            obtain ⟨q, hq, rfl, rfl, HP, HBI⟩ := hrel
            have hown : wr.ownsRow lr 3 1 u9 x (vI x (F y)) := (Kept.of_below HBI.out (fun _ => False)).own (by rw [HWX.out]; exact HO.out) (fun _ _ h => h)
            have HOWN := Lib.hid hown
            have hlr2 : lr ≤ wr.heap.size := by have h1 := HBI.out.size; have h2 := hlrs.out; rw [HWX.out] at h1; omega
            clear hown
            by_cases hq0 : q = 0
            · subst hq0
              have e0 : ((0 : Nat) : Int) - 1 = -1 := rfl
              rw [e0]
              clear e0
              have HBR : Hid (Below lr wy wr) := HBX2.out.trans (HBI.out.mono HXZ.out)
              have HV : Hid (F y x = -1) := HP.out
              go_wp2_with (at_builtin; refine wp_push rfl _ _ 28 rfl lr 3 Try.underlying28 infI rfl (by decide) wr u9 x (vI x (F y)) [.int .i64 (-1)] rfl rfl rfl HOWN.out rfl (by simp [Value.oneCell']) (by omega) (by omega) (by omega) ?_; intro v5 w5 hpush; have HPU := Lib.hid hpush; clear hpush)
              go_roundw
              case rel => exact ⟨x + 1, by omega, by go_num, by (have := HPU.out.own; rw [vI_succ, HV.out]; exact this), HPU.out.below HBR.out (Nat.le_refl _) (by omega)⟩
              case measure => first | (simp [intOf]; done) | (simp [intOf]; omega)
            · obtain ⟨j, rfl⟩ : ∃ j, q = j + 1 := ⟨q - 1, by omega⟩
              have e0 : ((j + 1 : Nat) : Int) - 1 = (j : Int) := by omega
              rw [e0]
              clear e0
              have hjn : j < n := by omega
              have hkL : j < L.length := by rw [HN.out]; exact hjn
              obtain ⟨g, o, rfl, hg, hc⟩ := HC.out (by omega)
              obtain ⟨m, hm⟩ : ∃ m, L[j]? = some m := ⟨_, List.getElem?_eq_getElem hkL⟩
              have hb := GD.out m (List.mem_of_getElem? hm)
              have HBR : Hid (Below lr wy wr) := HBX2.out.trans (HBI.out.mono HXZ.out)
              have HBW : Hid (Below B w wr) := HBWX.out.trans (HBI.out.mono (Nat.le_trans HBL.out HXZ.out))
              have hgB : g < B := by have := HLB.out; omega
              have fc : ∀ w', Below B w w' → w'.cell? ⟨g, o + j * 7 + 1, none⟩ = some (.int .i64 m.color) ∧ w'.cell? ⟨g, o + j * 7 + 2, none⟩ = some (.int .i64 m.x) ∧ w'.cell? ⟨g, o + j * 7 + 3, none⟩ = some (.int .i64 m.y) ∧ w'.cell? ⟨g, o + j * 7 + 4, none⟩ = some (.int .i64 m.w) ∧ w'.cell? ⟨g, o + j * 7 + 5, none⟩ = some (.int .i64 m.h) ∧ w'.cell? ⟨g, o + j * 7 + 6, none⟩ = some (.string m.t) := fun w' hbw => by
                obtain ⟨d0, d1, d2, d3, d4, d5, d6⟩ := mc_cells hc hm
                have l := fun {q u} (e : w.cell? ⟨g, q, none⟩ = some u) => (hbw.cell (p := ⟨g, q, none⟩) hgB).trans e
                exact ⟨l d1, l d2, l d3, l d4, l d5, l d6⟩
              have FC := Lib.hid fc
              have HPX : Hid (pxl (L.take (j + 1)) (mid x) (mid y) = stepM (mid x) (mid y) (pxl (L.take j) (mid x) (mid y)) m) := pxl_take L j m _ _ hm
              obtain ⟨d1, d2, d3, d4, d5, d6⟩ := fc _ HBW.out
              have hgr : g < wr.heap.size := by have := HBI.out.size; have := HXZ.out; have := HBL.out; omega
              clear hc hm fc hg
              obtain ⟨nd, cr, mx, my, mw, mh, mt⟩ := m
              simp only at d1 d2 d3 d4 d5 d6 FC
              obtain ⟨b1, b2, b3, b4, b5, b6, b7, b8⟩ := hb
              simp only at b1 b2 b3 b4 b5 b6 b7 b8
              have hji : ¬ (j : Int) < 0 := by omega
              by_cases hte : mt.toList.isEmpty = true
              · have HI0 : Hid (insR mx my mw mh ((x : Int) * 64 + 32) ((y : Int) * 64 + 32) = insM ⟨nd, cr, mx, my, mw, mh, mt⟩ (mid x) (mid y)) := insR_M ⟨nd, cr, mx, my, mw, mh, mt⟩ my mh _ _ (by unfold topM; simp [hte]) (by show my + mh = my + mh; omega)
                rcases hin : insM ⟨nd, cr, mx, my, mw, mh, mt⟩ (mid x) (mid y)
                · have HI : Hid (insR mx my mw mh ((x : Int) * 64 + 32) ((y : Int) * 64 + 32) = false) := HI0.out.trans hin
                  have HIN := Lib.hid hin
                  clear hin HI0
                  go_wp2_with (go_at_call 58; refine (c_Inside mx my mw mh _ _ _ (by omega) (by omega) (by omega) (by omega)).mono ?_; rw [HI.out]; rintro e w4 ⟨rfl, hb4⟩; have HB4 := Lib.hid hb4; clear hb4)
                  go_roundw
                  case rel => exact ⟨j, by omega, rfl, by go_num, by rw [HP.out, HPX.out, stepM, HIN.out]; rfl, bl_trans (bl_alloc HBI.out _) HB4.out⟩
                  case measure => first | (simp [intOf]; done) | (simp [intOf]; omega)
                · have HI : Hid (insR mx my mw mh ((x : Int) * 64 + 32) ((y : Int) * 64 + 32) = true) := HI0.out.trans hin
                  have HV : Hid (F y x = cr) := by rw [HP.out, HPX.out, stepM, hin]; rfl
                  clear hin HI0
                  go_wp2_with (first | (at_builtin; refine wp_push rfl _ _ 28 rfl lr 3 Try.underlying28 infI rfl (by decide) w4 u9 x (vI x (F y)) [.int .i64 cr] rfl rfl rfl OW4.out rfl (by simp [Value.oneCell']) (by omega) (by omega) (by omega) ?_; intro v5 w5 hpush; have HPU := Lib.hid hpush; clear hpush) | (go_at_call 58; refine (c_Inside mx my mw mh _ _ _ (by omega) (by omega) (by omega) (by omega)).mono ?_; rw [HI.out]; rintro e w4 ⟨rfl, hb4⟩; have HB4 := Lib.hid hb4; clear hb4; have HBI4 := Lib.hid (bl_trans (bl_alloc HBI.out _) HB4.out); have OW4 := Lib.hid ((Kept.of_below HBI4.out (fun _ => False)).own (by rw [HWX.out]; exact HO.out) (fun _ _ h => h) : w4.ownsRow lr 3 1 u9 x (vI x (F y))); have HBR4 : Hid (Below lr wy w4) := HBX2.out.trans (HBI4.out.mono HXZ.out); have HBW4 : Hid (Below B w w4) := HBWX.out.trans (HBI4.out.mono (Nat.le_trans HBL.out HXZ.out)); obtain ⟨d1, d2, d3, d4, d5, d6⟩ := FC.out _ HBW4.out; have hlr4 : lr ≤ w4.heap.size := Nat.le_trans HXZ.out HBI4.out.size))
                  go_roundw
                  case rel => exact ⟨x + 1, by omega, by go_num, by (have := HPU.out.own; rw [vI_succ, HV.out]; exact this), HPU.out.below HBR4.out (Nat.le_refl _) (by omega)⟩
                  case measure => first | (simp [intOf]; done) | (simp [intOf]; omega)
              · have hte2 : mt.toList.isEmpty = false := by simpa using hte
                have HI0 : Hid (insR mx (my + mh / 2) mw (mh - mh / 2) ((x : Int) * 64 + 32) ((y : Int) * 64 + 32) = insM ⟨nd, cr, mx, my, mw, mh, mt⟩ (mid x) (mid y)) := insR_M ⟨nd, cr, mx, my, mw, mh, mt⟩ (my + mh / 2) (mh - mh / 2) _ _ (by unfold topM; simp [hte2]) (by show (my + mh / 2) + (mh - mh / 2) = my + mh; omega)
                rcases hin : insM ⟨nd, cr, mx, my, mw, mh, mt⟩ (mid x) (mid y)
                · have HI : Hid (insR mx (my + mh / 2) mw (mh - mh / 2) ((x : Int) * 64 + 32) ((y : Int) * 64 + 32) = false) := HI0.out.trans hin
                  have HIN := Lib.hid hin
                  clear hin HI0
                  go_wp2_with (first | (go_at_call 57; refine (c_Down _ _ _ (by omega) (by omega) (by omega)).mono ?_; rintro e w' ⟨rfl, rfl⟩) | (go_at_call 58; refine (c_Inside mx (my + mh / 2) mw (mh - mh / 2) _ _ _ (by omega) (by omega) (by omega) (by omega)).mono ?_; rw [HI.out]; rintro e w4 ⟨rfl, hb4⟩; have HB4 := Lib.hid hb4; clear hb4))
                  go_roundw
                  case rel => exact ⟨j, by omega, rfl, by go_num, by rw [HP.out, HPX.out, stepM, HIN.out]; rfl, bl_trans (bl_alloc HBI.out _) HB4.out⟩
                  case measure => first | (simp [intOf]; done) | (simp [intOf]; omega)
                · have HI : Hid (insR mx (my + mh / 2) mw (mh - mh / 2) ((x : Int) * 64 + 32) ((y : Int) * 64 + 32) = true) := HI0.out.trans hin
                  have HV : Hid (F y x = cr) := by rw [HP.out, HPX.out, stepM, hin]; rfl
                  clear hin HI0
                  go_wp2_with (first | (at_builtin; refine wp_push rfl _ _ 28 rfl lr 3 Try.underlying28 infI rfl (by decide) w4 u9 x (vI x (F y)) [.int .i64 cr] rfl rfl rfl OW4.out rfl (by simp [Value.oneCell']) (by omega) (by omega) (by omega) ?_; intro v5 w5 hpush; have HPU := Lib.hid hpush; clear hpush) | (go_at_call 57; refine (c_Down _ _ _ (by omega) (by omega) (by omega)).mono ?_; rintro e w' ⟨rfl, rfl⟩) | (go_at_call 58; refine (c_Inside mx (my + mh / 2) mw (mh - mh / 2) _ _ _ (by omega) (by omega) (by omega) (by omega)).mono ?_; rw [HI.out]; rintro e w4 ⟨rfl, hb4⟩; have HB4 := Lib.hid hb4; clear hb4; have HBI4 := Lib.hid (bl_trans (bl_alloc HBI.out _) HB4.out); have OW4 := Lib.hid ((Kept.of_below HBI4.out (fun _ => False)).own (by rw [HWX.out]; exact HO.out) (fun _ _ h => h) : w4.ownsRow lr 3 1 u9 x (vI x (F y))); have HBR4 : Hid (Below lr wy w4) := HBX2.out.trans (HBI4.out.mono HXZ.out); have HBW4 : Hid (Below B w w4) := HBWX.out.trans (HBI4.out.mono (Nat.le_trans HBL.out HXZ.out)); obtain ⟨d1, d2, d3, d4, d5, d6⟩ := FC.out _ HBW4.out; have hlr4 : lr ≤ w4.heap.size := Nat.le_trans HXZ.out HBI4.out.size))
                  go_roundw
                  case rel => exact ⟨x + 1, by omega, by go_num, by (have := HPU.out.own; rw [vI_succ, HV.out]; exact this), HPU.out.below HBR4.out (Nat.le_refl _) (by omega)⟩
                  case measure => first | (simp [intOf]; done) | (simp [intOf]; omega)
        · obtain rfl : x = W := by omega
          have hik2 : ¬ (x : Int) < (x : Int) := by omega
          have HMX := Lib.hid (HMY.out.below (by rw [HYL.out]; exact HBX.out))
          have HOB := Lib.hid (own_base HO.out HBL.out)
          have HSP : Hid (Sep u7 u9) := fun k h1 h2 => by
            have e1 := (own_lt HMY.out.own h1).2
            have e2 := (own_lt HO.out h2).1
            have e3 := HYL.out
            omega
          have HBW : Hid (Below B w wr) := HBY.out.trans (HBX.out.mono HBL.out)
          have hBr : B ≤ wr.heap.size := Nat.le_trans HBL.out hlrs.out
          obtain ⟨_, Au, cu, hu, _⟩ := RdS.of_own HO.out
          have HUE := Lib.hid hu
          subst hu
          go_wp2_with (at_builtin; refine wp_push rfl _ _ 38 rfl B 28 Try.underlying38 infS rfl (by decide) wr u7 y vs [.slice Au x cu] rfl rfl rfl HMX.out.own rfl (by simp [Value.oneCell']) (by omega) (by omega) hBr ?_; intro v5 w5 hpush; have HPU := Lib.hid hpush; clear hpush)
          go_roundw
          case rel => exact ⟨y + 1, vs ++ [.slice Au x cu], by omega, by go_num, HMX.out.push HOB.out HSP.out HPU.out, HPU.out.below HBW.out (Nat.le_refl _) hBr, Nat.le_trans hBr HPU.out.size_⟩
          case measure => simp [intOf]; omega
    · obtain rfl : y = H := by omega
      have hik : ¬ (y : Int) < (y : Int) := by omega
      go_wp2_with fail
      go_ret
      exact ⟨u7, rfl, ⟨vs, HM.out⟩, HB.out⟩
end Go.Proofs.Ytnjckpgacbibhaa
