/- the picture of marks: two pictures compared -/
import Derived.Test.YtnjckpgacbibhaaPc
import Derived.Test.Ytnjckpgacbibhaaopen2
namespace Go.Proofs.Ytnjckpgacbibhaa
set_option linter.unusedVariables false
set_option linter.unusedSimpArgs false
open Go.RowKit Go.Cas

set_option maxRecDepth 100000 in
set_option maxHeartbeats 8000000 in
theorem c_samePicture (O H W B : Nat) (v : Value) (vs : List Value) (F : Nat → Nat → Int) (w : World) (hm : Mat w 28 3 O H W F) (hr : RMat w B v H W F vs) (lH : H ≤ 64) (lW : W ≤ 64) :
    Calls Try.prog 19 #[.slice (some ⟨O, 0, none⟩) H H, v] w fun e w' => e = .returned (.bool true) ∧ ∃ d, w' = w.drewN d := by
  obtain ⟨_, A, c, rfl, hnc, hcell⟩ := RdS.of_own hr.own
  have HC := Lib.hid hcell
  have HM := Lib.hid hm
  have HR := Lib.hid hr
  clear hcell hm hr
  go_enter Try.func19, Try.ntmps19
  go_wp2_with fail
  go_loopw [5] (fun i wr => ∃ (y d : Nat), y ≤ H ∧ wr = w.drewN d ∧ i = .int .i64 y) (fun i _ => H - (intOf i).toNat)
  case atStart => exact ⟨0, 0, by omega, rfl, rfl⟩
  case round =>
    obtain ⟨y, d, hy, rfl, rfl⟩ := hrel
    by_cases hyH : y < H
    · have hik : (y : Int) < (H : Int) := by omega
      have q1 := HM.out.cellTop hyH
      obtain ⟨g, o, rfl, hg, hc⟩ := HC.out (by omega)
      obtain ⟨u, hu, hou, hsep⟩ := HR.out.row y hyH
      obtain ⟨_, Au, cu, rfl, hnu, huc⟩ := RdS.of_own hou
      have q2 := hc y _ hu
      have HUC := Lib.hid huc
      clear hc hu hou hsep huc
      go_wp2_with fail
      go_quiet (fail)
      go_wp2_with fail
      go_loopw [6] (fun i wr => ∃ (x d : Nat), x ≤ W ∧ wr = w.drewN d ∧ i = .int .i64 x) (fun i _ => W - (intOf i).toNat)
      case atStart => exact ⟨0, _, by omega, by first | rfl | exact World.drewN_drewN .., rfl⟩
      case round =>
        obtain ⟨x, d2, hx, rfl, rfl⟩ := hrel
        by_cases hxW : x < W
        · have hik2 : (x : Int) < (W : Int) := by omega
          obtain ⟨gu, ou, rfl, _, hcu⟩ := HUC.out (by omega)
          have q3 := hcu x _ (vI_get W (F y) x hxW)
          have q4 := HM.out.cellAt hyH hxW
          clear hcu
          go_wp2_with fail
          go_quiet (fail)
          go_wp2_with fail
          go_roundw
          case rel => exact ⟨x + 1, _, by omega, by first | rfl | exact World.drewN_drewN .., by go_num⟩
          case measure => simp [intOf]; omega
        · obtain rfl : x = W := by omega
          have hik2 : ¬ (x : Int) < (x : Int) := by omega
          go_wp2_with fail
          go_roundw
          case rel => exact ⟨y + 1, _, by omega, by first | rfl | exact World.drewN_drewN .., by go_num⟩
          case measure => simp [intOf]; omega
    · obtain rfl : y = H := by omega
      have hik : ¬ (y : Int) < (y : Int) := by omega
      go_wp2_with fail
      go_ret
      exact ⟨rfl, _, rfl⟩
theorem belowQ {B : Nat} {a w : World} (h : Below B a w) : Below B a w.drew := ⟨h.os, h.tape, h.output, h.size, h.block⟩
theorem mcs_len (L : List Mrk) : (L.flatMap mc).length = L.length * 7 := by
  induction L with
  | nil => rfl
  | cons f L ih => rw [List.flatMap_cons, List.length_append, ih]; simp [mc]; omega
theorem inf_Mark : (Try.prog.info? 36).map (fun i => (i.zero, i.size, i.bytes)) = some (some (.agg #[.int .i64 0, .int .i64 0, .int .i64 0, .int .i64 0, .int .i64 0, .int .i64 0, .string ByteArray.empty]), 7, 64) := by kernel_rfl

open Go.WideShapes Go.ChangeShapes in
theorem cellsI : Try.prog.cellsOf 3 = 1 := by kernel_rfl
theorem cellsStr : Try.prog.cellsOf 9 = 1 := by kernel_rfl
theorem cellsRect : Try.prog.cellsOf 33 = 4 := by kernel_rfl
theorem cells_MarkR : Try.prog.cellsOf 35 = 7 := by kernel_rfl
open Go.WideShapes Go.ChangeShapes in
set_option maxRecDepth 100000 in
theorem open_Marks {H : Type} {enc : TypeId × Value → H} {b0 base : Nat} {r : Reach} {spare : Nat → Bool} {held : Bool} {d : DataW H} {p : List MemPlace} {v : Value} {w : World}
    (hv : Value.okWide Try.prog w r b0 30 v) (h : DataW.Trod enc Try.prog w base spare held 30 v d p) :
    ∃ (n : Nat) (L : List Mrk), L.length = n ∧ n ≤ maxLen ∧ RdS w w.heap.size 7 v n (L.flatMap mc) := by
  obtain ⟨n, L, h1, h2, h3, _⟩ := open_rows mc (fun _ => True) 7 (fun _ => rfl) (by omega) Try.underlying30 cells_MarkR (fun m cs y hl hf' => by
    match cs, hl with
    | [c0, c1, c2, c3, c4, c5, c6], _ =>
      obtain ⟨m0, y0, p0⟩ := trod_part Try.underlying35 hf' 0 _ rfl
      obtain ⟨m1, y1, p1⟩ := trod_part Try.underlying35 hf' 1 _ rfl
      obtain ⟨m2, y2, p2⟩ := trod_part Try.underlying35 hf' 2 _ rfl
      obtain ⟨m3, y3, p3⟩ := trod_part Try.underlying35 hf' 3 _ rfl
      replace p0 : DataW.trod enc Try.prog w base spare held m0 3 ((([c0, c1, c2, c3, c4, c5, c6] : List Value).drop 0).take (Try.prog.cellsOf 3)) = some y0 := p0
      rw [cellsI] at p0
      replace p1 : DataW.trod enc Try.prog w base spare held m1 3 ((([c0, c1, c2, c3, c4, c5, c6] : List Value).drop 1).take (Try.prog.cellsOf 3)) = some y1 := p1
      rw [cellsI] at p1
      replace p2 : DataW.trod enc Try.prog w base spare held m2 33 ((([c0, c1, c2, c3, c4, c5, c6] : List Value).drop 2).take (Try.prog.cellsOf 33)) = some y2 := p2
      rw [cellsRect] at p2
      replace p3 : DataW.trod enc Try.prog w base spare held m3 9 ((([c0, c1, c2, c3, c4, c5, c6] : List Value).drop 6).take (Try.prog.cellsOf 9)) = some y3 := p3
      rw [cellsStr] at p3
      obtain ⟨x0, e0, _⟩ := DataW.trod_int Try.underlying3 p0
      obtain ⟨x1, e1, _⟩ := DataW.trod_int Try.underlying3 p1
      obtain ⟨x2, e2, _⟩ := field_int (k := .i64) Try.underlying33 (by kernel_rfl) p2 rfl (i := 0) rfl Try.underlying3
      obtain ⟨x3, e3, _⟩ := field_int (k := .i64) Try.underlying33 (by kernel_rfl) p2 rfl (i := 1) rfl Try.underlying3
      obtain ⟨x4, e4, _⟩ := field_int (k := .i64) Try.underlying33 (by kernel_rfl) p2 rfl (i := 2) rfl Try.underlying3
      obtain ⟨x5, e5, _⟩ := field_int (k := .i64) Try.underlying33 (by kernel_rfl) p2 rfl (i := 3) rfl Try.underlying3
      obtain ⟨x6, e6, _⟩ := DataW.trod_string Try.underlying9 p3
      obtain rfl : c0 = .int .i64 x0 := by simpa using e0
      obtain rfl : c1 = .int .i64 x1 := by simpa using e1
      obtain rfl : c2 = .int .i64 x2 := by simpa using e2
      obtain rfl : c3 = .int .i64 x3 := by simpa using e3
      obtain rfl : c4 = .int .i64 x4 := by simpa using e4
      obtain rfl : c5 = .int .i64 x5 := by simpa using e5
      obtain rfl : c6 = .string x6 := by simpa using e6
      exact ⟨⟨x0, x1, x2, x3, x4, x5, x6⟩, rfl, trivial⟩) hv h
  exact ⟨n, L, h1, h2, h3⟩
set_option maxRecDepth 100000 in
set_option maxHeartbeats 16000000 in
theorem W_walkPic (v : Value) (N : Nat) (L : List Mrk) (wd ht : Int) (w : World) (hl : L.length = N) (hNm : N ≤ maxLen) (hp : RdS w w.heap.size 7 v N (L.flatMap mc)) : Calls Try.prog 4 #[v, .int .i64 wd, .int .i64 ht] w fun e w' => e = .returned (.bool true) ∧ Below w.heap.size w w' := by
  have hN63 : (N : Int) ≤ 9223372036854775807 := by unfold maxLen at hNm; omega
  have HP := Lib.hid hp
  obtain ⟨hl2, A, c, rfl, hnc, hcell⟩ := hp
  have HC := Lib.hid hcell
  have HL := Lib.hid hl
  have HB0 := Lib.hid (Below.refl w.heap.size w)
  obtain ⟨i0, hi0, hz0, hz1, hz2⟩ := info_parts inf_Mark
  clear hcell hl hl2
  by_cases h60 : (N : Int) > 60
  · go_enter Try.func4, Try.ntmps4
    go_wp2_with fail
    go_ret
    exact ⟨rfl, HB0.out⟩
  obtain ⟨B, hBe⟩ : ∃ B, B = w.heap.size := ⟨_, rfl⟩
  have HBE := Lib.hid hBe
  have HBB : Hid (Below B w w) := by rw [hBe]; exact HB0.out
  clear hBe
  go_enter Try.func4, Try.ntmps4
  go_wp2_with fail
  go_loopw [7, 8] (fun o i wr => ∃ (k : Nat), k ≤ N ∧ i = .int .i64 k ∧ Hid (wr.ownsRow B 36 7 o k ((L.take k).flatMap mc)) ∧ Hid (∀ m ∈ L.take k, MB m) ∧ Hid (Below B w wr)) (fun _ i _ => N - (intOf i).toNat)
  case atStart => exact ⟨0, by omega, rfl, World.ownsRow_nil _ _ _ _, fun m hm => by simp at hm, HBB.out⟩
  case round =>
    obtain ⟨k, hk, rfl, HO, HMB, HB⟩ := hrel
    have hBr : Hid (B ≤ wr.heap.size) := by have := HB.out.size; rw [HBE.out]; exact this
    by_cases hlt : k < N
    · have hik : (k : Int) < (N : Int) := by omega
      have hkL : k < L.length := by rw [HL.out]; exact hlt
      obtain ⟨g, o, rfl, hg, hc⟩ := HC.out (by omega)
      obtain ⟨m, hm⟩ : ∃ m, L[k]? = some m := ⟨_, List.getElem?_eq_getElem hkL⟩
      have hgB : g < B := by rw [HBE.out]; exact hg
      have fc : ∀ w', Below B w w' → w'.cell? ⟨g, o + k * 7, none⟩ = some (.int .i64 m.node) ∧ w'.cell? ⟨g, o + k * 7 + 1, none⟩ = some (.int .i64 m.color) ∧ w'.cell? ⟨g, o + k * 7 + 2, none⟩ = some (.int .i64 m.x) ∧ w'.cell? ⟨g, o + k * 7 + 3, none⟩ = some (.int .i64 m.y) ∧ w'.cell? ⟨g, o + k * 7 + 4, none⟩ = some (.int .i64 m.w) ∧ w'.cell? ⟨g, o + k * 7 + 5, none⟩ = some (.int .i64 m.h) ∧ w'.cell? ⟨g, o + k * 7 + 6, none⟩ = some (.string m.t) := fun w' hbw => by
        obtain ⟨d0, d1, d2, d3, d4, d5, d6⟩ := mc_cells hc hm
        have l := fun {q u} (e : w.cell? ⟨g, q, none⟩ = some u) => (hbw.cell (p := ⟨g, q, none⟩) hgB).trans e
        exact ⟨l d0, l d1, l d2, l d3, l d4, l d5, l d6⟩
      have FC := Lib.hid fc
      obtain ⟨d0, d1, d2, d3, d4, d5, d6⟩ := fc _ HB.out
      have HTK : Hid (L.take (k + 1) = L.take k ++ [m]) := by
        obtain ⟨h1, h2⟩ := List.getElem?_eq_some_iff.1 hm
        unfold Hid
        rw [List.take_succ_eq_append_getElem h1, h2]
      have hgr : g < wr.heap.size := by have := hBr.out; omega
      clear hc hm fc hg
      obtain ⟨nd, cr, mx, my, mw, mh, mt⟩ := m
      simp only at d0 d1 d2 d3 d4 d5 d6 FC
      by_cases hb : (mx > 16777216 ∨ mx < -16777216 ∨ my > 16777216 ∨ my < -16777216) ∨ (mw > 16777216 ∨ mw < -16777216 ∨ mh > 16777216 ∨ mh < -16777216)
      · have HBOX : Hid (Below B w (wr.alloc (.cells #[.int .i64 mx, .int .i64 my, .int .i64 mw, .int .i64 mh] 33))) := HB.out.alloc hBr.out _
        go_wp2_with fail
        all_goals first
          | (go_ret
             exact ⟨rfl, by rw [← HBE.out]; exact HBOX.out⟩)
          | (exfalso; omega)
      · have b1 : ¬ mx > 16777216 := by omega
        have b2 : ¬ mx < -16777216 := by omega
        have b3 : ¬ my > 16777216 := by omega
        have b4 : ¬ my < -16777216 := by omega
        have b5 : ¬ mw > 16777216 := by omega
        have b6 : ¬ mw < -16777216 := by omega
        have b7 : ¬ mh > 16777216 := by omega
        have b8 : ¬ mh < -16777216 := by omega
        have HMB1 : Hid (MB ⟨nd, cr, mx, my, mw, mh, mt⟩) := by unfold MB; simp only [Hid]; omega
        clear hb
        go_wp2_with fail
        have HB1 : Hid (Below B w (wr.alloc (.cells #[.int .i64 mx, .int .i64 my, .int .i64 mw, .int .i64 mh] 33))) := HB.out.alloc hBr.out _
        have HK1 : Hid (Bk (wr.alloc (.cells #[.int .i64 mx, .int .i64 my, .int .i64 mw, .int .i64 mh] 33)) wr.heap.size 33 #[.int .i64 mx, .int .i64 my, .int .i64 mw, .int .i64 mh]) := Bk.new _ _ _
        have HZ1 : Hid (B ≤ (wr.alloc (.cells #[.int .i64 mx, .int .i64 my, .int .i64 mw, .int .i64 mh] 33)).heap.size) := by have := hBr.out; simp [Hid]; omega
        have HO1 := Lib.hid (HO.out.alloc (.cells #[.int .i64 mx, .int .i64 my, .int .i64 mw, .int .i64 mh] 33))
        have HNE : Hid (u7.ownBlock ≠ some wr.heap.size) := fun e => by have := (own_lt HO.out e).2; omega
        have F12 : Hid (∀ w', Below B w w' → Bk w' wr.heap.size 33 #[.int .i64 mx, .int .i64 my, .int .i64 mw, .int .i64 mh] → (w'.cell? ⟨g, o + k * 7, none⟩ = some (.int .i64 nd) ∧ w'.cell? ⟨g, o + k * 7 + 1, none⟩ = some (.int .i64 cr) ∧ w'.cell? ⟨g, o + k * 7 + 6, none⟩ = some (.string mt) ∧ w'.cell? ⟨wr.heap.size, 0, none⟩ = some (.int .i64 mx) ∧ w'.cell? ⟨wr.heap.size, 1, none⟩ = some (.int .i64 my) ∧ w'.cell? ⟨wr.heap.size, 2, none⟩ = some (.int .i64 mw) ∧ w'.cell? ⟨wr.heap.size, 3, none⟩ = some (.int .i64 mh))) := fun w' h1 h2 => by
          obtain ⟨e0, e1, e2, e3, e4, e5, e6⟩ := FC.out w' h1
          have e := h2.cell
          exact ⟨e0, e1, e6, by rw [e]; rfl, by rw [e]; rfl, by rw [e]; rfl, by rw [e]; rfl⟩
        have hk60 : k < 60 := by omega
        go_region_held3 (fun w' => w'.cell? ⟨g, o + k * 7, none⟩ = some (.int .i64 nd) ∧ w'.cell? ⟨g, o + k * 7 + 1, none⟩ = some (.int .i64 cr) ∧ w'.cell? ⟨g, o + k * 7 + 6, none⟩ = some (.string mt) ∧ w'.cell? ⟨wr.heap.size, 0, none⟩ = some (.int .i64 mx) ∧ w'.cell? ⟨wr.heap.size, 1, none⟩ = some (.int .i64 my) ∧ w'.cell? ⟨wr.heap.size, 2, none⟩ = some (.int .i64 mw) ∧ w'.cell? ⟨wr.heap.size, 3, none⟩ = some (.int .i64 mh))
          (first
            | exact F12.out _ HB1.out HK1.out
            | exact F12.out _ (belowQ HB1.out) (Bk.drew HK1.out)
            | exact F12.out _ (belowQ (HB1.out.alloc HZ1.out _)) (Bk.drew (HK1.out.alloc _))
            | exact F12.out _ HB5.out HK5.out)
          ((refine step_append_lies _ (by rfl) _ _ _ (by rfl) B 36 i0 _ 7 64 Try.underlying31 hi0 hz0 hz1 hz2 rfl (by omega) u7 k ((L.take k).flatMap mc) (by rfl) ((HO1.out.alloc _).drew)
              ⟨wr.heap.size + 1, 0, none⟩ 1 1 [.int .i64 nd, .int .i64 cr, .int .i64 mx, .int .i64 my, .int .i64 mw, .int .i64 mh, .string mt] (by rfl) (by rfl) (World.news_of_block (cs := #[.int .i64 nd, .int .i64 cr, .int .i64 mx, .int .i64 my, .int .i64 mw, .int .i64 mh, .string mt]) (t := 36) (fr := (0, 0)) (Bk.drew (bk_new' (wr.alloc (.cells #[.int .i64 mx, .int .i64 my, .int .i64 mw, .int .i64 mh] 33)) 36 #[.int .i64 nd, .int .i64 cr, .int .i64 mx, .int .i64 my, .int .i64 mw, .int .i64 mh, .string mt] (by simp)))) (by simp [Value.oneCell'])
              (by omega) (by unfold maxLen; omega) (by omega) (by have := hBr.out; simp; omega) (wr.heap.size + 2) (by simp) ?_; intro gg cap w5 hown5 hgrow5 hat5 hlt5; have HB5 := Lib.hid ((belowQ (HB1.out.alloc HZ1.out _)).grown hgrow5 (by have := hBr.out; simp; omega) (fun k hk => (own_lt HO.out hk).1)); have HK5 := Lib.hid ((Bk.drew (HK1.out.alloc _)).grown hgrow5 (Ne.symm HNE.out)); have HW5 := Lib.hid hown5; clear hown5))
        go_wp2_with fail
        go_roundw
        case rel =>
          refine ⟨k + 1, by omega, by go_num, ?_, ?_, HB5.out⟩
          · have := HW5.out
            rw [HTK.out, List.flatMap_append]
            exact this
          · intro q hq
            rw [HTK.out] at hq
            rcases List.mem_append.1 hq with hq | hq
            · exact HMB.out q hq
            · rw [List.mem_singleton] at hq; subst hq; exact HMB1.out
        case measure => simp [intOf]; omega
    · obtain rfl : k = N := by omega
      have hik : ¬ (k : Int) < (k : Int) := by omega
      have htk : L.take k = L := List.take_of_length_le (by rw [HL.out]; omega)
      rw [htk] at HO HMB
      have hk60 : k ≤ 60 := by omega
      clear htk
      go_wp2_with fail
      refine (c_Picture u7 k _ L wd ht _ (RdS.of_own HO.out) HL.out (Nat.le_refl _) (by omega) HMB.out).mono ?_
      rintro e w1 ⟨rfl, hm1, hb1⟩
      have HM1 := Lib.hid hm1
      have HB1 : Hid (Below B w w1) := HB.out.trans (hb1.mono hBr.out)
      have HB1W : Hid (Below w.heap.size w w1) := by rw [← HBE.out]; exact HB1.out
      clear hm1 hb1
      go_wp2_with fail
      refine (c_PictureR _ k w.heap.size L wd ht _ (HP.out.below HB1W.out) HL.out HB1W.out.size (by omega) HMB.out).mono ?_
      rintro e w2 ⟨v2, vs, rfl, hm2, hb2⟩
      have HM2 := Lib.hid hm2
      have HM3 := Lib.hid (HM1.out.below hb2)
      have HB2 := Lib.hid (bl_trans HB1W.out hb2)
      clear hm2 hb2
      go_wp2_with fail
      refine (c_samePicture _ _ _ _ _ _ _ _ HM3.out HM2.out (side_le _) (side_le _)).mono ?_
      rintro e w3 ⟨rfl, d, rfl⟩
      go_wp2_with fail
      go_ret
      exact ⟨rfl, bl_drewN HB2.out _⟩
set_option maxRecDepth 100000 in
theorem W_paintPicture {H : Type} {enc : TypeId × Value → H} {b0 base : Nat} {r : Reach} {spare : Nat → Bool} {held : Bool} {d : DataW H} {p : List MemPlace} (v : Value) (wd ht : Int) (w : World)
    (hv : Value.okWide Try.prog w r b0 30 v) (hh : DataW.Trod enc Try.prog w base spare held 30 v d p) (_ : (Lit.int .i64 wd).wf = true) (_ : (Lit.int .i64 ht).wf = true) :
    Calls Try.prog 4 #[v, .int .i64 wd, .int .i64 ht] w fun e w' => e = .returned (.bool true) ∧ Below w.heap.size w w' := by
  obtain ⟨n, L, h1, h2, h3⟩ := open_Marks hv hh
  exact W_walkPic v n L wd ht w h1 h2 h3
end Go.Proofs.Ytnjckpgacbibhaa
