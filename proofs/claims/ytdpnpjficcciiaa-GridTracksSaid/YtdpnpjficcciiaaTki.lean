/- GridTracks: the walk -/
import Derived.Test.YtdpnpjficcciiaaTkg
import Derived.Test.YtdpnpjficcciiaaTkh
namespace Go.Proofs.Ytdpnpjficcciiaa
set_option linter.unusedVariables false
set_option linter.unusedSimpArgs false
open Go.RowKit Go.Cas Go.WideShapes Go.ChangeShapes

theorem cells_TrackQ : Try.prog.cellsOf 42 = 2 := by kernel_rfl
set_option maxRecDepth 100000 in
theorem open_TrackQ {H : Type} {enc : TypeId × Value → H} {b0 base : Nat} {r : Reach} {spare : Nat → Bool} {held : Bool} {d : DataW H} {p : List MemPlace} {v : Value} {w : World}
    (hv : Value.okWide Try.prog w r b0 36 v) (h : DataW.Trod enc Try.prog w base spare held 36 v d p) :
    ∃ (n : Nat) (L : List Tr), L.length = n ∧ n ≤ maxLen ∧ RdS w w.heap.size 2 v n (L.flatMap tr) := by
  obtain ⟨n, L, h1, h2, h3, _⟩ := open_rows tr (fun _ => True) 2 (fun _ => rfl) (by omega) Try.underlying36 cells_TrackQ (fun m cs y hl hf' => by
    match cs, hl with
    | [c0, c1], _ =>
      obtain ⟨x0, e0, _⟩ := field_int (k := .i64) Try.underlying42 (by kernel_rfl) hf' rfl (i := 0) rfl Try.underlying3
      obtain ⟨x1, e1, _⟩ := field_int (k := .i64) Try.underlying42 (by kernel_rfl) hf' rfl (i := 1) rfl Try.underlying3
      simp only [List.getElem?_cons_zero, List.getElem?_cons_succ, Option.some.injEq] at e0 e1
      subst e0 e1
      exact ⟨⟨x0, x1⟩, rfl, trivial⟩) hv h
  exact ⟨n, L, h1, h2, h3⟩
theorem cells_NeedQ : Try.prog.cellsOf 45 = 3 := by kernel_rfl
set_option maxRecDepth 100000 in
theorem open_NeedQ {H : Type} {enc : TypeId × Value → H} {b0 base : Nat} {r : Reach} {spare : Nat → Bool} {held : Bool} {d : DataW H} {p : List MemPlace} {v : Value} {w : World}
    (hv : Value.okWide Try.prog w r b0 37 v) (h : DataW.Trod enc Try.prog w base spare held 37 v d p) :
    ∃ (n : Nat) (L : List Nd), L.length = n ∧ n ≤ maxLen ∧ RdS w w.heap.size 3 v n (L.flatMap nd) := by
  obtain ⟨n, L, h1, h2, h3, _⟩ := open_rows nd (fun _ => True) 3 (fun _ => rfl) (by omega) Try.underlying37 cells_NeedQ (fun m cs y hl hf' => by
    match cs, hl with
    | [c0, c1, c2], _ =>
      obtain ⟨x0, e0, _⟩ := field_int (k := .i64) Try.underlying45 (by kernel_rfl) hf' rfl (i := 0) rfl Try.underlying3
      obtain ⟨x1, e1, _⟩ := field_int (k := .i64) Try.underlying45 (by kernel_rfl) hf' rfl (i := 1) rfl Try.underlying3
      obtain ⟨x2, e2, _⟩ := field_int (k := .i64) Try.underlying45 (by kernel_rfl) hf' rfl (i := 2) rfl Try.underlying3
      simp only [List.getElem?_cons_zero, List.getElem?_cons_succ, Option.some.injEq] at e0 e1 e2
      subst e0 e1 e2
      exact ⟨⟨x0, x1, x2⟩, rfl, trivial⟩) hv h
  exact ⟨n, L, h1, h2, h3⟩
set_option maxHeartbeats 1000000 in
theorem r_same (u v : Value) (xs : List Int) (l1 l2 n m : Nat) (w : World) (hu : RdS w l1 1 u n (xs.map (Value.int .i64))) (hv : RdS w l2 1 v m (xs.map (Value.int .i64))) (hn : n ≤ 100000) : Calls Try.prog 7 #[u, v] w fun e w' => e = .returned (.bool true) ∧ ∃ k, w' = w.drewN k := by
  obtain ⟨hl, A, c, rfl, hnc, hcell⟩ := hu
  obtain ⟨hl2, A2, c2, rfl, hnc2, hcell2⟩ := hv
  have hl' : xs.length = n := by simpa using hl
  have hl2' : xs.length = m := by simpa using hl2
  obtain rfl : n = m := by omega
  have HN := Lib.hid hl'
  have HC := Lib.hid hcell
  have HC2 := Lib.hid hcell2
  clear hcell hl hl' hcell2 hl2 hl2'
  go_enter Try.func7, Try.ntmps7
  go_wp2_with fail
  go_loopw [5] (fun i wr => ∃ (k d : Nat), k ≤ n ∧ wr = w.drewN d ∧ i = .int .i64 k) (fun i _ => n - (intOf i).toNat)
  case atStart => exact ⟨0, 0, by omega, rfl, rfl⟩
  case round =>
    obtain ⟨k, d, hk, rfl, rfl⟩ := hrel
    by_cases hlt : k < n
    · obtain ⟨g, o, rfl, hg, hc⟩ := HC.out (by omega)
      obtain ⟨g2, o2, rfl, hg2, hc2⟩ := HC2.out (by omega)
      have hget : (xs.map (Value.int .i64))[k]? = some (.int .i64 (szA xs k)) := by
        rw [List.getElem?_map, List.getElem?_eq_getElem (by rw [HN.out]; exact hlt), szA_eq (List.getElem?_eq_getElem (by rw [HN.out]; exact hlt))]; rfl
      have hcx := hc k _ hget
      have hcy := hc2 k _ hget
      clear hc hc2 hget
      generalize szA xs k = x at *
      have hi : (k : Int) < (n : Int) := by omega
      go_wp2_with fail
      go_quiet (fail)
      go_wp2_with fail
      go_roundw
      case rel => exact ⟨k + 1, _, by omega, by first | rfl | exact World.drewN_drewN .., by go_num⟩
      case measure => simp [intOf]; omega
    · have hi : ¬ (k : Int) < (n : Int) := by omega
      go_wp2_with fail
      go_ret
      exact ⟨rfl, _, rfl⟩
theorem rd_of_bk {w : World} {g n : Nat} {t : TypeId} {r : List Int} (h : Bk w g t (r.map (Value.int .i64)).toArray) (hl : r.length = n) : RdS w w.heap.size 1 (.slice (some ⟨g, 0, none⟩) n n) n (r.map (Value.int .i64)) := by
  refine ⟨by simp [hl], some ⟨g, 0, none⟩, n, rfl, Nat.le_refl _, fun _ => ⟨g, 0, rfl, h.lt, fun j u hu => ?_⟩⟩
  rw [Nat.zero_add, h.cell]
  simpa using hu
theorem belowV {B : Nat} {a w : World} (h : Below B a w) : Below B a w.drew := ⟨h.os, h.tape, h.output, h.size, h.block⟩
theorem one_trk : trk [⟨3, 1000⟩] [] 7 0 = [7] := by decide +kernel
set_option maxRecDepth 100000 in
set_option maxHeartbeats 16000000 in
theorem W_walkGT (v v2 : Value) (N1 N2 : Nat) (I : List Tr) (J : List Nd) (room gap : Int) (w : World) (hl1 : I.length = N1) (hN1 : N1 ≤ maxLen) (hp1 : RdS w w.heap.size 2 v N1 (I.flatMap tr)) (hl2 : J.length = N2) (hN2 : N2 ≤ maxLen) (hp2 : RdS w w.heap.size 3 v2 N2 (J.flatMap nd)) : Calls Try.prog 5 #[v, v2, .int .i64 room, .int .i64 gap] w fun e w' => e = .returned (.bool true) ∧ Below w.heap.size w w' := by
  have hN63 : (N1 : Int) ≤ 9223372036854775807 := by unfold maxLen at hN1; omega
  have hM63 : (N2 : Int) ≤ 9223372036854775807 := by unfold maxLen at hN2; omega
  have HP1 := Lib.hid hp1; have HP2 := Lib.hid hp2
  obtain ⟨_, A1, c1, rfl, hnc1, _⟩ := hp1
  obtain ⟨_, A2, c2, rfl, hnc2, _⟩ := hp2
  have HL1 := Lib.hid hl1; have HL2 := Lib.hid hl2
  clear hl1 hl2 hN1 hN2
  have HS1 : Hid (∀ W lim A c, RdS W lim 2 (.slice A 1 c) 1 (([⟨3, 1000⟩] : List Tr).flatMap tr) → lim ≤ W.heap.size → Calls Try.prog 12 #[.slice A 1 c, .slice none 0 0, .int .i64 7, .int .i64 0] W (TkRet W [7])) := fun W lim A c hr hlim => by
    rw [← one_trk]
    exact c_Tracks (N := []) hr (RdS.nil W lim 3) hlim (by omega) (by omega)
  have HLIT : Hid (∀ w' : World, RdS (w'.alloc (.cells #[.int .i64 3, .int .i64 1000] 40)) (w'.heap.size + 1) 2 (.slice (some ⟨w'.heap.size, 0, none⟩) 1 1) 1 (([⟨3, 1000⟩] : List Tr).flatMap tr)) := fun w' => by
    refine ⟨rfl, some ⟨w'.heap.size, 0, none⟩, 1, rfl, Nat.le_refl _, fun _ => ⟨w'.heap.size, 0, rfl, by omega, fun j u hu => ?_⟩⟩
    rw [Nat.zero_add, (Bk.new w' 40 #[.int .i64 3, .int .i64 1000]).cell]
    simpa [tr] using hu
  have HAL := Lib.hid (bl_alloc (Below.refl _ w) (.cells #[.int .i64 3, .int .i64 1000] 40))
  go_enter Try.func5, Try.ntmps5
  go_wp2_with fail
  refine (HS1.out _ _ _ _ (HLIT.out w) (by simp)).mono ?_
  rintro e w1 ⟨g1, rfl, hg1, hbk1, hb1⟩
  have HB1 := Lib.hid (bl_trans HAL.out hb1)
  have q1 : w1.cell? ⟨g1, 0, none⟩ = some (.int .i64 7) := by
    rw [hbk1.cell]; rfl
  clear hbk1 hg1 hb1
  by_cases hbig : (N1 : Int) > 60
  · go_wp2_with fail
    go_ret
    exact ⟨rfl, HB1.out⟩
  · by_cases hbig2 : (N2 : Int) > 60
    · go_wp2_with fail
      go_ret
      exact ⟨rfl, HB1.out⟩
    · have hn1 : N1 ≤ 60 := by omega
      have hn2 : N2 ≤ 60 := by omega
      have hz1 : w.heap.size ≤ w1.heap.size := HB1.out.size
      have HTS : Hid (TS w1 (.slice none 0 0) (.slice none 0 0) (I.take 0) (J.take 0) w1) := ⟨World.ownsRow_nil _ _ _ _, World.ownsRow_nil _ _ _ _, Sep.none_r _, Below.refl _ _⟩
      go_wp2_with fail
      clear q1
      go_loopw [10, 11] (fun lv i wr => ∃ (k : Nat), k ≤ N1 ∧ i = .int .i64 k ∧ Hid (TS w1 lv (.slice none 0 0) (I.take k) (J.take 0) wr)) (fun _ i _ => N1 - (intOf i).toNat)
      case atStart => exact ⟨0, by omega, rfl, HTS.out⟩
      case round =>
        clear HTS
        obtain ⟨k, hk, rfl, HT⟩ := hrel
        have HBW : Hid (Below w.heap.size w wr) := HB1.out.trans (HT.out.bel.mono hz1)
        by_cases hlt : k < N1
        · skip
          have hik : (k : Int) < (N1 : Int) := by omega
          have hx : I[k]? = some (trA I k) := trA_get (by rw [HL1.out]; exact hlt)
          have HTK : Hid (I.take (k + 1) = I.take k ++ [trA I k]) := by
            have h1 : k < I.length := by rw [HL1.out]; exact hlt
            unfold Hid
            rw [List.take_succ_eq_append_getElem h1, trA_eq (List.getElem?_eq_getElem h1)]
          obtain ⟨g, o, hA, hg, f1⟩ := rd_tr HP1.out hlt
          subst hA
          have hkl : (I.take k).length = k := by rw [List.length_take, HL1.out]; omega
          have HKL := Lib.hid hkl
          have hbw := HT.out.bel.size
          have HW1 := Lib.hid hz1
          have HZW : Hid (w.heap.size ≤ wr.heap.size) := Nat.le_trans hz1 hbw
          clear hx hkl
          obtain ⟨x, hx⟩ : ∃ x, x = trA I k := ⟨_, rfl⟩
          rw [← hx] at HTK f1
          clear hx
          obtain ⟨xk, xn⟩ := x
          simp only at f1
          have F1 := Lib.hid f1
          clear f1
          obtain ⟨i0, hi0, hz0, hzz1, hzz2⟩ := info_parts inf_Tr
          obtain ⟨L1, hL1⟩ : ∃ L1, L1 = I.take k := ⟨_, rfl⟩
          rw [← hL1] at HT HTK HKL
          have hl1 : L1.length = k := HKL.out
          have hlb : L1.length ≤ 60 := by omega
          clear hL1 hl1
          go_upto_region 10 with fail
          go_region_held3 (fun w' => w'.cell? ⟨g, o + k * 2, none⟩ = some (.int .i64 xk) ∧ w'.cell? ⟨g, o + k * 2 + 1, none⟩ = some (.int .i64 xn))
            (first
              | exact F1.out _ HBW.out
              | exact F1.out _ (belowV HBW.out)
              | exact F1.out _ (belowV (HBW.out.alloc HZW.out _))
              | exact F1.out _ HB6.out)
            ((refine step_append_lies _ (by rfl) _ _ _ (by rfl) w1.heap.size 40 i0 _ 2 16 Try.underlying41 hi0 hz0 hzz1 hzz2 rfl (by omega) u10 L1.length (L1.flatMap tr) (by rfl) ((HT.out.own.alloc _).drew)
                ⟨wr.heap.size, 0, none⟩ 1 1 [.int .i64 xk, .int .i64 xn] (by rfl) (by rfl) (World.news_of_block (cs := #[.int .i64 xk, .int .i64 xn]) (t := 40) (fr := (0, 0)) (Bk.drew (bk_new' wr 40 #[.int .i64 xk, .int .i64 xn] rfl))) (by simp [Value.oneCell'])
                (by omega) (by unfold maxLen; omega) (by omega) (by simp; omega) (wr.heap.size + 1) (by simp) ?_; intro gg cap w6 hown6 hgrow6 hat6 hlt6; have HPU := Lib.hid (pushed_lies HT.out.own hown6 hgrow6 hat6); have HB6 := Lib.hid (HPU.out.below HBW.out HW1.out (Nat.le_trans HW1.out hbw)); clear hown6 hgrow6 hat6 hlt6))
          obtain ⟨v6, hv6⟩ : ∃ v6, v6 = Value.slice (some ⟨gg, 0, none⟩) (L1.length + 1) cap := ⟨_, rfl⟩
          rw [← hv6] at HPU
          have HT6 : Hid (TS w1 v6 (.slice none 0 0) (I.take (k + 1)) (J.take 0) w6) := by rw [HTK.out]; exact HT.out.pushL ⟨xk, xn⟩ HPU.out
          go_wp2_with fail
          rw [← hv6]
          clear hv6
          go_roundw
          case rel => exact ⟨k + 1, by omega, by go_num, HT6.out⟩
          case measure => simp [intOf]; omega
        · obtain rfl : k = N1 := by omega
          have hik : ¬ (k : Int) < (k : Int) := by omega
          have htk : I.take k = I := List.take_of_length_le (by rw [HL1.out]; exact Nat.le_refl _)
          rw [htk] at HT
          clear htk
          go_wp2_with fail
          go_loopw [12, 13] (fun dv i wr => ∃ (k2 : Nat), k2 ≤ N2 ∧ i = .int .i64 k2 ∧ Hid (TS w1 u10 dv I (J.take k2) wr)) (fun _ i _ => N2 - (intOf i).toNat)
          case atStart => exact ⟨0, by omega, rfl, HT.out⟩
          case round =>
            clear HT HBW
            obtain ⟨k2, hk2, rfl, HT⟩ := hrel
            have HBW : Hid (Below w.heap.size w wr) := HB1.out.trans (HT.out.bel.mono hz1)
            by_cases hlt2 : k2 < N2
            · skip
              have hik2 : (k2 : Int) < (N2 : Int) := by omega
              obtain ⟨x, hx⟩ : ∃ x, J[k2]? = some x := ⟨_, List.getElem?_eq_getElem (by rw [HL2.out]; exact hlt2)⟩
              have HTK : Hid (J.take (k2 + 1) = J.take k2 ++ [x]) := by
                obtain ⟨h1, h2⟩ := List.getElem?_eq_some_iff.1 hx
                unfold Hid
                rw [List.take_succ_eq_append_getElem h1, h2]
              obtain ⟨g, o, hA, hg, f1⟩ := rd_nd HP2.out hx
              subst hA
              have hkl : (J.take k2).length = k2 := by rw [List.length_take, HL2.out]; omega
              have HKL := Lib.hid hkl
              have hbw := HT.out.bel.size
              have HW1 := Lib.hid hz1
              have HZW : Hid (w.heap.size ≤ wr.heap.size) := Nat.le_trans hz1 hbw
              clear hx hkl
              obtain ⟨xf, xs, xz⟩ := x
              simp only at f1
              have F1 := Lib.hid f1
              clear f1
              obtain ⟨i0, hi0, hz0, hzz1, hzz2⟩ := info_parts inf_Nd
              obtain ⟨L1, hL1⟩ : ∃ L1, L1 = J.take k2 := ⟨_, rfl⟩
              rw [← hL1] at HT HTK HKL
              have hl1 : L1.length = k2 := HKL.out
              have hlb : L1.length ≤ 60 := by omega
              clear hL1 hl1
              go_upto_region 15 with fail
              go_region_held3 (fun w' => w'.cell? ⟨g, o + k2 * 3, none⟩ = some (.int .i64 xf) ∧ w'.cell? ⟨g, o + k2 * 3 + 1, none⟩ = some (.int .i64 xs) ∧ w'.cell? ⟨g, o + k2 * 3 + 2, none⟩ = some (.int .i64 xz))
                (first
                  | exact F1.out _ HBW.out
                  | exact F1.out _ (belowV HBW.out)
                  | exact F1.out _ (belowV (HBW.out.alloc HZW.out _))
                  | exact F1.out _ HB6.out)
                ((refine step_append_lies _ (by rfl) _ _ _ (by rfl) w1.heap.size 46 i0 _ 3 24 Try.underlying43 hi0 hz0 hzz1 hzz2 rfl (by omega) u12 L1.length (L1.flatMap nd) (by rfl) ((HT.out.owd.alloc _).drew)
                    ⟨wr.heap.size, 0, none⟩ 1 1 [.int .i64 xf, .int .i64 xs, .int .i64 xz] (by rfl) (by rfl) (World.news_of_block (cs := #[.int .i64 xf, .int .i64 xs, .int .i64 xz]) (t := 46) (fr := (0, 0)) (Bk.drew (bk_new' wr 46 #[.int .i64 xf, .int .i64 xs, .int .i64 xz] rfl))) (by simp [Value.oneCell'])
                    (by omega) (by unfold maxLen; omega) (by omega) (by simp; omega) (wr.heap.size + 1) (by simp) ?_; intro gg cap w6 hown6 hgrow6 hat6 hlt6; have HPU := Lib.hid (pushed_lies HT.out.owd hown6 hgrow6 hat6); have HB6 := Lib.hid (HPU.out.below HBW.out HW1.out (Nat.le_trans HW1.out hbw)); clear hown6 hgrow6 hat6 hlt6))
              obtain ⟨v6, hv6⟩ : ∃ v6, v6 = Value.slice (some ⟨gg, 0, none⟩) (L1.length + 1) cap := ⟨_, rfl⟩
              rw [← hv6] at HPU
              have HT6 : Hid (TS w1 u10 v6 I (J.take (k2 + 1)) w6) := by rw [HTK.out]; exact HT.out.pushD ⟨xf, xs, xz⟩ HPU.out
              go_wp2_with fail
              rw [← hv6]
              clear hv6
              go_roundw
              case rel => exact ⟨k2 + 1, by omega, by go_num, HT6.out⟩
              case measure => simp [intOf]; omega
            · obtain rfl : k2 = N2 := by omega
              have hik2 : ¬ (k2 : Int) < (k2 : Int) := by omega
              have htk : J.take k2 = J := List.take_of_length_le (by rw [HL2.out]; exact Nat.le_refl _)
              rw [htk] at HT
              clear htk
              have hr1 := RdS.of_own HT.out.own
              have hr2 := RdS.of_own HT.out.owd
              rw [HL1.out] at hr1
              rw [HL2.out] at hr2
              obtain ⟨_, B1, d1, hu1, _, _⟩ := hr1
              obtain ⟨_, B2, d2, hu2, _, _⟩ := hr2
              subst hu1
              subst hu2
              have hr1 := RdS.of_own HT.out.own
              have hr2 := RdS.of_own HT.out.owd
              rw [HL1.out] at hr1
              rw [HL2.out] at hr2
              have HC1 := Lib.hid (c_Tracks (room := room) (gap := gap) hr1 hr2 (Nat.le_refl _) (by omega) (by omega))
              have hzr : w.heap.size ≤ wr.heap.size := HBW.out.size
              have HC2 : Hid (∀ W, Below w.heap.size w W → Calls Try.prog 13 #[.slice A1 k c1, .slice A2 k2 c2, .int .i64 room, .int .i64 gap] W (TkRet W (trk I J room gap))) := fun W hb => r_SizeTracks (HP1.out.below hb) (HP2.out.below hb) hb.size (by omega) (by omega)
              have HLE : Hid ((trk I J room gap).length ≤ 219) := by
                have h1 : (trk I J room gap).length = (trkL I (hld room) (ndsK (J.take 200))).length := by
                  unfold trk trkR
                  split
                  · rw [trkO_len]
                  · simp
                unfold Hid
                rw [h1]; exact trkL_len _ _ _
              obtain ⟨RS, hRS⟩ : ∃ RS, RS = trk I J room gap := ⟨_, rfl⟩
              rw [← hRS] at HC1 HC2 HLE
              clear hr1 hr2 hRS
              go_wp2_with fail
              refine HC1.out.mono ?_
              rintro e w2 ⟨g2, rfl, hg2, hbk2, hb2⟩
              have HU2 := Lib.hid (rd_of_bk hbk2 rfl)
              have HB2 : Hid (Below w.heap.size w w2) := HBW.out.trans (hb2.mono hzr)
              clear hg2 hbk2 hb2
              go_wp2_with fail
              refine (HC2.out _ HB2.out).mono ?_
              rintro e w3 ⟨g3, rfl, hg3, hbk3, hb3⟩
              have HU3 := Lib.hid (rd_of_bk hbk3 rfl)
              have HU23 := Lib.hid (HU2.out.below hb3)
              have HB3 : Hid (Below w.heap.size w w3) := HB2.out.trans (hb3.mono HB2.out.size)
              clear hg3 hbk3 hb3
              go_wp2_with fail
              refine (r_same _ _ _ _ _ _ _ _ HU23.out HU3.out (by have := HLE.out; omega)).mono ?_
              rintro e w9 ⟨rfl, k9, rfl⟩
              go_wp2_with fail
              go_ret
              exact ⟨rfl, belowN HB3.out _⟩
set_option maxRecDepth 100000 in
theorem W_gridTracks {H : Type} {enc : TypeId × Value → H} {b0 base b02 base2 : Nat} {r r2 : Reach} {spare spare2 : Nat → Bool} {held held2 : Bool} {d d2 : DataW H} {p p2 : List MemPlace} (v v2 : Value) (room gap : Int) (w : World)
    (hv : Value.okWide Try.prog w r b0 36 v) (hh : DataW.Trod enc Try.prog w base spare held 36 v d p)
    (hv2 : Value.okWide Try.prog w r2 b02 37 v2) (hh2 : DataW.Trod enc Try.prog w base2 spare2 held2 37 v2 d2 p2) (_ : (Lit.int .i64 room).wf = true) (_ : (Lit.int .i64 gap).wf = true) :
    Calls Try.prog 5 #[v, v2, .int .i64 room, .int .i64 gap] w fun e w' => e = .returned (.bool true) ∧ Below w.heap.size w w' := by
  obtain ⟨n, L, h1, h2, h3⟩ := open_TrackQ hv hh
  obtain ⟨n2, L2, h12, h22, h32⟩ := open_NeedQ hv2 hh2
  exact W_walkGT v v2 n n2 L L2 room gap w h1 h2 h3 h12 h22 h32
end Go.Proofs.Ytdpnpjficcciiaa
