/- seat C: the reference's SizeTracks -/
import Derived.Test.YtdpnpjficcciiaaTkq
namespace Go.Proofs.Ytdpnpjficcciiaa
set_option linter.unusedVariables false
set_option linter.unusedSimpArgs false
open Go.RowKit Go.Cas

theorem gpS_mx (gap : Int) (n : Nat) : gpS gap n = gap * max 0 ((n : Int) - 1) := by unfold gpS; congr 1; omega
set_option maxRecDepth 100000 in
set_option maxHeartbeats 16000000 in
theorem r_SizeTracks {w : World} {lim m n : Nat} {A A2 : Option Addr} {c c2 : Nat} {L : List Tr} {N : List Nd} {room gap : Int} (hl : RdS w lim 2 (.slice A m c) m (L.flatMap tr)) (hd : RdS w lim 3 (.slice A2 n c2) n (N.flatMap nd)) (hlim : lim ≤ w.heap.size) (hm : m ≤ 1000) (hn : n ≤ 200) :
    Calls Try.prog 13 #[.slice A m c, .slice A2 n c2, .int .i64 room, .int .i64 gap] w (TkRet w (trk L N room gap)) := by
  have HD := Lib.hid hd; have HL := Lib.hid hl
  have hNl : N.length = n := by have := hd.1; rw [nds_len] at this; omega
  have hLl : L.length = m := by have := hl.1; rw [trs_len] at this; omega
  have HTR : Hid (trk L N room gap = trkR (trkL L (hld room) (ndsK N)) (hld room) (hld gap) (ndsK N)) := by unfold Hid trk; rw [List.take_of_length_le (by omega)]
  have HNL := Lib.hid hNl; have HLL := Lib.hid hLl
  have hR := hld_bd room; have hG := hld_bd gap
  have hT219 := trkL_len L (hld room) N
  have HX219 := Lib.hid (extA_len (l := L.take 20) (by rw [List.length_take]; omega))
  have HTL : Hid (trkL L (hld room) (ndsK N) = (extA (L.take 20) (ndsK N)).map (hdT (hld room))) := rfl
  have HKD : Hid (∀ x ∈ trkL L (hld room) (ndsK N), 0 ≤ x.k ∧ x.k ≤ 3 ∧ (hld room < 0 → x.k ≤ 1)) := fun x hx => trkL_kd hx
  have HNB : Hid (∀ x ∈ ndsK N, NB x (trkL L (hld room) (ndsK N)).length) := fun x hx => nds_NB hx
  have HH1 := Lib.hid (r_Held room w)
  have HH2 := Lib.hid (r_Held gap w)
  obtain ⟨res, hres⟩ : ∃ res, res = trk L N room gap := ⟨_, rfl⟩
  rw [← hres] at HTR ⊢
  obtain ⟨R, hRe⟩ : ∃ R, R = hld room := ⟨_, rfl⟩
  obtain ⟨G, hGe⟩ : ∃ G, G = hld gap := ⟨_, rfl⟩
  obtain ⟨T, hTe⟩ : ∃ T, T = trkL L (hld room) (ndsK N) := ⟨_, rfl⟩
  rw [← hTe] at HTR HTL HKD HNB hT219
  rw [← hRe] at HTR HTL HKD HH1 hR
  rw [← hGe] at HTR HH2 hG
  obtain ⟨L0, hL0⟩ : ∃ L0, L0 = L.take 20 := ⟨_, rfl⟩
  rw [← hL0] at HTL HX219
  have HL0 := Lib.hid hL0
  have hml : L0.length = min m 20 := by rw [hL0, List.length_take, hLl, Nat.min_comm]
  have HML0 := Lib.hid hml
  have HTS0 : Hid (TSr w (.slice none 0 0) (.slice none 0 0) (L.take 0) [] w) := ⟨World.ownsRow_nil _ _ _ _, World.ownsRow_nil _ _ _ _, Sep.none_r _, Below.refl _ _⟩
  clear hl hd hNl hLl hres hRe hGe hTe hL0 hml
  go_enter Try.func13, Try.ntmps13
  go_wp2_with fail
  refine HH1.out.mono ?_
  rintro e w' ⟨rfl, rfl⟩
  go_wp2_with fail
  refine HH2.out.mono ?_
  rintro e w' ⟨rfl, rfl⟩
  go_wp2_with fail
  go_loopw [9, 10] (fun lv i wr => ∃ (k : Nat), k ≤ m ∧ k ≤ 20 ∧ i = .int .i64 k ∧ Hid (TSr w lv (.slice none 0 0) (L.take k) [] wr)) (fun _ i _ => m - (intOf i).toNat)
  case atStart => exact ⟨0, by omega, by omega, rfl, HTS0.out⟩
  case round =>
    clear HTS0
    obtain ⟨k, hk, hk20, rfl, HT⟩ := hrel
    go_upto_region 5 with fail
    rename World => wk
    go_cut [36] (fun s wx => s = .bool (decide (k < m ∧ k < 20)) ∧ wx = wk)
    case first =>
      by_cases c1 : k < m
      · have c1i : (k : Int) < (m : Int) := by omega
        by_cases c2 : k < 20
        · have c2i : (k : Int) < 20 := by omega
          have HB1 : Hid (decide (k < m ∧ k < 20) = true) := decide_eq_true ⟨c1, c2⟩
          go_wp2_with fail
          go_meet
          case rel => exact ⟨by rw [HB1.out], rfl⟩
        · have c2i : ¬ (k : Int) < 20 := by omega
          have HB1 : Hid (decide (k < m ∧ k < 20) = false) := decide_eq_false (by omega)
          go_wp2_with fail
          go_meet
          case rel => exact ⟨by rw [HB1.out], rfl⟩
      · have c1i : ¬ (k : Int) < (m : Int) := by omega
        have HB1 : Hid (decide (k < m ∧ k < 20) = false) := decide_eq_false (by omega)
        go_wp2_with fail
        go_meet
        case rel => exact ⟨by rw [HB1.out], rfl⟩
    case rest =>
    obtain ⟨rfl, rfl⟩ := hcut
    by_cases hlt : k < m ∧ k < 20
    · skip
      have hdc : decide (k < m ∧ k < 20) = true := decide_eq_true hlt
      have hik : (k : Int) < (m : Int) := by omega
      have hx : L[k]? = some (trA L k) := trA_get (by rw [HLL.out]; exact hlt.1)
      have HTK : Hid (L.take (k + 1) = L.take k ++ [trA L k]) := by
        have h1 : k < L.length := by rw [HLL.out]; exact hlt.1
        unfold Hid
        rw [List.take_succ_eq_append_getElem h1, trA_eq (List.getElem?_eq_getElem h1)]
      obtain ⟨g, o, hA, hg, f1⟩ := rd_tr HL.out hlt.1
      obtain ⟨d0, d1⟩ := f1 wc (HT.out.bel.mono hlim)
      subst hA
      clear hx f1 hg
      obtain ⟨x, hx⟩ : ∃ x, x = trA L k := ⟨_, rfl⟩
      rw [← hx] at d0 d1 HTK
      clear hx
      obtain ⟨xk, xn⟩ := x
      simp only at d0 d1
      have hkl : (L.take k).length = k := by rw [List.length_take, HLL.out]; omega
      have HOW : Hid (wc.ownsRow w.heap.size 42 2 u9 k ((L.take k).flatMap tr)) := by have := HT.out.own; rw [hkl] at this; exact this
      have HKL := Lib.hid hkl
      have hbw := HT.out.bel.size
      clear hkl
      go_wp2_with (at_builtin; refine wp_push rfl _ _ 36 rfl w.heap.size 42 Try.underlying36 inf_TrR rfl (by decide) wc u9 k ((L.take k).flatMap tr) [.int .i64 xk, .int .i64 xn] rfl rfl rfl HOW.out rfl (by simp [Value.oneCell']) (by omega) (by omega) hbw ?_; intro v5 w5 hpush; have HPU := Lib.hid hpush; clear hpush)
      go_roundw
      case rel =>
        refine ⟨k + 1, by omega, by omega, by go_num, ?_⟩
        rw [HTK.out]
        exact HT.out.pushL ⟨xk, xn⟩ (by rw [HKL.out]; exact HPU.out)
      case measure => simp [intOf]; omega
    · have hdc : decide (k < m ∧ k < 20) = false := decide_eq_false hlt
      have HLK : Hid (L.take k = L0) := by
        unfold Hid
        rw [HL0.out]
        by_cases h20 : k = 20
        · rw [h20]
        · rw [List.take_of_length_le (by rw [HLL.out]; omega), List.take_of_length_le (by rw [HLL.out]; omega)]
      have HTS : Hid (TSr w u9 (.slice none 0 0) L0 [] wc) := by rw [← HLK.out]; exact HT.out
      have HE0 : Hid (extA L0 (ndsK (N.take 0)) = L0) := rfl
      clear HT HLK HL
      go_wp2_with fail
      clear hdc
      go_loopw [9, 11, 12] (fun lv dv i wr => ∃ (k : Nat) (Lk : List Tr) (Dk : List Nd), k ≤ n ∧ i = .int .i64 k ∧ Hid (Dk = ndsK (N.take k)) ∧ Hid (Lk = extA L0 Dk) ∧ Hid (TSr w lv dv Lk (Dk.map decN) wr)) (fun _ _ i _ => n - (intOf i).toNat)
      case atStart => exact ⟨0, L0, [], by omega, rfl, rfl, HE0.out.symm, HTS.out⟩
      case round =>
        clear HTS hlt
        obtain ⟨k, Lk, Dk, hk, rfl, HDE, HLE, HT⟩ := hrel
        by_cases hlt : k < n
        · skip
          as_aux_lemma =>
            have hik : (k : Int) < (n : Int) := by omega
            have hik2 : (k : Int) < 200 := by omega
            obtain ⟨x, hx⟩ : ∃ x, N[k]? = some x := ⟨_, List.getElem?_eq_getElem (by rw [HNL.out]; exact hlt)⟩
            obtain ⟨g, o, hA, hg, f1⟩ := rd_nd HD.out hx
            have hwl : Below lim w wr := HT.out.bel.mono hlim
            obtain ⟨d0, d1, d2⟩ := f1 wr hwl
            have HSTEP : Hid (ndsK (N.take (k + 1)) = if okN x = true then ndsK (N.take k) ++ [hdN x] else ndsK (N.take k)) := ndsK_take hx
            have HXB : Hid (okN x = true → 1 ≤ endN (hdN x) ∧ endN (hdN x) ≤ 219 ∧ (endN (hdN x) : Int) = x.fr + x.sp - 1 ∧ (hdN x) = ⟨x.fr, x.sp, hld x.sz⟩) := fun h => by
              have := of_decide_eq_true h
              have e : (hdN x) = ⟨x.fr, x.sp, hld x.sz⟩ := rfl
              refine ⟨?_, ?_, ?_, e⟩ <;> (rw [e]; unfold endN; simp only; omega)
            subst hA
            clear hx f1 hwl hg
            obtain ⟨xf, xs, xz⟩ := x
            simp only at d0 d1 d2
            have HTX : Hid (TSr w u9 u11 Lk (Dk.map decN) (wr.alloc (.cells #[.int .i64 xf, .int .i64 xs, .int .i64 xz] 45))) := HT.out.below (bl_alloc (Below.refl _ _) _)
            by_cases h1 : xf < 1
            · have HOK : Hid (¬ okN ⟨xf, xs, xz⟩ = true) := by unfold Hid okN; simp; omega
              go_wp2_with fail
              go_roundw
              case rel => exact ⟨k + 1, Lk, Dk, by omega, by go_num, by rw [HSTEP.out, if_neg HOK.out]; exact HDE.out, HLE.out, HTX.out⟩
              case measure => simp [intOf]; omega
            · by_cases h2 : 200 < xf
              · have HOK : Hid (¬ okN ⟨xf, xs, xz⟩ = true) := by unfold Hid okN; simp; omega
                go_wp2_with fail
                go_roundw
                case rel => exact ⟨k + 1, Lk, Dk, by omega, by go_num, by rw [HSTEP.out, if_neg HOK.out]; exact HDE.out, HLE.out, HTX.out⟩
                case measure => simp [intOf]; omega
              · by_cases h3 : xs < 1
                · have HOK : Hid (¬ okN ⟨xf, xs, xz⟩ = true) := by unfold Hid okN; simp; omega
                  go_wp2_with fail
                  go_roundw
                  case rel => exact ⟨k + 1, Lk, Dk, by omega, by go_num, by rw [HSTEP.out, if_neg HOK.out]; exact HDE.out, HLE.out, HTX.out⟩
                  case measure => simp [intOf]; omega
                · by_cases h4 : 20 < xs
                  · have HOK : Hid (¬ okN ⟨xf, xs, xz⟩ = true) := by unfold Hid okN; simp; omega
                    go_wp2_with fail
                    go_roundw
                    case rel => exact ⟨k + 1, Lk, Dk, by omega, by go_num, by rw [HSTEP.out, if_neg HOK.out]; exact HDE.out, HLE.out, HTX.out⟩
                    case measure => simp [intOf]; omega
                  · have hok : okN ⟨xf, xs, xz⟩ = true := by unfold okN; simp; omega
                    have HDN : Hid (ndsK (N.take (k + 1)) = Dk ++ [⟨xf, xs, hld xz⟩]) := by unfold Hid; rw [HSTEP.out, if_pos hok, HDE.out]; rfl
                    obtain ⟨E, hE⟩ : ∃ E, E = endN (hdN ⟨xf, xs, xz⟩) := ⟨_, rfl⟩
                    have HEX : Hid (extA L0 (Dk ++ [⟨xf, xs, hld xz⟩]) = ext Lk E) := by unfold Hid; rw [HLE.out, extA_snoc, hE]; rfl
                    have hEb := HXB.out hok
                    rw [← hE] at hEb
                    obtain ⟨e1, e2, e3, _⟩ := hEb
                    simp only at e3
                    clear hE hok HSTEP HXB HTX
                    obtain ⟨Q, hQ⟩ : ∃ Q, Q = wr.heap.size := ⟨_, rfl⟩
                    obtain ⟨wx, hwx⟩ : ∃ wx, wx = wr.alloc (.cells #[.int .i64 xf, .int .i64 xs, .int .i64 xz] 45) := ⟨_, rfl⟩
                    have HQ := Lib.hid hQ; have HWX := Lib.hid hwx
                    have HBX : Hid (Bk wx Q 45 #[.int .i64 xf, .int .i64 xs, .int .i64 xz]) := by rw [hwx]; exact bk_new' _ _ _ hQ
                    have HTX : Hid (TSr w u9 u11 Lk (Dk.map decN) wx) := by rw [hwx]; exact HT.out.below (bl_alloc (Below.refl _ _) _)
                    have F3 : Hid (∀ w', Bk w' Q 45 #[.int .i64 xf, .int .i64 xs, .int .i64 xz] → w'.cell? ⟨Q, 0, none⟩ = some (.int .i64 xf) ∧ w'.cell? ⟨Q, 1, none⟩ = some (.int .i64 xs) ∧ w'.cell? ⟨Q, 2, none⟩ = some (.int .i64 xz)) := fun w' hb => by
                      have e := hb.cell
                      exact ⟨by rw [e]; rfl, by rw [e]; rfl, by rw [e]; rfl⟩
                    have HNQ : Hid (∀ g, u9.ownBlock = some g → g ≠ Q) := fun g hg => by have := (own_lt HT.out.own hg).2; omega
                    have HNQ2 : Hid (∀ g, u11.ownBlock = some g → g ≠ Q) := fun g hg => by have := (own_lt HT.out.owd hg).2; omega
                    have hQx : Q < wx.heap.size := HBX.out.lt
                    have hll : Lk.length ≤ 219 := by rw [HLE.out]; exact (HX219.out Dk (fun y hy => by rw [HDE.out] at hy; have := ndsK_mem hy; omega)).1
                    have HDM : Hid ((Dk ++ [(⟨xf, xs, hld xz⟩ : Nd)]).map decN = Dk.map decN ++ [⟨xf - 1, xs, hld xz⟩]) := by unfold Hid; rw [List.map_append]; rfl
                    have hdl : (Dk.map decN).length ≤ k := by rw [List.length_map, HDE.out]; have := ndsK_len (N.take k); rw [List.length_take] at this; omega
                    obtain ⟨D1, hD1⟩ : ∃ D1, D1 = Dk.map decN := ⟨_, rfl⟩
                    rw [← hD1] at HTX HDM hdl
                    clear hD1
                    clear hQ hwx
                    have v1 : IntKind.i64.wrap (xf - 1) = xf - 1 := IntWalk.i64_in _ (by omega)
                    go_upto_region 14 with fail
                    rw [← HQ.out, ← HWX.out]
                    have hws : w.heap.size ≤ wx.heap.size := HTX.out.bel.size
                    obtain ⟨i0, hi0, hz0, hz1, hz2⟩ := info_parts inf_NdR
                    go_region_held3 (fun w' => w'.cell? ⟨Q, 0, none⟩ = some (.int .i64 xf) ∧ w'.cell? ⟨Q, 1, none⟩ = some (.int .i64 xs) ∧ w'.cell? ⟨Q, 2, none⟩ = some (.int .i64 xz))
                      (first
                        | exact F3.out _ HBX.out
                        | exact F3.out _ (Bk.drew HBX.out)
                        | exact F3.out _ (Bk.drew (HBX.out.alloc _))
                        | exact F3.out _ HBK6.out)
                      (first
                        | (go_at_call 22; refine (r_Held _ _).mono ?_; rintro e w' ⟨rfl, rfl⟩)
                        | ((refine step_append_lies _ (by rfl) _ _ _ (by rfl) w.heap.size 45 i0 _ 3 24 Try.underlying37 hi0 hz0 hz1 hz2 rfl (by omega) u11 D1.length (D1.flatMap nd) (by rfl) ((HTX.out.owd.alloc _).drew)
                              ⟨wx.heap.size, 0, none⟩ 1 1 [.int .i64 (xf - 1), .int .i64 xs, .int .i64 (hld xz)] (by rfl) (by rfl) (World.news_of_block (cs := #[.int .i64 (xf - 1), .int .i64 xs, .int .i64 (hld xz)]) (t := 45) (fr := (0, 0)) (Bk.drew (bk_new' wx 45 #[.int .i64 (xf - 1), .int .i64 xs, .int .i64 (hld xz)] rfl))) (by simp [Value.oneCell'])
                              (by omega) (by unfold maxLen; omega) (by omega) (by simp; omega) (wx.heap.size + 1) (by simp) ?_; intro gg cap w6 hown6 hgrow6 hat6 hlt6; have HPU := Lib.hid (pushed_lies HTX.out.owd hown6 hgrow6 hat6); have HBK6 := Lib.hid (HBX.out.grown HPU.out.grown (fun e => HNQ2.out Q e.symm rfl)); clear hown6 hgrow6 hat6 hlt6)))
                    obtain ⟨v6, hv6⟩ : ∃ v6, v6 = Value.slice (some ⟨gg, 0, none⟩) (D1.length + 1) cap := ⟨_, rfl⟩
                    rw [← hv6] at HPU
                    go_wp2_with fail
                    rw [← hv6]
                    have HT6 := Lib.hid (HTX.out.pushD ⟨xf - 1, xs, hld xz⟩ HPU.out)
                    have hQ6 : Q < w6.heap.size := Nat.lt_of_lt_of_le hQx HPU.out.size_
                    clear HPU v1 hi0 hz0 hz1 hz2 hv6
                    go_loopw [9] (fun lv wy => ∃ (Ly : List Tr), Ly.length ≤ 219 ∧ Hid (ext Ly E = ext Lk E) ∧ Hid (TSr w lv v6 Ly (D1 ++ [⟨xf - 1, xs, hld xz⟩]) wy) ∧ Hid (Bk wy Q 45 #[.int .i64 xf, .int .i64 xs, .int .i64 xz]) ∧ Hid (∀ g, lv.ownBlock = some g → g ≠ Q) ∧ Q < wy.heap.size) (fun lv _ => match lv with | .slice _ q _ => E - q | _ => 0)
                    case atStart => exact ⟨Lk, hll, rfl, HT6.out, HBK6.out, HNQ.out, hQ6⟩
                    case round =>
                      obtain ⟨Ly, hly, HEY, HTY, HBY, HNY, hQy⟩ := hrel
                      obtain ⟨d0, d1, d2⟩ := F3.out _ HBY.out
                      obtain ⟨_, Ay, cy, hue, hcy, _⟩ := RdS.of_own HTY.out.own
                      have HTY2 := Lib.hid HTY.out
                      obtain ⟨q, hq⟩ : ∃ q, q = Ly.length := ⟨_, rfl⟩
                      have HQL := Lib.hid hq
                      rw [← hq] at hue hcy hly
                      subst hue
                      clear hq HTY
                      by_cases hqe : q < E
                      · have hqi : (q : Int) < xf - 1 + xs := by omega
                        have HEY2 : Hid (ext (Ly ++ [t0]) E = ext Lk E) := by rw [← HEY.out]; exact ext_lt (by rw [← HQL.out]; exact hqe)
                        have HOW : Hid (wr.ownsRow w.heap.size 42 2 (.slice Ay q cy) q (Ly.flatMap tr)) := by have := HTY2.out.own; rw [← HQL.out] at this; exact this
                        have hws2 : w.heap.size ≤ wr.heap.size := HTY2.out.bel.size
                        go_wp2_with (at_builtin; refine wp_push rfl _ _ 36 rfl w.heap.size 42 Try.underlying36 inf_TrR rfl (by decide) wr (.slice Ay q cy) q (Ly.flatMap tr) [.int .i64 0, .int .i64 0] rfl rfl rfl HOW.out rfl (by simp [Value.oneCell']) (by omega) (by omega) hws2 ?_; intro v5 w5 hpush; have HPU := Lib.hid hpush; clear hpush)
                        have HNY2 : Hid (∀ g, v5.ownBlock = some g → g ≠ Q) := fun g hg => by
                          rcases HPU.out.at_ with h | ⟨k', h1, h2⟩
                          · rw [h] at hg; exact HNY.out g hg
                          · rw [h2] at hg; injection hg with hg; omega
                        have HBY2 := Lib.hid (HBY.out.grown HPU.out.grown (fun e => HNY.out Q e.symm rfl))
                        have hQ5 : Q < w5.heap.size := Nat.lt_of_lt_of_le hQy HPU.out.size_
                        have HTY3 : Hid (TSr w v5 v6 (Ly ++ [t0]) (D1 ++ [⟨xf - 1, xs, hld xz⟩]) w5) := HTY2.out.pushL t0 (by rw [← HQL.out]; exact HPU.out)
                        obtain ⟨_, A5, c5, h5, _⟩ := RdS.of_own HPU.out.own
                        subst h5
                        go_roundw
                        case rel => exact ⟨Ly ++ [t0], by rw [List.length_append, ← HQL.out]; simp; omega, HEY2.out, HTY3.out, HBY2.out, HNY2.out, hQ5⟩
                        case measure => simp; omega
                      · have hqi : ¬ (q : Int) < xf - 1 + xs := by omega
                        have HEY3 : Hid (Ly = ext Lk E) := by
                          have h := HEY.out
                          rw [ext_le (show E ≤ Ly.length by rw [← HQL.out]; omega)] at h
                          exact h
                        have HTE := Lib.hid HTY2.out
                        go_wp2_with fail
                        go_roundw
                        case rel =>
                          refine ⟨.slice Ay q cy, v6, .int .i64 ((k : Int) + 1), ⟨k + 1, by omega, by go_num, Ly, Dk ++ [⟨xf, xs, hld xz⟩], Lib.hid HDN.out.symm, Lib.hid (HEY3.out.trans HEX.out.symm), ?_⟩, rfl, rfl, rfl⟩
                          rw [HDM.out]; exact HTE.out
                        case measure => simp [intOf]; omega
        · obtain rfl : k = n := by omega
          have hik : ¬ (k : Int) < (k : Int) := by omega
          have HDK : Hid (Dk = ndsK N) := by unfold Hid; rw [HDE.out, List.take_of_length_le (by rw [HNL.out]; exact Nat.le_refl _)]
          have HTM : Hid (T = Lk.map (hdT R)) := by unfold Hid; rw [HTL.out, HLE.out, HDK.out]
          have hLT : Lk.length = T.length := by rw [HTM.out, List.length_map]
          have hDk : Dk.length ≤ 200 := by rw [HDK.out]; have := ndsK_len N; rw [HNL.out] at this; omega
          rw [← HDK.out] at HTR HNB
          obtain ⟨n3, hn3⟩ : ∃ n3, n3 = T.length := ⟨_, rfl⟩
          have HN3 := Lib.hid hn3
          rw [← hn3] at hT219 hLT
          obtain ⟨_, Al, cl, hue, hcl, _⟩ := RdS.of_own HT.out.own
          rw [hLT] at hue hcl
          obtain ⟨nd', hnd'⟩ : ∃ nd', nd' = Dk.length := ⟨_, rfl⟩
          have HND := Lib.hid hnd'
          obtain ⟨_, Ad, cd, hue2, hcd, _⟩ := RdS.of_own HT.out.owd
          rw [List.length_map, ← hnd'] at hue2 hcd
          rw [← hnd'] at hDk
          have HTT := Lib.hid HT.out
          have HLT := Lib.hid hLT
          subst hue
          subst hue2
          obtain ⟨w1, hm1, HMW⟩ := make_I wr n3 (by omega)
          obtain ⟨go, hgo⟩ : ∃ go, go = wr.heap.size := ⟨_, rfl⟩
          obtain ⟨Bf, hBf⟩ : ∃ Bf, Bf = w1.heap.size := ⟨_, rfl⟩
          have hgoB : go < Bf := by rw [hgo, hBf, HMW.out]; simp
          have HLS : Hid (LSr w (.slice Al n3 cl) (.slice Ad nd' cd) (.slice none 0 0) go Bf Lk (Dk.map decN) (List.replicate n3 0) [] w1) := by
            have hb : Below wr.heap.size wr w1 := by rw [HMW.out]; exact bl_alloc (Below.refl _ _) _
            have h1 := HTT.out.below hb
            refine ⟨h1.own, h1.owd, h1.sep, ?_, World.ownsRow_nil _ _ _ _, h1.bel, fun g hg => ?_, fun g hg => ?_, hgoB, by rw [hgo]; exact HTT.out.bel.size, by omega⟩
            · rw [HMW.out, hgo]
              have e : (rowV n3 fun _ => Value.int .i64 0) = ((List.replicate n3 (0 : Int)).map (Value.int .i64)).toArray := by
                unfold rowV; congr 1
                apply List.ext_getElem?
                intro i
                by_cases hi : i < n3 <;> simp [hi]
              rw [← e]; exact Bk.new _ _ _
            · rw [hgo]; exact (own_lt HTT.out.own hg).2
            · rw [hgo]; exact (own_lt HTT.out.owd hg).2
          rw [← hgo] at hm1
          have hs3 : (n3 : Int) ≤ 219 := by omega
          clear HT HTT hLT hn3 hnd' hgo hBf HTL HX219 HD HH1 HH2 HE0 HL0 HML0
          have HOB0 : Hid (∀ x ∈ Dk, x.sz ≤ 16777216) := fun x hx => (HNB.out x hx).sz.2
          have HDD : Hid ((Dk.map decN).length = nd') := by unfold Hid; rw [List.length_map, HND.out]
          have HO4 : Hid (∀ i, i < n3 → (O4 T R Dk Dk.length)[i]? = some (o4 T R Dk Dk.length i)) := fun i hi => by
            unfold O4
            rw [List.getElem?_map, List.getElem?_range (by rw [← HN3.out]; exact hi)]; rfl
          go_wp2_with fail
          clear hm1
          go_loopw [15] (fun i wr => ∃ (k : Nat) (M : List Tr) (O : List Int), k ≤ n3 ∧ i = .int .i64 k ∧ Hid (M.length = n3) ∧ Hid (O.length = n3) ∧ Hid (∀ i, i < k → M[i]? = T[i]?) ∧ Hid (∀ i, k ≤ i → M[i]? = Lk[i]?) ∧ Hid (∀ i, i < k → O[i]? = (O4 T R Dk Dk.length)[i]?) ∧ Hid (∀ i, k ≤ i → i < n3 → O[i]? = some 0) ∧ Hid (LSr w (.slice Al n3 cl) (.slice Ad nd' cd) (.slice none 0 0) go Bf M (Dk.map decN) O [] wr)) (fun i _ => n3 - (intOf i).toNat)
          case atStart => exact ⟨0, Lk, List.replicate n3 0, by omega, rfl, HLT.out, by simp [Hid], fun i h => by omega, fun _ _ => rfl, fun i h => by omega, fun i _ h => by simp [h], HLS.out⟩
          case round =>
            clear HLS
            obtain ⟨k, M, O, hk, rfl, HML, HOL, HM1, HM2, HO1, HO2, HS⟩ := hrel
            by_cases hlt : k < n3
            · skip
              as_aux_lemma =>
                have hik : (k : Int) < (n3 : Int) := by omega
                obtain ⟨x, hx⟩ : ∃ x, Lk[k]? = some x := ⟨_, List.getElem?_eq_getElem (by rw [HLT.out]; exact hlt)⟩
                have hMk : M[k]? = some x := by rw [HM2.out k (Nat.le_refl _)]; exact hx
                obtain ⟨gl, hA, hgl, fr0, d0, d1⟩ := HS.out.cellsT hMk
                have hTk : T[k]? = some (hdT R x) := by rw [HTM.out, List.getElem?_map, hx]; rfl
                have hkd := HKD.out _ (List.mem_of_getElem? hTk)
                have HST : Hid (LSr w (.slice (some ⟨gl, 0, none⟩) n3 cl) (.slice Ad nd' cd) (.slice none 0 0) go Bf (M.set k ⟨0, x.n⟩) (Dk.map decN) O [] (wr.setCell ⟨gl, k * 2, none⟩ (.int .i64 0))) := by
                  have h := HS.out; rw [hA] at h; exact h.setT hMk 0
                have HTA : Hid (trA T k = hdT R x) := trA_eq hTk
                have HMS : Hid (∀ y, y.n = x.n → y.k = kdT R x.k → (M.set k y)[k]? = T[k]?) := fun y h1 h2 => by
                  rw [List.getElem?_set_self (by rw [HML.out]; exact hlt), hTk]
                  obtain ⟨yk, yn⟩ := y
                  simp only at h1 h2
                  rw [h1, h2]; rfl
                have HMX : Hid (M.set k x = M) := by
                  apply List.ext_getElem?
                  intro i
                  by_cases e : i = k
                  · subst e; rw [List.getElem?_set_self (by rw [HML.out]; exact hlt), hMk]
                  · rw [List.getElem?_set_ne (Ne.symm e)]
                have hkd2 : (hdT R x).k = kdT R x.k := rfl
                rw [hkd2] at hkd
                subst hA
                clear hx hMk hTk hkd2
                obtain ⟨tk, tn⟩ := x
                simp only at d0 d1 hkd HST HMS
                obtain ⟨bd, hbd⟩ : ∃ bd, bd = decide (tk < 0 ∨ 3 < tk ∨ (R < 0 ∧ 1 < tk)) := ⟨_, rfl⟩
                have hkdb : kdT R tk = if bd = true then 0 else tk := by rw [hbd]; unfold kdT; simp
                have HBD := Lib.hid hbd
                have HKB := Lib.hid hkdb
                clear hbd hkdb
                go_upto_region 21 with fail
                rename World => wk
                go_cut [137] (fun s wx => s = .bool bd ∧ wx = wk)
                case first =>
                  by_cases c1 : tk < 0
                  · have HB1 : Hid (bd = true) := by unfold Hid; rw [HBD.out]; exact decide_eq_true (.inl c1)
                    go_wp2_with fail
                    go_meet
                    case rel => exact ⟨by rw [HB1.out], rfl⟩
                  · by_cases c2 : 3 < tk
                    · have HB1 : Hid (bd = true) := by unfold Hid; rw [HBD.out]; exact decide_eq_true (.inr (.inl c2))
                      go_wp2_with fail
                      go_meet
                      case rel => exact ⟨by rw [HB1.out], rfl⟩
                    · by_cases c3 : 1 < tk
                      · by_cases c4 : R < 0
                        · have HB1 : Hid (bd = true) := by unfold Hid; rw [HBD.out]; exact decide_eq_true (.inr (.inr ⟨c4, c3⟩))
                          go_wp2_with fail
                          go_meet
                          case rel => exact ⟨by rw [HB1.out], rfl⟩
                        · have HB1 : Hid (bd = false) := by unfold Hid; rw [HBD.out]; exact decide_eq_false (by omega)
                          go_wp2_with fail
                          go_meet
                          case rel => exact ⟨by rw [HB1.out], rfl⟩
                      · have HB1 : Hid (bd = false) := by unfold Hid; rw [HBD.out]; exact decide_eq_false (by omega)
                        go_wp2_with fail
                        go_meet
                        case rel => exact ⟨by rw [HB1.out], rfl⟩
                case rest =>
                obtain ⟨rfl, rfl⟩ := hcut
                obtain ⟨kd, hkd3⟩ : ∃ kd, kd = kdT R tk := ⟨_, rfl⟩
                rw [← hkd3] at hkd HKB HMS
                have HKD3 := Lib.hid hkd3
                clear hkd3
                go_upto_if 137 with fail
                go_cut [138] (fun _ wx => Hid (LSr w (.slice (some ⟨gl, 0, none⟩) n3 cl) (.slice Ad nd' cd) (.slice none 0 0) go Bf (M.set k ⟨kd, tn⟩) (Dk.map decN) O [] wx))
                case first =>
                  cases bd
                  · have HE : Hid ((⟨kd, tn⟩ : Tr) = ⟨tk, tn⟩) := by unfold Hid; rw [HKB.out]; rfl
                    go_wp2_with fail
                    go_meet
                    case rel => rw [HE.out, HMX.out]; exact HS.out
                  · have HE : Hid ((⟨kd, tn⟩ : Tr) = ⟨0, tn⟩) := by unfold Hid; rw [HKB.out]; rfl
                    go_wp2_with fail
                    go_meet
                    case rel => rw [HE.out]; exact HST.out
                case rest =>
                have HS2 := hcut
                have HMK : Hid ((M.set k ⟨kd, tn⟩)[k]? = some ⟨kd, tn⟩) := by unfold Hid; rw [List.getElem?_set_self (by rw [HML.out]; exact hlt)]
                clear HST HS hcut d0 d1 fr0 hgl
                obtain ⟨M2, hM2⟩ : ∃ M2, M2 = M.set k ⟨kd, tn⟩ := ⟨_, rfl⟩
                have HM2E := Lib.hid hM2
                rw [← hM2] at HMK HS2
                clear hM2
                obtain ⟨gl2, hA, hgl, fr0, d0, d1⟩ := HS2.out.cellsT HMK.out
                injection hA with hA
                injection hA with hA
                subst hA
                simp only at d0 d1
                have HML2 : Hid (M2.length = n3) := by unfold Hid; rw [HM2E.out, List.length_set]; exact HML.out
                have HM12 : Hid (∀ i, i < k + 1 → M2[i]? = T[i]?) := fun i hi => by
                  rw [HM2E.out]
                  by_cases e : i = k
                  · subst e; exact HMS.out _ rfl rfl
                  · rw [List.getElem?_set_ne (Ne.symm e)]; exact HM1.out i (by omega)
                have HM22 : Hid (∀ i, k + 1 ≤ i → M2[i]? = Lk[i]?) := fun i hi => by
                  rw [HM2E.out, List.getElem?_set_ne (by omega)]; exact HM2.out i (by omega)
                have HKK : Hid (trA T k = ⟨kd, tn⟩) := by unfold Hid; rw [HTA.out, HKD3.out]; rfl
                have HNEW : Hid (∀ u : Int, u = o4 T R Dk Dk.length k → (∀ i, i < k + 1 → (O.set k u)[i]? = (O4 T R Dk Dk.length)[i]?) ∧ (∀ i, k + 1 ≤ i → i < n3 → (O.set k u)[i]? = some 0) ∧ (O.set k u).length = n3) := fun u hu => by
                  refine ⟨fun i hi => ?_, fun i h1 h2 => ?_, by rw [List.length_set]; exact HOL.out⟩
                  · by_cases e : i = k
                    · subst e; rw [List.getElem?_set_self (by rw [HOL.out]; exact hlt), HO4.out i hlt, hu]
                    · rw [List.getElem?_set_ne (Ne.symm e)]; exact HO1.out i (by omega)
                  · rw [List.getElem?_set_ne (by omega)]; exact HO2.out i (by omega) h2
                have HOX : Hid (O.set k 0 = O) := by
                  apply List.ext_getElem?
                  intro i
                  by_cases e : i = k
                  · subst e; rw [List.getElem?_set_self (by rw [HOL.out]; exact hlt), HO2.out i (Nat.le_refl _) hlt]
                  · rw [List.getElem?_set_ne (Ne.symm e)]
                have hg0 := HS2.out.out.free k
                have hgl0 := HS2.out.out.lt
                have co := HS2.out.cellO (i := k) (by rw [HOL.out]; exact hlt)
                have HSO : Hid (∀ u : Int, LSr w (.slice (some ⟨gl, 0, none⟩) n3 cl) (.slice Ad nd' cd) (.slice none 0 0) go Bf M2 (Dk.map decN) (O.set k u) [] (wc.setCell ⟨go, k, none⟩ (.int .i64 u))) := fun u => HS2.out.setO k u
                have HO4K : Hid (o4 T R Dk Dk.length k = if kd = 0 then m1 Dk k Dk.length else ownT R ⟨kd, tn⟩) := by unfold Hid o4; rw [HKK.out]
                have hne1 : gl ≠ go := Nat.ne_of_lt (HS2.out.lgo gl rfl)
                have hne2 : go ≠ gl := fun e => hne1 e.symm
                clear HM1 HM2 HMS HMX HMK HTA HO1 HO2
                have hk4 : kd = 0 ∨ kd = 1 ∨ kd = 2 ∨ kd = 3 := by omega
                rcases hk4 with rfl | rfl | rfl | rfl
                · skip
                  have HU : Hid (m1 Dk k Dk.length = o4 T R Dk Dk.length k) := by unfold Hid; rw [HO4K.out, if_pos rfl]
                  have HS0 : Hid (LSr w (.slice (some ⟨gl, 0, none⟩) n3 cl) (.slice Ad nd' cd) (.slice none 0 0) go Bf M2 (Dk.map decN) (O.set k (m1 Dk k 0)) [] wc) := by
                    have e : m1 Dk k 0 = 0 := rfl
                    rw [e, HOX.out]; exact HS2.out
                  go_wp2_with fail
                  clear d0 d1 co fr0 hg0 hgl0 hgl
                  rename World => wk
                  go_loopw [16] (fun i wr => ∃ (q : Nat), q ≤ nd' ∧ i = .int .i64 q ∧ Hid (LSr w (.slice (some ⟨gl, 0, none⟩) n3 cl) (.slice Ad nd' cd) (.slice none 0 0) go Bf M2 (Dk.map decN) (O.set k (m1 Dk k q)) [] wr)) (fun i _ => nd' - (intOf i).toNat)
                  case atStart => exact ⟨0, by omega, rfl, HS0.out⟩
                  case round =>
                    obtain ⟨q, hq, rfl, HSQ⟩ := hrel
                    by_cases hltq : q < nd'
                    · have hiq : (q : Int) < (nd' : Int) := by omega
                      obtain ⟨x, hx⟩ : ∃ x, Dk[q]? = some x := ⟨_, List.getElem?_eq_getElem (by rw [← HND.out]; exact hltq)⟩
                      have hxd : (Dk.map decN)[q]? = some (decN x) := by rw [List.getElem?_map, hx]; rfl
                      have hrd := rd_own_lt HSQ.out.owd HSQ.out.dgo
                      rw [HDD.out] at hrd
                      obtain ⟨g, o, hA, hg, f1⟩ := rd_nd hrd hxd
                      have F1 := Lib.hid f1
                      obtain ⟨d0, d1, d2⟩ := f1 wr (Below.refl _ _)
                      have HMS2 : Hid (m1 Dk k (q + 1) = if hitN x k = true then max (m1 Dk k q) x.sz else m1 Dk k q) := m1_succ hx
                      have HHI : Hid (hitN x k = decide ((decN x).fr = (k : Int) ∧ (decN x).sp = 1)) := rfl
                      have HSZ : Hid ((decN x).sz = x.sz) := rfl
                      have co := HSQ.out.cellO (i := k) (by rw [List.length_set, HOL.out]; exact hlt)
                      rw [szA_eq (List.getElem?_set_self (by rw [HOL.out]; exact hlt))] at co
                      have HCO := Lib.hid co
                      have hg0 := HSQ.out.out.free k
                      have hgl0 := HSQ.out.out.lt
                      obtain ⟨y, hy⟩ : ∃ y, y = decN x := ⟨_, rfl⟩
                      rw [← hy] at d0 d1 d2 HHI HSZ F1
                      clear hx hxd hrd f1 hy
                      obtain ⟨yf, ys, yz⟩ := y
                      simp only at d0 d1 d2 HHI HSZ F1
                      subst hA
                      obtain ⟨mq, hmq⟩ : ∃ mq, mq = m1 Dk k q := ⟨_, rfl⟩
                      rw [← hmq] at HMS2 HSQ co HCO
                      have HSET : Hid (∀ u, (O.set k mq).set k u = O.set k u) := fun u => by rw [List.set_set]
                      clear hmq
                      by_cases c1 : yf = (k : Int)
                      · have b1 : (yf == (k : Int)) = true := by simpa using c1
                        have HC1 := Lib.hid c1
                        by_cases c2 : ys = 1
                        · have b2 : (ys == 1) = true := by simpa using c2
                          have HMN : Hid (m1 Dk k (q + 1) = max mq yz) := by
                            unfold Hid
                            rw [HMS2.out, HHI.out, if_pos (decide_eq_true ⟨HC1.out, c2⟩), HSZ.out]
                          clear c1 c2 co
                          go_upto_region 32 with fail
                          refine wp_region_still_tail 13 (by kernel_rfl) (by kernel_rfl) ?_
                          simp only [List.take_succ_cons, List.take_zero, List.drop_succ_cons, List.drop_zero]
                          change wpStill _ _ (World.drew _) _ _ _
                          obtain ⟨wA, hwA⟩ : ∃ wA, wA = wr.drew := ⟨_, rfl⟩
                          have HSA : Hid (LSr w (.slice (some ⟨gl, 0, none⟩) n3 cl) (.slice (some ⟨g, o, none⟩) nd' cd) (.slice none 0 0) go Bf M2 (Dk.map decN) (O.set k mq) [] wA) := by rw [hwA]; exact HSQ.out.below (bl_drew (Below.refl _ _))
                          have ca : wA.cell? ⟨go, k, none⟩ = some (.int .i64 mq) := by rw [hwA]; exact HCO.out
                          have cf : wA.frozen? ⟨go, k, none⟩ = false := HSA.out.out.free k
                          have cl2 := HSA.out.out.lt
                          have e2 : wA.cell? ⟨g, o + q * 3 + 2, none⟩ = some (.int .i64 yz) := (F1.out wA (by rw [hwA]; exact (bl_drew (Below.refl _ _)).mono (Nat.le_of_lt hgl0))).2.2
                          rw [← hwA]
                          have HWA := Lib.hid hwA
                          clear hwA d0 d1 d2 hg0
                          repeat (first | still_step | still_call ((r_most _ _ _).mono fun _ _ h => ⟨h.1, h.2.symm⟩))
                          refine wpStill_nil ?_
                          change wpList _ _ _ _ _ (World.drew _)
                          rw [← HWA.out]
                          go_wp2_with fail
                          go_roundw
                          case rel => exact ⟨q + 1, by omega, by go_num, by rw [HMN.out, ← HSET.out]; exact HSA.out.setO k (max mq yz)⟩
                          case measure => simp [intOf]; omega
                        · have b2 : (ys == 1) = false := by simpa using c2
                          have HMN : Hid (m1 Dk k (q + 1) = mq) := by
                            unfold Hid
                            rw [HMS2.out, HHI.out, if_neg (by simp [c2])]
                          clear c1 c2
                          go_wp2_with fail
                          go_roundw
                          case rel => exact ⟨q + 1, by omega, by go_num, by rw [HMN.out]; exact HSQ.out⟩
                          case measure => simp [intOf]; omega
                      · have b1 : (yf == (k : Int)) = false := by simpa using c1
                        have HMN : Hid (m1 Dk k (q + 1) = mq) := by
                          unfold Hid
                          rw [HMS2.out, HHI.out, if_neg (by simp [c1])]
                        clear c1
                        go_wp2_with fail
                        go_roundw
                        case rel => exact ⟨q + 1, by omega, by go_num, by rw [HMN.out]; exact HSQ.out⟩
                        case measure => simp [intOf]; omega
                    · obtain rfl : q = nd' := by omega
                      have hiq : ¬ (q : Int) < (q : Int) := by omega
                      have HS3 : Hid (LSr w (.slice (some ⟨gl, 0, none⟩) n3 cl) (.slice Ad q cd) (.slice none 0 0) go Bf M2 (Dk.map decN) (O.set k (o4 T R Dk Dk.length k)) [] wr) := by rw [← HU.out, ← HND.out]; exact HSQ.out
                      have HN := Lib.hid (HNEW.out _ rfl)
                      go_wp2_with fail
                      go_roundw
                      case rel => exact ⟨k + 1, M2, _, by omega, by go_num, HML2.out, HN.out.2.2, HM12.out, HM22.out, HN.out.1, HN.out.2.1, HS3.out⟩
                      case measure => simp [intOf]; omega
                · skip
                  have HU : Hid (max (hld tn) 0 = o4 T R Dk Dk.length k) := by unfold Hid; rw [HO4K.out, if_neg (by omega)]; unfold ownT; simp; omega
                  go_wp2_with (first | (go_at_call 22; refine (r_Held _ _).mono ?_; rintro e w' ⟨rfl, rfl⟩) | (go_at_call 34; refine (r_most _ _ _).mono ?_; rintro e w' ⟨rfl, rfl⟩))
                  go_roundw
                  case rel => exact ⟨k + 1, M2, O.set k (max (hld tn) 0), by omega, by go_num, HML2.out, (HNEW.out _ HU.out).2.2, HM12.out, HM22.out, (HNEW.out _ HU.out).1, (HNEW.out _ HU.out).2.1, HSO.out _⟩
                  case measure => simp [intOf]; omega
                · skip
                  have hR0 : 0 ≤ R := by omega
                  have hfc := fac_bd tn
                  have hPb : 0 ≤ R * fac tn ∧ R * fac tn ≤ 16777216 * 1000000000 := ⟨Int.mul_nonneg hR0 hfc.1, Int.mul_le_mul hR.2 hfc.2 hfc.1 (by omega)⟩
                  obtain ⟨PP, hPP⟩ : ∃ PP, PP = R * fac tn := ⟨_, rfl⟩
                  rw [← hPP] at hPb
                  have HU : Hid (PP / 100000 = o4 T R Dk Dk.length k) := by unfold Hid; rw [HO4K.out, if_neg (by omega), hPP]; rfl
                  have v1 : IntKind.i64.wrap (R * fac tn) = PP := by rw [hPP]; exact IntWalk.i64_in _ (by rw [← hPP]; omega)
                  clear hPP
                  go_wp2_with (first | (go_at_call 36; refine (r_factor _ _).mono ?_; rintro e w' ⟨rfl, rfl⟩) | (go_at_call 35; refine (r_Down _ _ (by omega)).mono ?_; rintro e w' ⟨rfl, rfl⟩))
                  go_roundw
                  case rel => exact ⟨k + 1, M2, O.set k (PP / 100000), by omega, by go_num, HML2.out, (HNEW.out _ HU.out).2.2, HM12.out, HM22.out, (HNEW.out _ HU.out).1, (HNEW.out _ HU.out).2.1, HSO.out _⟩
                  case measure => simp [intOf]; omega
                · skip
                  have HU : Hid ((0 : Int) = o4 T R Dk Dk.length k) := by unfold Hid; rw [HO4K.out, if_neg (by omega)]; rfl
                  have HN := Lib.hid (HNEW.out 0 HU.out)
                  rw [HOX.out] at HN
                  go_wp2_with fail
                  go_roundw
                  case rel => exact ⟨k + 1, M2, O, by omega, by go_num, HML2.out, HN.out.2.2, HM12.out, HM22.out, HN.out.1, HN.out.2.1, HS2.out⟩
                  case measure => simp [intOf]; omega
            · obtain rfl : k = n3 := by omega
              have hik : ¬ (k : Int) < (k : Int) := by omega
              have HMT : Hid (M = T) := by
                apply List.ext_getElem?
                intro i
                by_cases hi : i < k
                · exact HM1.out i hi
                · rw [List.getElem?_eq_none (by rw [HML.out]; omega), List.getElem?_eq_none (by rw [← HN3.out]; omega)]
              have HOE : Hid (O = OS T R G Dk 0 0) := by
                unfold Hid
                rw [OS_start]
                apply List.ext_getElem?
                intro i
                by_cases hi : i < k
                · exact HO1.out i hi
                · rw [List.getElem?_eq_none (by rw [HOL.out]; omega), List.getElem?_eq_none (by simp [O4]; rw [← HN3.out]; omega)]
              have HS2 : Hid (LSr w (.slice Al k cl) (.slice Ad nd' cd) (.slice none 0 0) go Bf T (Dk.map decN) (OS T R G Dk 0 0) [] wr) := by have := HS.out; rw [HMT.out, HOE.out] at this; exact this
              have HOO : Hid (∀ s q, OB (OS T R G Dk s q)) := fun s q => OS_OB hG hR HNB.out (fun x hx => (HKD.out x hx).2.2) s q
              have HOSL : Hid (∀ s q, (OS T R G Dk s q).length = k) := fun s q => by rw [OS_len, ← HN3.out]
              have HEND : Hid (OS T R G Dk 19 0 = trkO T R G Dk) := OS_end HNB.out (fun x hx h0 => by unfold ownT; rw [if_neg (by omega), if_neg (by omega)])
              clear HM1 HM2 HO1 HO2 HS HMT HOE HML HOL HOB0
              go_wp2_with fail
              go_loopw [17] (fun sp wr => ∃ (s : Nat), s ≤ 19 ∧ sp = .int .i64 ((s + 2 : Nat) : Int) ∧ Hid (LSr w (.slice Al k cl) (.slice Ad nd' cd) (.slice none 0 0) go Bf T (Dk.map decN) (OS T R G Dk s 0) [] wr)) (fun sp _ => 22 - (intOf sp).toNat)
              case atStart => exact ⟨0, by omega, rfl, HS2.out⟩
              case round =>
                clear HS2
                obtain ⟨s, hs, rfl, HSS⟩ := hrel
                by_cases hlt2 : s < 19
                · skip
                  have his : ((s + 2 : Nat) : Int) ≤ 20 := by omega
                  obtain ⟨s2, hs2⟩ : ∃ s2, s2 = s + 2 := ⟨_, rfl⟩
                  have HS2E := Lib.hid hs2
                  rw [← hs2] at his ⊢
                  have hs2b : s2 ≤ 20 := by omega
                  clear hs2
                  go_wp2_with fail
                  rename World => wk
                  go_loopw [18] (fun i wr => ∃ (q : Nat), q ≤ nd' ∧ i = .int .i64 q ∧ Hid (LSr w (.slice Al k cl) (.slice Ad nd' cd) (.slice none 0 0) go Bf T (Dk.map decN) (OS T R G Dk s q) [] wr)) (fun i _ => nd' - (intOf i).toNat)
                  case atStart => exact ⟨0, by omega, rfl, HSS.out⟩
                  case round =>
                    obtain ⟨q, hq, rfl, HSQ⟩ := hrel
                    by_cases hltq : q < nd'
                    · have hiq : (q : Int) < (nd' : Int) := by omega
                      obtain ⟨x, hx⟩ : ∃ x, Dk[q]? = some x := ⟨_, List.getElem?_eq_getElem (by rw [← HND.out]; exact hltq)⟩
                      have hxd : (Dk.map decN)[q]? = some (decN x) := by rw [List.getElem?_map, hx]; rfl
                      have hrd := rd_own_lt HSQ.out.owd HSQ.out.dgo
                      rw [HDD.out] at hrd
                      obtain ⟨g, o, hA, hg, f1⟩ := rd_nd hrd hxd
                      obtain ⟨d0, d1, d2⟩ := f1 wr (Below.refl _ _)
                      have hnb := HNB.out x (List.mem_of_getElem? hx)
                      have HOSS : Hid (OS T R G Dk s (q + 1) = if x.sp = ((s + 2 : Nat) : Int) then fillT T G (OS T R G Dk s q) x else OS T R G Dk s q) := OS_succ hx
                      rw [← HS2E.out] at HOSS
                      have hrl := rd_own_lt HSQ.out.own HSQ.out.lgo
                      rw [← HN3.out] at hrl
                      have HFI := Lib.hid (r_spread (gap := G) hrl HSQ.out.out (Nat.le_refl _) (HOSL.out s q) (by omega) (by rw [HN3.out]; exact hnb) (HOO.out s q) hG)
                      subst hA
                      clear hx f1 hrd hrl hnb hxd
                      obtain ⟨O1, hO1⟩ : ∃ O1, O1 = fillT T G (OS T R G Dk s q) x := ⟨_, rfl⟩
                      rw [← hO1] at HOSS HFI
                      obtain ⟨xf, xs, xz⟩ := x
                      simp only [decN] at d0 d1 d2 HFI
                      simp only at HOSS
                      clear hO1
                      by_cases c1 : xs = (s2 : Int)
                      · have b1 : (xs == (s2 : Int)) = true := by simpa using c1
                        have HOE2 : Hid (OS T R G Dk s (q + 1) = O1) := by unfold Hid; rw [HOSS.out, if_pos c1]
                        clear c1
                        go_wp2_with fail
                        refine HFI.out.mono ?_
                        rintro e w' ⟨⟨u, rfl⟩, hbk, hkp⟩
                        have HS7 := Lib.hid (HSQ.out.fill hkp hbk)
                        clear hbk hkp d0 d1 d2 b1
                        go_wp2_with fail
                        go_roundw
                        case rel => exact ⟨q + 1, by omega, by go_num, by rw [HOE2.out]; exact HS7.out⟩
                        case measure => simp [intOf]; omega
                      · have b1 : (xs == (s2 : Int)) = false := by simpa using c1
                        have HOE2 : Hid (OS T R G Dk s (q + 1) = OS T R G Dk s q) := by unfold Hid; rw [HOSS.out, if_neg c1]
                        clear c1
                        go_wp2_with fail
                        go_roundw
                        case rel => exact ⟨q + 1, by omega, by go_num, by rw [HOE2.out]; exact HSQ.out⟩
                        case measure => simp [intOf]; omega
                    · obtain rfl : q = nd' := by omega
                      have hiq : ¬ (q : Int) < (q : Int) := by omega
                      have HOE2 : Hid (OS T R G Dk s q = OS T R G Dk (s + 1) 0) := by unfold Hid; rw [HND.out]; exact OS_next T R G Dk s
                      have HSE : Hid (s2 + 1 = s + 1 + 2) := by have := HS2E.out; unfold Hid; omega
                      go_wp2_with fail
                      go_roundw
                      case rel => exact ⟨s + 1, by omega, by rw [← HSE.out]; go_num, by rw [← HOE2.out]; exact HSQ.out⟩
                      case measure => simp [intOf]; omega
                · obtain rfl : s = 19 := by omega
                  have his : ¬ ((19 + 2 : Nat) : Int) ≤ 20 := by omega
                  have hOB := HOO.out 19 0
                  have hOl := HOSL.out 19 0
                  rw [HEND.out] at hOB hOl HSS
                  obtain ⟨O2, hO2⟩ : ∃ O2, O2 = trkO T R G Dk := ⟨_, rfl⟩
                  rw [← hO2] at hOB hOl HSS
                  have HO2 := Lib.hid hO2; have HOB2 := Lib.hid hOB; have HLO := Lib.hid hOl
                  have HSB : Hid (∀ j, j ≤ k → 0 ≤ sumTo (szA O2) j ∧ sumTo (szA O2) j ≤ 167772160000 * j) := fun j hj => sum_OB HOB2.out (by rw [HLO.out]; exact hj)
                  have HGB : Hid (∀ j : Nat, j ≤ 219 → -3674210304 ≤ gpS G j ∧ gpS G j ≤ 3674210304) := fun j hj => by rw [gpS_mx]; exact gap_len hG hj
                  clear hOB hOl hO2 HEND HOO HOSL
                  go_wp2_with fail
                  go_loopw [19, 20, 21] (fun r a i wr => ∃ (j : Nat), j ≤ k ∧ i = .int .i64 j ∧ r = .int .i64 (R - sumTo (szA O2) j - gpS G j) ∧ a = .int .i64 (trkS T j) ∧ Hid (LSr w (.slice Al k cl) (.slice Ad nd' cd) (.slice none 0 0) go Bf T (Dk.map decN) O2 [] wr)) (fun _ _ i _ => k - (intOf i).toNat)
                  case atStart => exact ⟨0, by omega, rfl, by simp [sumTo, gpS], rfl, HSS.out⟩
                  case round =>
                    clear HSS
                    obtain ⟨j, hj, rfl, rfl, rfl, HSJ⟩ := hrel
                    by_cases hltj : j < k
                    · skip
                      have hij : (j : Int) < (k : Int) := by omega
                      have hx := trA_get (l := T) (i := j) (by rw [← HN3.out]; exact hltj)
                      obtain ⟨gl, hA, hgl, fr0, d0, d1⟩ := HSJ.out.cellsT hx
                      have co := HSJ.out.cellO (i := j) (by rw [HLO.out]; exact hltj)
                      have HSSS : Hid (sumTo (szA O2) (j + 1) = sumTo (szA O2) j + szA O2 j) := rfl
                      have hb1 := HSB.out j hj
                      have hb2 := HSB.out (j + 1) hltj
                      have hg1 := HGB.out j (by omega)
                      have hg2 := HGB.out (j + 1) (by omega)
                      have HGS := Lib.hid (gpS_succ G j)
                      have HTT : Hid (trkS T (j + 1) = trkS T j + facT (trA T j)) := trkS_succ T j
                      have HP0 : Hid (j = 0 → gpS G j = 0) := fun h => by rw [h]; simp [gpS]
                      have ht1 := trkS_bd T j
                      have hfb := fac_bd (trA T j).n
                      rw [HSSS.out] at hb2
                      subst hA
                      clear hx
                      obtain ⟨x, hx⟩ : ∃ x, x = trA T j := ⟨_, rfl⟩
                      rw [← hx] at d0 d1 HTT hfb
                      clear hx
                      obtain ⟨xk, xn⟩ := x
                      simp only at d0 d1 hfb
                      obtain ⟨sj, hsj⟩ : ∃ sj, sj = sumTo (szA O2) j := ⟨_, rfl⟩
                      obtain ⟨zj, hzj⟩ : ∃ zj, zj = szA O2 j := ⟨_, rfl⟩
                      obtain ⟨tj, htj⟩ : ∃ tj, tj = trkS T j := ⟨_, rfl⟩
                      obtain ⟨pj, hpj⟩ : ∃ pj, pj = gpS G j := ⟨_, rfl⟩
                      obtain ⟨pn, hpn⟩ : ∃ pn, pn = gpS G (j + 1) := ⟨_, rfl⟩
                      rw [← hsj, ← hzj] at HSSS hb2
                      rw [← hsj] at hb1 ⊢
                      rw [← hzj] at co
                      rw [← htj] at HTT ht1 ⊢
                      rw [← hpj] at hg1 HGS HP0 ⊢
                      rw [← hpn] at hg2 HGS
                      have HPN := Lib.hid hpn; have HZJ := Lib.hid hzj
                      clear hsj hzj htj hpj hpn
                      have hzb : -4000000000000000 ≤ zj ∧ zj ≤ 4000000000000000 := by omega
                      have v1 : IntKind.i64.wrap (R - sj - pj - zj) = R - sj - pj - zj := IntWalk.i64_in _ (by omega)
                      by_cases c0 : 0 < j
                      · have c0i : (0 : Int) < (j : Int) := by omega
                        have HP1 : Hid (pn = pj + G) := by unfold Hid; rw [HGS.out, if_pos c0]
                        have v2 : IntKind.i64.wrap (R - sj - pj - zj - G) = R - sj - pj - zj - G := IntWalk.i64_in _ (by omega)
                        by_cases c3 : xk = 3
                        · have b3 : (xk == 3) = true := by simpa using c3
                          have HF3 : Hid (facT ⟨xk, xn⟩ = fac xn) := by unfold Hid facT; rw [if_pos c3]
                          clear c3
                          go_wp2_with (go_at_call 36; refine (r_factor _ _).mono ?_; rintro e w' ⟨rfl, rfl⟩)
                          go_roundw
                          case rel => exact ⟨j + 1, by omega, by go_num, by rw [HSSS.out, ← HPN.out]; congr 1; have := HP1.out; omega, by rw [HTT.out, HF3.out], HSJ.out⟩
                          case measure => simp [intOf]; omega
                        · have b3 : (xk == 3) = false := by simpa using c3
                          have HF3 : Hid (facT ⟨xk, xn⟩ = 0) := by unfold Hid facT; rw [if_neg c3]
                          clear c3
                          go_wp2_with fail
                          go_roundw
                          case rel => exact ⟨j + 1, by omega, by go_num, by rw [HSSS.out, ← HPN.out]; congr 1; have := HP1.out; omega, by rw [HTT.out, HF3.out, Int.add_zero], HSJ.out⟩
                          case measure => simp [intOf]; omega
                      · have c0i : ¬ (0 : Int) < (j : Int) := by omega
                        have HP1 : Hid (pn = pj) := by
                          have h1 : pj = 0 := HP0.out (by omega)
                          unfold Hid; rw [HGS.out, if_neg c0, h1]
                        by_cases c3 : xk = 3
                        · have b3 : (xk == 3) = true := by simpa using c3
                          have HF3 : Hid (facT ⟨xk, xn⟩ = fac xn) := by unfold Hid facT; rw [if_pos c3]
                          clear c3
                          go_wp2_with (go_at_call 36; refine (r_factor _ _).mono ?_; rintro e w' ⟨rfl, rfl⟩)
                          go_roundw
                          case rel => exact ⟨j + 1, by omega, by go_num, by rw [HSSS.out, ← HPN.out]; congr 1; have := HP1.out; omega, by rw [HTT.out, HF3.out], HSJ.out⟩
                          case measure => simp [intOf]; omega
                        · have b3 : (xk == 3) = false := by simpa using c3
                          have HF3 : Hid (facT ⟨xk, xn⟩ = 0) := by unfold Hid facT; rw [if_neg c3]
                          clear c3
                          go_wp2_with fail
                          go_roundw
                          case rel => exact ⟨j + 1, by omega, by go_num, by rw [HSSS.out, ← HPN.out]; congr 1; have := HP1.out; omega, by rw [HTT.out, HF3.out, Int.add_zero], HSJ.out⟩
                          case measure => simp [intOf]; omega
                    · obtain rfl : j = k := by omega
                      have hij : ¬ (j : Int) < (j : Int) := by omega
                      have HLE : Hid (R - sumTo (szA O2) j - gpS G j = leftT T R G O2) := by unfold Hid leftT; rw [gpS_mx, ← HN3.out]; omega
                      have hb1 := HSB.out j (Nat.le_refl _)
                      have hg1 := HGB.out j hT219
                      have hlb : -40000000000000 ≤ R - sumTo (szA O2) j - gpS G j ∧ R - sumTo (szA O2) j - gpS G j ≤ 3690987520 := by omega
                      have hsu := trkS_bd T j
                      obtain ⟨LF, hLF⟩ : ∃ LF, LF = R - sumTo (szA O2) j - gpS G j := ⟨_, rfl⟩
                      rw [← hLF] at HLE hlb ⊢
                      have HRR : Hid (res = (List.range j).map (finT T O2 (max 0 LF))) := by
                        unfold Hid
                        rw [HTR.out, HLE.out, HO2.out, HN3.out]
                        exact (fin_eq (fun x hx => (HKD.out x hx).2.2)).symm
                      obtain ⟨SU, hSU⟩ : ∃ SU, SU = trkS T j := ⟨_, rfl⟩
                      rw [← hSU] at hsu ⊢
                      have HSUE := Lib.hid hSU
                      clear hLF hSU hb1 hg1
                      go_upto_region 51 with fail
                      rename World => wk
                      go_cut [273, 274] (fun _ s wx => s = .bool (decide (LF < 0)) ∧ wx = wk)
                      case first =>
                        as_aux_lemma =>
                          by_cases c : LF < 0
                          · have HD := Lib.hid (decide_eq_true c)
                            go_wp2_with fail
                            go_meet
                            case rel => exact ⟨by rw [HD.out], rfl⟩
                          · have HD := Lib.hid (decide_eq_false c)
                            go_wp2_with fail
                            go_meet
                            case rel => exact ⟨by rw [HD.out], rfl⟩
                      case rest =>
                      obtain ⟨rfl, rfl⟩ := hcut
                      obtain ⟨bl, hbl⟩ : ∃ bl, bl = decide (LF < 0) := ⟨_, rfl⟩
                      have HBL := Lib.hid hbl
                      rw [← hbl]
                      clear hbl
                      go_upto_if 274 with fail
                      go_cut [19] (fun r wx => r = .int .i64 (max 0 LF) ∧ wx = wc)
                      case first =>
                        as_aux_lemma =>
                          cases bl
                          · have h1 : ¬ LF < 0 := of_decide_eq_false HBL.out.symm
                            have HD : Hid (LF = max 0 LF) := by unfold Hid; omega
                            go_wp2_with fail
                            go_meet
                            case rel => exact ⟨by rw [← HD.out], rfl⟩
                          · have h1 : LF < 0 := of_decide_eq_true HBL.out.symm
                            have HD : Hid (max 0 LF = 0) := by unfold Hid; omega
                            go_wp2_with fail
                            go_meet
                            case rel => exact ⟨by rw [HD.out], rfl⟩
                      case rest =>
                      obtain ⟨rfl, rfl⟩ := hcut
                      obtain ⟨RS, hRS⟩ : ∃ RS, RS = max 0 LF := ⟨_, rfl⟩
                      have hrb : 0 ≤ RS ∧ RS ≤ 3690987520 := by omega
                      rw [← hRS] at HRR ⊢
                      clear hRS HLE hlb
                      as_aux_lemma =>
                        go_wp2_with fail
                        go_loopw [22, 23] (fun sm i wr => ∃ (q : Nat) (O : List Int), q ≤ j ∧ i = .int .i64 q ∧ sm = .int .i64 (trkS T q) ∧ Hid (O.length = j) ∧ Hid (∀ i, i < q → O[i]? = res[i]?) ∧ Hid (∀ i, q ≤ i → O[i]? = O2[i]?) ∧ Hid (LSr w (.slice Al j cl) (.slice Ad nd' cd) (.slice none 0 0) go Bf T (Dk.map decN) O [] wr)) (fun _ i _ => j - (intOf i).toNat)
                        case atStart => exact ⟨0, O2, by omega, rfl, rfl, HLO.out, fun i h => by omega, fun _ _ => rfl, HSJ.out⟩
                        case round =>
                          clear HSJ
                          obtain ⟨q, O, hq, rfl, rfl, HOL3, HOA, HOB3, HS6⟩ := hrel
                          by_cases hlt4 : q < j
                          · have hik4 : (q : Int) < (j : Int) := by omega
                            have hx := trA_get (l := T) (i := q) (by rw [← HN3.out]; exact hlt4)
                            obtain ⟨gl, hA, hgl, fr0, d0, d1⟩ := HS6.out.cellsT hx
                            have co := HS6.out.cellO (i := q) (by rw [HOL3.out]; exact hlt4)
                            have hoe : szA O q = szA O2 q := by unfold szA; rw [List.getD_eq_getElem?_getD, HOB3.out q (Nat.le_refl _), ← List.getD_eq_getElem?_getD]
                            rw [hoe] at co
                            have HO2Q : Hid (O2[q]? = some (szA O2 q)) := by
                              unfold Hid
                              rw [List.getElem?_eq_getElem (by rw [HLO.out]; exact hlt4), szA_eq (List.getElem?_eq_getElem (by rw [HLO.out]; exact hlt4))]
                            have HTT : Hid (trkS T (q + 1) = trkS T q + facT (trA T q)) := trkS_succ T q
                            have HRQ : Hid (res[q]? = some (if (trA T q).k = 3 then porT T RS (q + 1) - porT T RS q else szA O2 q)) := by unfold Hid; rw [HRR.out, List.getElem?_map, List.getElem?_range hlt4]; rfl
                            have hs1 := trkS_bd T q
                            have hs2 := trkS_mono T (show q ≤ T.length by rw [← HN3.out]; omega)
                            have hs3' := trkS_mono T (show q + 1 ≤ T.length by rw [← HN3.out]; exact hlt4)
                            have hfb := facT_bd (trA T q)
                            rw [← HN3.out, ← HSUE.out] at hs2 hs3'
                            rw [HTT.out] at hs3'
                            have hp1 := porT_bd (T := T) (left := RS) hrb.1 (k := q) (by rw [← HN3.out]; omega)
                            have hp2 := porT_bd (T := T) (left := RS) hrb.1 (k := q + 1) (by rw [← HN3.out]; omega)
                            have HPQ : Hid (RS * trkS T q / max SU 1000 = porT T RS q) := by unfold Hid porT; rw [← HN3.out, ← HSUE.out]
                            have HPN : Hid (RS * (trkS T q + facT (trA T q)) / max SU 1000 = porT T RS (q + 1)) := by unfold Hid porT; rw [HTT.out, ← HN3.out, ← HSUE.out]
                            subst hA
                            clear hx hoe
                            obtain ⟨x, hx⟩ : ∃ x, x = trA T q := ⟨_, rfl⟩
                            rw [← hx] at d0 d1 HTT hfb HRQ hs3' HPN
                            clear hx
                            obtain ⟨xk, xn⟩ := x
                            simp only at d0 d1 HRQ
                            have hg0 := HS6.out.out.free q
                            have hgl0 := HS6.out.out.lt
                            have HSX : Hid (∀ u : Int, LSr w (.slice (some ⟨gl, 0, none⟩) j cl) (.slice Ad nd' cd) (.slice none 0 0) go Bf T (Dk.map decN) (O.set q u) [] (wr.setCell ⟨go, q, none⟩ (.int .i64 u))) := fun u => HS6.out.setO q u
                            by_cases c3 : xk = 3
                            · have b3 : (xk != 3) = false := by simp [c3]
                              have HF3 : Hid (facT ⟨xk, xn⟩ = fac xn) := by unfold Hid facT; rw [if_pos c3]
                              rw [if_pos c3] at HRQ
                              rw [HF3.out] at hfb HTT hs3' HPN
                              obtain ⟨sq, hsq⟩ : ∃ sq, sq = trkS T q := ⟨_, rfl⟩
                              obtain ⟨pq, hpq⟩ : ∃ pq, pq = porT T RS q := ⟨_, rfl⟩
                              obtain ⟨pn, hpn⟩ : ∃ pn, pn = porT T RS (q + 1) := ⟨_, rfl⟩
                              rw [← hsq] at hs1 hs2 hs3' HTT HPQ HPN ⊢
                              rw [← hpq] at hp1 HRQ HPQ
                              rw [← hpn] at hp2 HRQ HPN
                              clear hsq hpq hpn c3
                              go_wp2_with (first
                                | (go_at_call 36; refine (r_factor _ _).mono ?_; rintro e w' ⟨rfl, rfl⟩)
                                | (go_at_call 34; refine (r_most _ _ _).mono ?_; rintro e w' ⟨rfl, rfl⟩)
                                | (go_at_call 27; (with_reducible refine (r_Portion _ _ _ _ (by omega) (by omega) (by omega)).mono ?_); rintro e w' ⟨rfl, rfl⟩; (first | rw [HPQ.out] | rw [HPN.out])))
                              go_roundw
                              case rel =>
                                refine ⟨q + 1, O.set q (pn - pq), by omega, by go_num, by rw [HTT.out], by unfold Hid; rw [List.length_set]; exact HOL3.out, fun i hi => ?_, fun i hi => ?_, HSX.out _⟩
                                · by_cases e : i = q
                                  · subst e; rw [List.getElem?_set_self (by rw [HOL3.out]; exact hlt4), HRQ.out]
                                  · rw [List.getElem?_set_ne (Ne.symm e)]; exact HOA.out i (by omega)
                                · rw [List.getElem?_set_ne (by omega)]; exact HOB3.out i (by omega)
                              case measure => simp [intOf]; omega
                            · have b3 : (xk != 3) = true := by simpa using c3
                              have HF3 : Hid (facT ⟨xk, xn⟩ = 0) := by unfold Hid facT; rw [if_neg c3]
                              rw [if_neg c3] at HRQ
                              clear c3
                              go_wp2_with fail
                              go_roundw
                              case rel =>
                                refine ⟨q + 1, O, by omega, by go_num, by rw [HTT.out, HF3.out, Int.add_zero], HOL3.out, fun i hi => ?_, fun i hi => HOB3.out i (by omega), HS6.out⟩
                                by_cases e : i = q
                                · subst e; rw [HOB3.out i (Nat.le_refl _), HRQ.out, HO2Q.out]
                                · exact HOA.out i (by omega)
                              case measure => simp [intOf]; omega
                          · obtain rfl : q = j := by omega
                            have hik4 : ¬ (q : Int) < (q : Int) := by omega
                            have HRL : Hid (O = res) := by
                              apply List.ext_getElem?
                              intro i
                              by_cases hi : i < q
                              · exact HOA.out i hi
                              · rw [List.getElem?_eq_none (by rw [HOL3.out]; omega), List.getElem?_eq_none (by rw [HRR.out, List.length_map, List.length_range]; omega)]
                            have HENDR : Hid (TkRet w res (.returned (.slice (some ⟨go, 0, none⟩) q q)) wr) := by
                              rw [← HRL.out]
                              exact ⟨go, by rw [HOL3.out], HS6.out.g0, HS6.out.out, HS6.out.bel⟩
                            go_wp2_with fail
                            go_ret
                            exact HENDR.out
end Go.Proofs.Ytdpnpjficcciiaa
