/- seat C: the program's Tracks -/
import Derived.Test.YtdpnpjficcciiaaTkf
import Derived.Deep.CutBlock
namespace Go.Proofs.Ytdpnpjficcciiaa
set_option linter.unusedVariables false
set_option linter.unusedSimpArgs false
open Go.RowKit Go.Cas

set_option maxRecDepth 100000 in
set_option maxHeartbeats 16000000 in
theorem c_Tracks {w : World} {lim m n : Nat} {A A2 : Option Addr} {c c2 : Nat} {L : List Tr} {N : List Nd} {room gap : Int} (hl : RdS w lim 2 (.slice A m c) m (L.flatMap tr)) (hd : RdS w lim 3 (.slice A2 n c2) n (N.flatMap nd)) (hlim : lim ≤ w.heap.size) (hm : m ≤ 1000) (hn : n ≤ 200) :
    Calls Try.prog 12 #[.slice A m c, .slice A2 n c2, .int .i64 room, .int .i64 gap] w (TkRet w (trk L N room gap)) := by
  have HD := Lib.hid hd
  have hNl : N.length = n := by have := hd.1; rw [nds_len] at this; omega
  have hLl : L.length = m := by have := hl.1; rw [trs_len] at this; omega
  have HTR : Hid (trk L N room gap = trkR (trkL L (hld room) (ndsK N)) (hld room) (hld gap) (ndsK N)) := by unfold Hid trk; rw [List.take_of_length_le (by omega)]
  have HNL := Lib.hid hNl
  have hcl : Calls Try.prog 29 #[.slice A (min (m : Int) 20).toNat c] w (ClRet w (L.take 20).length (L.take 20)) := by
    have eM : (min (m : Int) 20).toNat = (L.take 20).length := by rw [List.length_take]; omega
    have hlt : (L.take 20).length ≤ m := by rw [List.length_take]; omega
    rw [eM]
    refine c_CloneT (lim := lim) ?_ (by omega) hlim
    obtain ⟨_, A', c', e, hc, hcell⟩ := hl
    injection e with e1 _ e2
    subst e1 e2
    refine ⟨by rw [trs_len], A, c, rfl, by omega, fun _ => ?_⟩
    obtain ⟨g, o, e1, e2, e3⟩ := hcell (by omega)
    refine ⟨g, o, e1, e2, fun j u hu => e3 j u ?_⟩
    have e : L.flatMap tr = (L.take 20).flatMap tr ++ (L.drop 20).flatMap tr := by rw [← List.flatMap_append, List.take_append_drop]
    rw [e, List.getElem?_append_left (List.getElem?_eq_some_iff.1 hu).1]; exact hu
  have HCL := Lib.hid hcl
  have hcm : (m : Int) ≤ (c : Int) := by obtain ⟨_, A', c', e, hc, _⟩ := hl; injection e; omega
  have hcn : (n : Int) ≤ (c2 : Int) := by obtain ⟨_, A', c', e, hc, _⟩ := hd; injection e; omega
  have hR := hld_bd room; have hG := hld_bd gap
  have hT219 := trkL_len L (hld room) N
  have HX219 := Lib.hid (extA_len (l := L.take 20) (by rw [List.length_take]; omega))
  have HTL : Hid (trkL L (hld room) (ndsK N) = (extA (L.take 20) (ndsK N)).map (hdT (hld room))) := rfl
  have HKD : Hid (∀ x ∈ trkL L (hld room) (ndsK N), 0 ≤ x.k ∧ x.k ≤ 3 ∧ (hld room < 0 → x.k ≤ 1)) := fun x hx => trkL_kd hx
  have HNB : Hid (∀ x ∈ srtN (ndsK N), NB x (trkL L (hld room) (ndsK N)).length) := fun x hx => nds_NB (srtN_mem hx)
  have HH1 := Lib.hid (c_heldG room w)
  have HH2 := Lib.hid (c_heldG gap w)
  obtain ⟨res, hres⟩ : ∃ res, res = trk L N room gap := ⟨_, rfl⟩
  rw [← hres] at HTR ⊢
  obtain ⟨R, hRe⟩ : ∃ R, R = hld room := ⟨_, rfl⟩
  obtain ⟨G, hGe⟩ : ∃ G, G = hld gap := ⟨_, rfl⟩
  obtain ⟨T, hTe⟩ : ∃ T, T = trkL L (hld room) (ndsK N) := ⟨_, rfl⟩
  rw [← hTe] at HTR HTL HKD HNB hT219
  rw [← hRe] at HTR HTL HKD HH1 hR
  rw [← hGe] at HTR HH2 hG
  obtain ⟨L0, hL0⟩ : ∃ L0, L0 = L.take 20 := ⟨_, rfl⟩
  rw [← hL0] at HTL HCL HX219
  have HB0 := Lib.hid (Below.refl w.heap.size w)
  clear hl hd hNl hLl hcl hres hRe hGe hTe hL0
  go_enter Try.func12, Try.ntmps12
  go_wp2_with fail
  refine HH1.out.mono ?_
  rintro e w' ⟨rfl, rfl⟩
  go_wp2_with fail
  refine HH2.out.mono ?_
  rintro e w' ⟨rfl, rfl⟩
  go_upto_region 2 with fail
  go_cut [0] (fun lv wx => Hid (wx.ownsRow w.heap.size 40 2 lv L0.length (L0.flatMap tr)) ∧ Hid (Below w.heap.size w wx))
  case first =>
    go_wp2_with fail
    refine HCL.out.mono ?_
    rintro e w' ⟨v, rfl, ho, hb⟩
    have HO := Lib.hid ho; have HBB := Lib.hid hb
    clear ho hb
    go_wp2_with fail
    go_meet
    case rel => exact ⟨HO.out, HBB.out⟩
  case rest =>
  obtain ⟨HO, HB⟩ := hcut
  have vmin : min (n : Int) 200 = (n : Int) := by omega
  have vmax : max (n : Int) 0 = (n : Int) := by omega
  have HTS : Hid (TS w u0 (.slice none 0 0) L0 [] wc) := ⟨HO.out, World.ownsRow_nil _ _ _ _, Sep.none_r _, HB.out⟩
  have HE0 : Hid (extA L0 (ndsK (N.take 0)) = L0) := rfl
  clear HO
  go_wp2_with fail
  clear vmin vmax
  go_loopw [0, 9, 44] (fun lv dv i wr => ∃ (k : Nat) (Lk : List Tr) (Dk : List Nd), k ≤ n ∧ i = .int .i64 k ∧ Hid (Dk = ndsK (N.take k)) ∧ Hid (Lk = extA L0 Dk) ∧ Hid (TS w lv dv Lk Dk wr)) (fun _ _ i _ => n - (intOf i).toNat)
  case atStart => exact ⟨0, L0, [], by omega, rfl, rfl, HE0.out.symm, HTS.out⟩
  case round =>
    clear HTS
    obtain ⟨k, Lk, Dk, hk, rfl, HDE, HLE, HT⟩ := hrel
    by_cases hlt : k < n
    · skip
      have hik : (k : Int) < (n : Int) := by omega
      obtain ⟨x, hx⟩ : ∃ x, N[k]? = some x := ⟨_, List.getElem?_eq_getElem (by rw [HNL.out]; exact hlt)⟩
      obtain ⟨g, o, hA, hg, f1⟩ := rd_nd HD.out hx
      have hwl : Below lim w wr := HT.out.bel.mono hlim
      obtain ⟨d0, d1, d2⟩ := f1 wr hwl
      have HSTEP : Hid (ndsK (N.take (k + 1)) = if okN x = true then ndsK (N.take k) ++ [hdN x] else ndsK (N.take k)) := ndsK_take hx
      have HXB : Hid (okN x = true → 1 ≤ endN (hdN x) ∧ endN (hdN x) ≤ 219 ∧ (endN (hdN x) : Int) = x.fr + x.sp - 1 ∧ (hdN x) = ⟨x.fr, x.sp, hld x.sz⟩) := fun h => by
        have := of_decide_eq_true h
        have e : (hdN x) = ⟨x.fr, x.sp, hld x.sz⟩ := rfl
        refine ⟨?_, ?_, ?_, e⟩ <;> (rw [e]; unfold endN; simp only; omega)
      subst hA
      clear hx f1 hwl hg
      obtain ⟨xf, xs, xz⟩ := x
      simp only at d0 d1 d2
      have hHT := HT.out
      have HTX : Hid (TS w u0 u9 Lk Dk (wr.alloc (.cells #[.int .i64 xf, .int .i64 xs, .int .i64 xz] 46))) := HT.out.below (bl_alloc (Below.refl _ _) _)
      clear hHT
      by_cases h1 : xf < 1
      · have HOK : Hid (¬ okN ⟨xf, xs, xz⟩ = true) := by unfold Hid okN; simp; omega
        go_wp2_with fail
        go_roundw
        case rel => exact ⟨k + 1, Lk, Dk, by omega, by go_num, by rw [HSTEP.out, if_neg HOK.out]; exact HDE.out, HLE.out, HTX.out⟩
        case measure => simp [intOf]; omega
      · by_cases h2 : 200 < xf
        · have HOK : Hid (¬ okN ⟨xf, xs, xz⟩ = true) := by unfold Hid okN; simp; omega
          go_wp2_with fail
          go_roundw
          case rel => exact ⟨k + 1, Lk, Dk, by omega, by go_num, by rw [HSTEP.out, if_neg HOK.out]; exact HDE.out, HLE.out, HTX.out⟩
          case measure => simp [intOf]; omega
        · by_cases h3 : xs < 1
          · have HOK : Hid (¬ okN ⟨xf, xs, xz⟩ = true) := by unfold Hid okN; simp; omega
            go_wp2_with fail
            go_roundw
            case rel => exact ⟨k + 1, Lk, Dk, by omega, by go_num, by rw [HSTEP.out, if_neg HOK.out]; exact HDE.out, HLE.out, HTX.out⟩
            case measure => simp [intOf]; omega
          · by_cases h4 : 20 < xs
            · have HOK : Hid (¬ okN ⟨xf, xs, xz⟩ = true) := by unfold Hid okN; simp; omega
              go_wp2_with fail
              go_roundw
              case rel => exact ⟨k + 1, Lk, Dk, by omega, by go_num, by rw [HSTEP.out, if_neg HOK.out]; exact HDE.out, HLE.out, HTX.out⟩
              case measure => simp [intOf]; omega
            · have hok : okN ⟨xf, xs, xz⟩ = true := by unfold okN; simp; omega
              have HDN : Hid (ndsK (N.take (k + 1)) = Dk ++ [⟨xf, xs, hld xz⟩]) := by rw [HSTEP.out, if_pos hok, HDE.out]; rfl
              obtain ⟨E, hE⟩ : ∃ E, E = endN (hdN ⟨xf, xs, xz⟩) := ⟨_, rfl⟩
              have HEX : Hid (extA L0 (Dk ++ [⟨xf, xs, hld xz⟩]) = ext Lk E) := by rw [HLE.out, extA_snoc, hE]; rfl
              have hEb := HXB.out hok
              rw [← hE] at hEb
              obtain ⟨e1, e2, e3, _⟩ := hEb
              simp only at e3
              clear hE hok HSTEP HXB HTX
              obtain ⟨Q, hQ⟩ : ∃ Q, Q = wr.heap.size := ⟨_, rfl⟩
              obtain ⟨hz, hhz⟩ : ∃ hz, hz = hld xz := ⟨_, rfl⟩
              obtain ⟨wx, hwx⟩ : ∃ wx, wx = wr.alloc (.cells #[.int .i64 xf, .int .i64 xs, .int .i64 hz] 46) := ⟨_, rfl⟩
              have HQ := Lib.hid hQ; have HWX := Lib.hid hwx; have HHZ := Lib.hid hhz
              have HBX : Hid (Bk wx Q 46 #[.int .i64 xf, .int .i64 xs, .int .i64 hz]) := by rw [hwx]; exact bk_new' _ _ _ hQ
              have HTX : Hid (TS w u0 u9 Lk Dk wx) := by rw [hwx]; exact HT.out.below (bl_alloc (Below.refl _ _) _)
              have F3 : Hid (∀ w', Bk w' Q 46 #[.int .i64 xf, .int .i64 xs, .int .i64 hz] → w'.cell? ⟨Q, 0, none⟩ = some (.int .i64 xf) ∧ w'.cell? ⟨Q, 1, none⟩ = some (.int .i64 xs) ∧ w'.cell? ⟨Q, 2, none⟩ = some (.int .i64 hz)) := fun w' hb => by
                have e := hb.cell
                exact ⟨by rw [e]; rfl, by rw [e]; rfl, by rw [e]; rfl⟩
              have HNQ : Hid (∀ g, u0.ownBlock = some g → g ≠ Q) := fun g hg => by have := (own_lt HT.out.own hg).2; omega
              have hQx : Q < wx.heap.size := HBX.out.lt
              have hll : Lk.length ≤ 219 := by rw [HLE.out]; exact (HX219.out Dk (fun y hy => by rw [HDE.out] at hy; have := ndsK_mem hy; omega)).1
              have hdl : Dk.length ≤ k := by rw [HDE.out]; have := ndsK_len (N.take k); rw [List.length_take] at this; omega
              clear hQ hwx hhz
              go_upto_region 9 with (first | (go_at_call 28; refine (c_heldG _ _).mono ?_; rintro e w' ⟨rfl, rfl⟩))
              rw [← HHZ.out, ← HQ.out, ← HWX.out]
              clear d0 d1 d2
              go_wp2_with fail
              go_loopw [0] (fun lv wy => ∃ (Ly : List Tr), Ly.length ≤ 219 ∧ Hid (ext Ly E = ext Lk E) ∧ Hid (TS w lv u9 Ly Dk wy) ∧ Hid (Bk wy Q 46 #[.int .i64 xf, .int .i64 xs, .int .i64 hz]) ∧ Hid (∀ g, lv.ownBlock = some g → g ≠ Q) ∧ Q < wy.heap.size) (fun lv _ => match lv with | .slice _ q _ => E - q | _ => 0)
              case atStart => exact ⟨Lk, hll, rfl, HTX.out, HBX.out, HNQ.out, hQx⟩
              case round =>
                obtain ⟨Ly, hly, HEY, HTY, HBY, HNY, hQy⟩ := hrel
                obtain ⟨d0, d1, d2⟩ := F3.out _ HBY.out
                obtain ⟨_, Ay, cy, hue, hcy, _⟩ := RdS.of_own HTY.out.own
                have HTY2 := Lib.hid HTY.out
                obtain ⟨q, hq⟩ : ∃ q, q = Ly.length := ⟨_, rfl⟩
                have HQL := Lib.hid hq
                rw [← hq] at hue hcy hly
                subst hue
                clear hq HTY
                by_cases hqe : q < E
                · have hqi : (q : Int) < xf + xs - 1 := by omega
                  have HEY2 : Hid (ext (Ly ++ [t0]) E = ext Lk E) := by rw [← HEY.out]; exact ext_lt (by rw [← HQL.out]; exact hqe)
                  have HOW : Hid (wr.ownsRow w.heap.size 40 2 (.slice Ay q cy) q (Ly.flatMap tr)) := by have := HTY2.out.own; rw [← HQL.out] at this; exact this
                  have hws : w.heap.size ≤ wr.heap.size := HTY2.out.bel.size
                  go_wp2_with (at_builtin; refine wp_push rfl _ _ 41 rfl w.heap.size 40 Try.underlying41 inf_Tr rfl (by decide) wr (.slice Ay q cy) q (Ly.flatMap tr) [.int .i64 0, .int .i64 0] rfl rfl rfl HOW.out rfl (by simp [Value.oneCell']) (by omega) (by omega) hws ?_; intro v5 w5 hpush; have HPU := Lib.hid hpush; clear hpush)
                  have HNY2 : Hid (∀ g, v5.ownBlock = some g → g ≠ Q) := fun g hg => by
                    rcases HPU.out.at_ with h | ⟨k', h1, h2⟩
                    · rw [h] at hg; exact HNY.out g hg
                    · rw [h2] at hg; injection hg with hg; omega
                  have HBY2 := Lib.hid (HBY.out.grown HPU.out.grown (fun e => HNY.out Q e.symm rfl))
                  have hQ5 : Q < w5.heap.size := Nat.lt_of_lt_of_le hQy HPU.out.size_
                  have HTY3 : Hid (TS w v5 u9 (Ly ++ [t0]) Dk w5) := HTY2.out.pushL t0 (by rw [← HQL.out]; exact HPU.out)
                  obtain ⟨_, A5, c5, h5, _⟩ := RdS.of_own HPU.out.own
                  subst h5
                  go_roundw
                  case rel => exact ⟨Ly ++ [t0], by rw [List.length_append, ← HQL.out]; simp; omega, HEY2.out, HTY3.out, HBY2.out, HNY2.out, hQ5⟩
                  case measure => simp; omega
                · have hqi : ¬ (q : Int) < xf + xs - 1 := by omega
                  have HEY3 : Hid (Ly = ext Lk E) := by
                    have h := HEY.out
                    rw [ext_le (show E ≤ Ly.length by rw [← HQL.out]; omega)] at h
                    exact h
                  have hws : w.heap.size ≤ wr.heap.size := HTY2.out.bel.size
                  have HTE := Lib.hid HTY2.out
                  go_wp2_with (at_builtin; refine wp_push rfl _ _ 43 rfl w.heap.size 46 Try.underlying43 inf_Nd rfl (by decide) wr u9 Dk.length (Dk.flatMap nd) [.int .i64 xf, .int .i64 xs, .int .i64 hz] rfl rfl rfl HTE.out.owd rfl (by simp [Value.oneCell']) (by omega) (by omega) hws ?_; intro v5 w5 hpush; have HPU := Lib.hid hpush; clear hpush)
                  go_roundw
                  case rel =>
                    refine ⟨k + 1, Ly, Dk ++ [⟨xf, xs, hz⟩], by omega, by go_num, ?_, ?_, Lib.hid (HTE.out.pushD ⟨xf, xs, hz⟩ HPU.out)⟩
                    · rw [HDN.out, HHZ.out]; rfl
                    · rw [HEY3.out, ← HEX.out, HHZ.out]; rfl
                  case measure => simp [intOf]; omega
    · obtain rfl : k = n := by omega
      have hik : ¬ (k : Int) < (k : Int) := by omega
      have HDK : Hid (Dk = ndsK N) := by unfold Hid; rw [HDE.out, List.take_of_length_le (by rw [HNL.out]; exact Nat.le_refl _)]
      have HTM : Hid (T = Lk.map (hdT R)) := by unfold Hid; rw [HTL.out, HLE.out, HDK.out]
      have hLT : Lk.length = T.length := by rw [HTM.out, List.length_map]
      have hDk : Dk.length ≤ 200 := by rw [HDK.out]; have := ndsK_len N; rw [HNL.out] at this; omega
      rw [← HDK.out] at HTR HNB
      obtain ⟨n3, hn3⟩ : ∃ n3, n3 = T.length := ⟨_, rfl⟩
      have HN3 := Lib.hid hn3
      rw [← hn3] at hT219 hLT
      obtain ⟨_, Al, cl, hue, hcl, _⟩ := RdS.of_own HT.out.own
      rw [hLT] at hue hcl
      have HTT := Lib.hid HT.out
      have HLT := Lib.hid hLT
      subst hue
      obtain ⟨w1, hm1, HMW⟩ := make_I wr n3 (by omega)
      obtain ⟨go, hgo⟩ : ∃ go, go = wr.heap.size := ⟨_, rfl⟩
      obtain ⟨Bf, hBf⟩ : ∃ Bf, Bf = w1.heap.size := ⟨_, rfl⟩
      have hgoB : go < Bf := by rw [hgo, hBf, HMW.out]; simp
      have HLS : Hid (LS w (.slice Al n3 cl) u9 (.slice none 0 0) go Bf Lk Dk (List.replicate n3 0) [] w1) := by
        have hb : Below wr.heap.size wr w1 := by rw [HMW.out]; exact bl_alloc (Below.refl _ _) _
        have h1 := HTT.out.below hb
        refine ⟨h1.own, h1.owd, h1.sep, ?_, World.ownsRow_nil _ _ _ _, h1.bel, fun g hg => ?_, fun g hg => ?_, hgoB, by rw [hgo]; exact HTT.out.bel.size, by omega⟩
        · rw [HMW.out, hgo]
          have e : (rowV n3 fun _ => Value.int .i64 0) = ((List.replicate n3 (0 : Int)).map (Value.int .i64)).toArray := by
            unfold rowV; congr 1
            apply List.ext_getElem?
            intro i
            by_cases hi : i < n3 <;> simp [hi]
          rw [← e]; exact Bk.new _ _ _
        · rw [hgo]; exact (own_lt HTT.out.own hg).2
        · rw [hgo]; exact (own_lt HTT.out.owd hg).2
      rw [← hgo] at hm1
      have HTS0 : Hid (trkS T 0 = 0) := rfl
      have HF1 : Hid (∀ i, i < n3 → (Lk[i]? : Option Tr) = Lk[i]?) := fun _ _ => rfl
      have hs3 : (n3 : Int) ≤ 219 := by omega
      clear HT HTT hLT hn3 hgo hBf HB HTL HX219 HB0 HD HH1 HH2 HCL hcm hcn
      go_wp2_with fail
      clear hm1
      go_loopw [13, 14, 93] (fun fv sv i wr => ∃ (k : Nat) (M : List Tr) (O : List Int), k ≤ n3 ∧ i = .int .i64 k ∧ sv = .int .i64 (trkS T k) ∧ Hid (M.length = n3) ∧ Hid (O.length = n3) ∧ Hid (∀ i, i < k → M[i]? = T[i]?) ∧ Hid (∀ i, k ≤ i → M[i]? = Lk[i]?) ∧ Hid (∀ i, i < k → O[i]? = (T.map (ownT R))[i]?) ∧ Hid (∀ i, k ≤ i → i < n3 → O[i]? = some 0) ∧ Hid (LS w (.slice Al n3 cl) u9 fv go Bf M Dk O ((T.take k).map facT) wr)) (fun _ _ i _ => n3 - (intOf i).toNat)
      case atStart => exact ⟨0, Lk, List.replicate n3 0, by omega, rfl, rfl, HLT.out, by simp [Hid], fun i h => by omega, fun _ _ => rfl, fun i h => by omega, fun i _ h => by simp [h], HLS.out⟩
      case round =>
        clear HLS
        obtain ⟨k, M, O, hk, rfl, rfl, HML, HOL, HM1, HM2, HO1, HO2, HS⟩ := hrel
        by_cases hlt : k < n3
        · skip
          have hik : (k : Int) < (n3 : Int) := by omega
          obtain ⟨x, hx⟩ : ∃ x, Lk[k]? = some x := ⟨_, List.getElem?_eq_getElem (by rw [HLT.out]; exact hlt)⟩
          have hMk : M[k]? = some x := by rw [HM2.out k (Nat.le_refl _)]; exact hx
          obtain ⟨gl, hA, hgl, fr0, d0, d1⟩ := HS.out.cellsT hMk
          have hTk : T[k]? = some (hdT R x) := by rw [HTM.out, List.getElem?_map, hx]; rfl
          have hkd := HKD.out _ (List.mem_of_getElem? hTk)
          have HST : Hid (LS w (.slice (some ⟨gl, 0, none⟩) n3 cl) u9 u13 go Bf (M.set k ⟨0, x.n⟩) Dk O ((T.take k).map facT) (wr.setCell ⟨gl, k * 2, none⟩ (.int .i64 0))) := by
            have h := HS.out; rw [hA] at h; exact h.setT hMk 0
          have HTA : Hid (trA T k = hdT R x) := trA_eq hTk
          have HMS : Hid (∀ y, y.n = x.n → y.k = kdT R x.k → (M.set k y)[k]? = T[k]?) := fun y h1 h2 => by
            rw [List.getElem?_set_self (by rw [HML.out]; exact hlt), hTk]
            obtain ⟨yk, yn⟩ := y
            simp only at h1 h2
            rw [h1, h2]; rfl
          have HMX : Hid (M.set k x = M) := by
            apply List.ext_getElem?
            intro i
            by_cases e : i = k
            · subst e; rw [List.getElem?_set_self (by rw [HML.out]; exact hlt), hMk]
            · rw [List.getElem?_set_ne (Ne.symm e)]
          have hkd2 : (hdT R x).k = kdT R x.k := rfl
          rw [hkd2] at hkd
          subst hA
          clear hx hMk hTk hkd2
          obtain ⟨tk, tn⟩ := x
          simp only at d0 d1 hkd HST HMS
          obtain ⟨bd, hbd⟩ : ∃ bd, bd = decide (tk < 0 ∨ 3 < tk ∨ (R < 0 ∧ 1 < tk)) := ⟨_, rfl⟩
          have hkdb : kdT R tk = if bd = true then 0 else tk := by rw [hbd]; unfold kdT; simp
          have HBD := Lib.hid hbd
          have HKB := Lib.hid hkdb
          clear hbd hkdb
          go_upto_region 20 with fail
          rename World => wk
          go_cut [121] (fun s wx => s = .bool bd ∧ wx = wk)
          case first =>
            by_cases c1 : tk < 0
            · have HB1 : Hid (bd = true) := by rw [HBD.out]; exact decide_eq_true (.inl c1)
              go_wp2_with fail
              go_meet
              case rel => exact ⟨by rw [HB1.out], rfl⟩
            · by_cases c2 : 3 < tk
              · have HB1 : Hid (bd = true) := by rw [HBD.out]; exact decide_eq_true (.inr (.inl c2))
                go_wp2_with fail
                go_meet
                case rel => exact ⟨by rw [HB1.out], rfl⟩
              · by_cases c3 : R < 0
                · by_cases c4 : 1 < tk
                  · have HB1 : Hid (bd = true) := by rw [HBD.out]; exact decide_eq_true (.inr (.inr ⟨c3, c4⟩))
                    go_wp2_with fail
                    go_meet
                    case rel => exact ⟨by rw [HB1.out], rfl⟩
                  · have HB1 : Hid (bd = false) := by rw [HBD.out]; exact decide_eq_false (by omega)
                    go_wp2_with fail
                    go_meet
                    case rel => exact ⟨by rw [HB1.out], rfl⟩
                · have HB1 : Hid (bd = false) := by rw [HBD.out]; exact decide_eq_false (by omega)
                  go_wp2_with fail
                  go_meet
                  case rel => exact ⟨by rw [HB1.out], rfl⟩
          case rest =>
          obtain ⟨rfl, rfl⟩ := hcut
          obtain ⟨kd, hkd3⟩ : ∃ kd, kd = kdT R tk := ⟨_, rfl⟩
          rw [← hkd3] at hkd HKB HMS
          have HKD3 := Lib.hid hkd3
          clear hkd3
          go_upto_if 121 with fail
          go_cut [122] (fun _ wx => Hid (LS w (.slice (some ⟨gl, 0, none⟩) n3 cl) u9 u13 go Bf (M.set k ⟨kd, tn⟩) Dk O ((T.take k).map facT) wx))
          case first =>
            cases bd
            · have HE : Hid ((⟨kd, tn⟩ : Tr) = ⟨tk, tn⟩) := by rw [HKB.out]; rfl
              go_wp2_with fail
              go_meet
              case rel => rw [HE.out, HMX.out]; exact HS.out
            · have HE : Hid ((⟨kd, tn⟩ : Tr) = ⟨0, tn⟩) := by rw [HKB.out]; rfl
              go_wp2_with fail
              go_meet
              case rel => rw [HE.out]; exact HST.out
          case rest =>
          have HS2 := hcut
          have HMK : Hid ((M.set k ⟨kd, tn⟩)[k]? = some ⟨kd, tn⟩) := by unfold Hid; rw [List.getElem?_set_self (by rw [HML.out]; exact hlt)]
          clear HST HS hcut d0 d1 fr0 hgl
          obtain ⟨M2, hM2⟩ : ∃ M2, M2 = M.set k ⟨kd, tn⟩ := ⟨_, rfl⟩
          have HM2E := Lib.hid hM2
          rw [← hM2] at HMK HS2
          clear hM2
          obtain ⟨gl2, hA, hgl, fr0, d0, d1⟩ := HS2.out.cellsT HMK.out
          injection hA with hA
          injection hA with hA
          subst hA
          simp only at d0 d1
          have HML2 : Hid (M2.length = n3) := by rw [HM2E.out, List.length_set]; exact HML.out
          have HM12 : Hid (∀ i, i < k + 1 → M2[i]? = T[i]?) := fun i hi => by
            rw [HM2E.out]
            by_cases e : i = k
            · subst e; exact HMS.out _ rfl rfl
            · rw [List.getElem?_set_ne (Ne.symm e)]; exact HM1.out i (by omega)
          have HM22 : Hid (∀ i, k + 1 ≤ i → M2[i]? = Lk[i]?) := fun i hi => by
            rw [HM2E.out, List.getElem?_set_ne (by omega)]; exact HM2.out i (by omega)
          have HKK : Hid (trA T k = ⟨kd, tn⟩) := by rw [HTA.out, HKD3.out]; rfl
          have HTSS : Hid (trkS T (k + 1) = trkS T k + facT ⟨kd, tn⟩) := by unfold Hid; rw [trkS_succ, HKK.out]
          have HTKF : Hid ((T.take (k + 1)).map facT = (T.take k).map facT ++ [facT ⟨kd, tn⟩]) := by
            have hk3 : k < T.length := by rw [← HN3.out]; exact hlt
            unfold Hid
            rw [List.take_succ_eq_append_getElem hk3, List.map_append, ← HKK.out, trA_eq (List.getElem?_eq_getElem hk3)]; rfl
          have HFL : Hid (((T.take k).map facT).length = k) := by
            have hk3 : k < T.length := by rw [← HN3.out]; exact hlt
            unfold Hid; rw [List.length_map, List.length_take]; omega
          have HOT : Hid (∀ i, i < k + 1 → (O.set k (ownT R ⟨kd, tn⟩))[i]? = (T.map (ownT R))[i]?) := fun i hi => by
            by_cases e : i = k
            · subst e
              rw [List.getElem?_set_self (by rw [HOL.out]; exact hlt), List.getElem?_map]
              have hk3 : i < T.length := by rw [← HN3.out]; exact hlt
              rw [List.getElem?_eq_getElem hk3, ← trA_eq (List.getElem?_eq_getElem hk3), HKK.out]; rfl
            · rw [List.getElem?_set_ne (Ne.symm e)]; exact HO1.out i (by omega)
          have HOT2 : Hid (∀ i, k + 1 ≤ i → i < n3 → (O.set k (ownT R ⟨kd, tn⟩))[i]? = some 0) := fun i h1 h2 => by
            rw [List.getElem?_set_ne (by omega)]; exact HO2.out i (by omega) h2
          have HOX : Hid (ownT R ⟨kd, tn⟩ = 0 → O.set k (ownT R ⟨kd, tn⟩) = O) := fun h => by
            rw [h]
            apply List.ext_getElem?
            intro i
            by_cases e : i = k
            · subst e; rw [List.getElem?_set_self (by rw [HOL.out]; exact hlt), HO2.out i (Nat.le_refl _) hlt]
            · rw [List.getElem?_set_ne (Ne.symm e)]
          have HOL2 : Hid ((O.set k (ownT R ⟨kd, tn⟩)).length = n3) := by unfold Hid; rw [List.length_set]; exact HOL.out
          have hsb := trkS_bd T k
          have hfb := facT_bd ⟨kd, tn⟩
          have HOWB := Lib.hid (ownT_bd hR ⟨kd, tn⟩ hkd.2.2)
          have hg0 := HS2.out.out.free k
          have hgl0 := HS2.out.out.lt
          have co := HS2.out.cellO (i := k) (by rw [HOL.out]; exact hlt)
          have HSO := Lib.hid (HS2.out.setO k (ownT R ⟨kd, tn⟩))
          have f1 := fold_max; have f2 := fold_min
          have hn3 : (k : Int) < (n3 : Int) := hik
          clear HM1 HM2 HMS HMX HMK HTA HO1 HO2
          have hk4 : kd = 0 ∨ kd = 1 ∨ kd = 2 ∨ kd = 3 := by omega
          rcases hk4 with rfl | rfl | rfl | rfl
          · have HFV : Hid (facT ⟨0, tn⟩ = 0) := rfl
            have HSX : Hid (LS w (.slice (some ⟨gl, 0, none⟩) n3 cl) u9 u13 go Bf M2 Dk (O.set k (ownT R ⟨0, tn⟩)) ((T.take k).map facT) wc) := by rw [HOX.out rfl]; exact HS2.out
            clear f1 f2
            have HOF : Hid ((wc).ownsRow Bf 3 1 u13 k (((T.take k).map facT).map (Value.int .i64))) := by have := HSX.out.ofv; rw [HFL.out] at this; exact this
            have hbw := HSX.out.bw
            go_wp2_with (first | fail | (at_builtin; refine wp_push rfl _ _ 27 rfl Bf 3 Try.underlying27 inf_int rfl (by decide) (wc) u13 k (((T.take k).map facT).map (Value.int .i64)) [.int .i64 (0)] rfl rfl rfl HOF.out rfl (by simp [Value.oneCell']) (by omega) (by omega) hbw ?_; intro v5 w5 hpush; have HPU := Lib.hid hpush; clear hpush))
            go_roundw
            case rel =>
              refine ⟨k + 1, M2, O.set k (ownT R ⟨0, tn⟩), by omega, by go_num, by rw [HTSS.out, HFV.out]; try (first | rfl | rw [Int.add_zero]), HML2.out, HOL2.out, HM12.out, HM22.out, HOT.out, HOT2.out, ?_⟩
              rw [HTKF.out, HFV.out]
              exact HSX.out.pushF _ (by rw [HFL.out]; exact HPU.out)
            case measure => simp [intOf]; omega
          · have HFV : Hid (facT ⟨1, tn⟩ = 0) := rfl
            have HOV : Hid (ownT R ⟨1, tn⟩ = max 0 (hld tn)) := rfl
            obtain ⟨wy, hwy⟩ : ∃ wy, wy = wc.setCell ⟨go, k, none⟩ (.int .i64 (max 0 (hld tn))) := ⟨_, rfl⟩
            have HWY := Lib.hid hwy
            have HSX : Hid (LS w (.slice (some ⟨gl, 0, none⟩) n3 cl) u9 u13 go Bf M2 Dk (O.set k (ownT R ⟨1, tn⟩)) ((T.take k).map facT) wy) := by rw [hwy]; exact HSO.out
            clear hwy
            go_upto_region 31 with (go_at_call 28; refine (c_heldG _ _).mono ?_; rintro e w' ⟨rfl, rfl⟩)
            rw [← HWY.out]
            have HOF : Hid ((wy).ownsRow Bf 3 1 u13 k (((T.take k).map facT).map (Value.int .i64))) := by have := HSX.out.ofv; rw [HFL.out] at this; exact this
            have hbw := HSX.out.bw
            go_wp2_with (first | fail | (at_builtin; refine wp_push rfl _ _ 27 rfl Bf 3 Try.underlying27 inf_int rfl (by decide) (wy) u13 k (((T.take k).map facT).map (Value.int .i64)) [.int .i64 (0)] rfl rfl rfl HOF.out rfl (by simp [Value.oneCell']) (by omega) (by omega) hbw ?_; intro v5 w5 hpush; have HPU := Lib.hid hpush; clear hpush))
            go_roundw
            case rel =>
              refine ⟨k + 1, M2, O.set k (ownT R ⟨1, tn⟩), by omega, by go_num, by rw [HTSS.out, HFV.out]; try (first | rfl | rw [Int.add_zero]), HML2.out, HOL2.out, HM12.out, HM22.out, HOT.out, HOT2.out, ?_⟩
              rw [HTKF.out, HFV.out]
              exact HSX.out.pushF _ (by rw [HFL.out]; exact HPU.out)
            case measure => simp [intOf]; omega
          · have HFV : Hid (facT ⟨2, tn⟩ = 0) := rfl
            have hR0 : 0 ≤ R := by omega
            have hfc := fac_bd tn
            have hPb : 0 ≤ R * fac tn ∧ R * fac tn ≤ 16777216 * 1000000000 := ⟨Int.mul_nonneg hR0 hfc.1, Int.mul_le_mul hR.2 hfc.2 hfc.1 (by omega)⟩
            obtain ⟨PP, hPP⟩ : ∃ PP, PP = R * fac tn := ⟨_, rfl⟩
            rw [← hPP] at hPb
            have HOV : Hid (ownT R ⟨2, tn⟩ = PP / 100000) := by rw [hPP]; rfl
            have v1 : IntKind.i64.wrap (R * max 0 (min tn 1000000000)) = PP := by rw [hPP]; exact IntWalk.i64_in _ (by show _ ≤ R * fac tn ∧ R * fac tn ≤ _; rw [← hPP]; omega)
            obtain ⟨wy, hwy⟩ : ∃ wy, wy = wc.setCell ⟨go, k, none⟩ (.int .i64 (PP / 100000)) := ⟨_, rfl⟩
            have HWY := Lib.hid hwy
            have HSX : Hid (LS w (.slice (some ⟨gl, 0, none⟩) n3 cl) u9 u13 go Bf M2 Dk (O.set k (ownT R ⟨2, tn⟩)) ((T.take k).map facT) wy) := by rw [hwy, ← HOV.out]; exact HSO.out
            clear hwy hPP
            go_upto_region 31 with fail
            rw [← HWY.out]
            have HOF : Hid ((wy).ownsRow Bf 3 1 u13 k (((T.take k).map facT).map (Value.int .i64))) := by have := HSX.out.ofv; rw [HFL.out] at this; exact this
            have hbw := HSX.out.bw
            go_wp2_with (first | fail | (at_builtin; refine wp_push rfl _ _ 27 rfl Bf 3 Try.underlying27 inf_int rfl (by decide) (wy) u13 k (((T.take k).map facT).map (Value.int .i64)) [.int .i64 (0)] rfl rfl rfl HOF.out rfl (by simp [Value.oneCell']) (by omega) (by omega) hbw ?_; intro v5 w5 hpush; have HPU := Lib.hid hpush; clear hpush))
            go_roundw
            case rel =>
              refine ⟨k + 1, M2, O.set k (ownT R ⟨2, tn⟩), by omega, by go_num, by rw [HTSS.out, HFV.out]; try (first | rfl | rw [Int.add_zero]), HML2.out, HOL2.out, HM12.out, HM22.out, HOT.out, HOT2.out, ?_⟩
              rw [HTKF.out, HFV.out]
              exact HSX.out.pushF _ (by rw [HFL.out]; exact HPU.out)
            case measure => simp [intOf]; omega
          · have HFV : Hid (facT ⟨3, tn⟩ = max 0 (min tn 1000000000)) := rfl
            have HSX : Hid (LS w (.slice (some ⟨gl, 0, none⟩) n3 cl) u9 u13 go Bf M2 Dk (O.set k (ownT R ⟨3, tn⟩)) ((T.take k).map facT) wc) := by rw [HOX.out rfl]; exact HS2.out
            have hfc := fac_bd tn
            have v1 : IntKind.i64.wrap (trkS T k + max 0 (min tn 1000000000)) = trkS T k + max 0 (min tn 1000000000) := IntWalk.i64_in _ (by omega)
            have HOF : Hid ((wc).ownsRow Bf 3 1 u13 k (((T.take k).map facT).map (Value.int .i64))) := by have := HSX.out.ofv; rw [HFL.out] at this; exact this
            have hbw := HSX.out.bw
            go_wp2_with (first | fail | (at_builtin; refine wp_push rfl _ _ 27 rfl Bf 3 Try.underlying27 inf_int rfl (by decide) (wc) u13 k (((T.take k).map facT).map (Value.int .i64)) [.int .i64 (max 0 (min tn 1000000000))] rfl rfl rfl HOF.out rfl (by simp [Value.oneCell']) (by omega) (by omega) hbw ?_; intro v5 w5 hpush; have HPU := Lib.hid hpush; clear hpush))
            go_roundw
            case rel =>
              refine ⟨k + 1, M2, O.set k (ownT R ⟨3, tn⟩), by omega, by go_num, by rw [HTSS.out, HFV.out]; try (first | rfl | rw [Int.add_zero]), HML2.out, HOL2.out, HM12.out, HM22.out, HOT.out, HOT2.out, ?_⟩
              rw [HTKF.out, HFV.out]
              exact HSX.out.pushF _ (by rw [HFL.out]; exact HPU.out)
            case measure => simp [intOf]; omega
        · obtain rfl : k = n3 := by omega
          have hik : ¬ (k : Int) < (k : Int) := by omega
          have HMT : Hid (M = T) := by
            apply List.ext_getElem?
            intro i
            by_cases hi : i < k
            · exact HM1.out i hi
            · rw [List.getElem?_eq_none (by rw [HML.out]; omega), List.getElem?_eq_none (by rw [← HN3.out]; omega)]
          have HOE : Hid (O = T.map (ownT R)) := by
            apply List.ext_getElem?
            intro i
            by_cases hi : i < k
            · exact HO1.out i hi
            · rw [List.getElem?_eq_none (by rw [HOL.out]; omega), List.getElem?_eq_none (by rw [List.length_map, ← HN3.out]; omega)]
          have HFA : Hid ((T.take k).map facT = T.map facT) := by unfold Hid; rw [HN3.out, List.take_length]
          have HS2 : Hid (LS w (.slice Al k cl) u9 u13 go Bf T Dk (T.map (ownT R)) (T.map facT) wr) := by have := HS.out; rw [HMT.out, HOE.out, HFA.out] at this; exact this
          have HSO := Lib.hid (c_sort HS2.out.owd (by omega) (fun y hy => by rw [HDK.out] at hy; have := ndsK_mem hy; omega))
          have HOB : Hid (OB (T.map (ownT R))) := ownT_OB hR (fun x hx => (HKD.out x hx).2.2)
          obtain ⟨S, hS⟩ : ∃ S, S = srtN Dk := ⟨_, rfl⟩
          have HSE := Lib.hid hS
          rw [← hS] at HNB
          clear HM1 HM2 HO1 HO2 HS hS
          go_wp2_with fail
          refine HSO.out.mono ?_
          rintro e w' ⟨⟨u, rfl⟩, hso, hkp⟩
          rw [← HSE.out] at hso
          have HS3 := Lib.hid (HS2.out.sorted hkp hso)
          have hSl : S.length ≤ 200 := by
            have h1 : S.length = Dk.length := by
              have h2 := (RdS.of_own hso).1
              obtain ⟨_, A5, c5, h5, _⟩ := RdS.of_own hso
              obtain ⟨_, A6, c6, h6, _⟩ := RdS.of_own HS2.out.owd
              rw [h5] at h6
              injection h6
            omega
          clear hso hkp HSO HS2
          obtain ⟨ns, hns⟩ : ∃ ns, ns = S.length := ⟨_, rfl⟩
          obtain ⟨_, Ad, cd, hue, hcd, _⟩ := RdS.of_own HS3.out.owd
          rw [← hns] at hue hcd hSl
          have HNS := Lib.hid hns
          have HS4 := Lib.hid HS3.out
          subst hue
          clear HS3 hns
          go_wp2_with fail
          go_loopw [174] (fun i wr => ∃ (k2 : Nat) (O : List Int), k2 ≤ ns ∧ i = .int .i64 k2 ∧ Hid (O = (S.take k2).foldl (fillT T G) (T.map (ownT R))) ∧ Hid (OB O) ∧ Hid (LS w (.slice Al k cl) (.slice Ad ns cd) u13 go Bf T S O (T.map facT) wr)) (fun i _ => ns - (intOf i).toNat)
          case atStart => exact ⟨0, _, by omega, rfl, rfl, HOB.out, HS4.out⟩
          case round =>
            clear HS4
            obtain ⟨k2, O2, hk2, rfl, HO2, HOB2, HS5⟩ := hrel
            by_cases hlt2 : k2 < ns
            · skip
              have hik2 : (k2 : Int) < (ns : Int) := by omega
              obtain ⟨x, hx⟩ : ∃ x, S[k2]? = some x := ⟨_, List.getElem?_eq_getElem (by rw [← HNS.out]; exact hlt2)⟩
              have hrd := rd_own_lt HS5.out.owd HS5.out.dgo
              rw [← HNS.out] at hrd
              obtain ⟨g, o, hA, hg, f1⟩ := rd_nd hrd hx
              obtain ⟨d0, d1, d2⟩ := f1 wr (Below.refl _ _)
              have hnb := HNB.out x (List.mem_of_getElem? hx)
              have HNX : Hid ((S.take (k2 + 1)).foldl (fillT T G) (T.map (ownT R)) = fillT T G O2 x) := by rw [HO2.out]; exact foldF_take hx
              have HLO : Hid (O2.length = k) := by unfold Hid; rw [HO2.out, foldF_len, List.length_map, ← HN3.out]
              obtain ⟨Q, hQ⟩ : ∃ Q, Q = wr.heap.size := ⟨_, rfl⟩
              obtain ⟨wy, hwy⟩ : ∃ wy, wy = wr.alloc (.cells #[.int .i64 x.fr, .int .i64 x.sp, .int .i64 x.sz] 46) := ⟨_, rfl⟩
              have HWY := Lib.hid hwy; have HQ := Lib.hid hQ
              have hbx : Bk wy Q 46 #[.int .i64 x.fr, .int .i64 x.sp, .int .i64 x.sz] := by rw [hwy]; exact bk_new' _ _ _ hQ
              have e0 : wy.cell? ⟨Q, 0, none⟩ = some (.int .i64 x.fr) := by rw [hbx.cell]; rfl
              have e1 : wy.cell? ⟨Q, 1, none⟩ = some (.int .i64 x.sp) := by rw [hbx.cell]; rfl
              have e2 : wy.cell? ⟨Q, 2, none⟩ = some (.int .i64 x.sz) := by rw [hbx.cell]; rfl
              have HS6 : Hid (LS w (.slice Al k cl) (.slice Ad ns cd) u13 go Bf T S O2 (T.map facT) wy) := by rw [hwy]; exact HS5.out.below (bl_alloc (Below.refl _ _) _)
              have hrl := rd_own_lt HS6.out.own HS6.out.lgo
              rw [← HN3.out] at hrl
              have HFI := Lib.hid (c_fill (gap := G) hrl HS6.out.out (Nat.le_refl _) HLO.out (by omega) (by rw [HN3.out]; exact hnb) HOB2.out hG)
              have HOB3 := Lib.hid (fillT_bd (l := T) hG HOB2.out (x := x) (by rw [HLO.out, HN3.out]; exact hnb))
              subst hA
              clear hx f1 hrd hrl hnb hwy hQ hbx
              obtain ⟨O3, hO3⟩ : ∃ O3, O3 = fillT T G O2 x := ⟨_, rfl⟩
              rw [← hO3] at HNX HFI HOB3
              obtain ⟨xf, xs, xz⟩ := x
              simp only at d0 d1 d2 e0 e1 e2 HWY HFI
              clear hO3
              go_upto_region 37 with fail
              rw [← HQ.out, ← HWY.out]
              clear d0 d1 d2
              go_wp2_with fail
              refine HFI.out.mono ?_
              rintro e w' ⟨⟨u, rfl⟩, hbk, hkp⟩
              have HS7 := Lib.hid (HS6.out.fill hkp hbk)
              clear hbk hkp e0 e1 e2
              go_wp2_with fail
              go_roundw
              case rel => exact ⟨k2 + 1, O3, by omega, by go_num, HNX.out.symm, HOB3.out, HS7.out⟩
              case measure => simp [intOf]; omega
            · obtain rfl : k2 = ns := by omega
              have hik2 : ¬ (k2 : Int) < (k2 : Int) := by omega
              have HOF : Hid (O2 = trkO T R G Dk) := by rw [HO2.out, HNS.out, List.take_length, HSE.out]; rfl
              have HLO : Hid (O2.length = k) := by unfold Hid; rw [HO2.out, foldF_len, List.length_map, ← HN3.out]
              have hgl := gap_len hG hT219
              have HSB : Hid (∀ j, j ≤ k → 0 ≤ sumTo (szA O2) j ∧ sumTo (szA O2) j ≤ 167772160000 * j) := fun j hj => sum_OB HOB2.out (by rw [HLO.out]; exact hj)
              obtain ⟨GL, hGL⟩ : ∃ GL, GL = G * max 0 ((k : Int) - 1) := ⟨_, rfl⟩
              rw [← hGL] at hgl
              have HGL := Lib.hid hGL
              have v1 : IntKind.i64.wrap ((k : Int) - 1) = (k : Int) - 1 := IntWalk.i64_in _ (by omega)
              have v2 : IntKind.i64.wrap (G * max 0 ((k : Int) - 1)) = GL := by rw [hGL]; exact IntWalk.i64_in _ (by rw [← hGL]; omega)
              have v3 : IntKind.i64.wrap (R - GL) = R - GL := IntWalk.i64_in _ (by omega)
              have f1 := fold_max
              clear hGL HO2
              go_wp2_with fail
              clear v1 v2 v3
              go_loop [20, 194] (fun l i => ∃ j : Nat, j ≤ k ∧ i = .int .i64 j ∧ l = .int .i64 (R - GL - sumTo (szA O2) j)) (fun _ i => k - (intOf i).toNat)
              case atStart => exact ⟨0, by omega, rfl, by simp [sumTo]⟩
              case round =>
                obtain ⟨j, hj, rfl, rfl⟩ := hrel
                by_cases hlt3 : j < k
                · have hik3 : (j : Int) < (k : Int) := by omega
                  have co := HS5.out.cellO (i := j) (by rw [HLO.out]; exact hlt3)
                  have hb1 := HSB.out j hj
                  have hb2 := HSB.out (j + 1) hlt3
                  have HSS : Hid (sumTo (szA O2) (j + 1) = sumTo (szA O2) j + szA O2 j) := rfl
                  rw [HSS.out] at hb2
                  obtain ⟨sj, hsj⟩ : ∃ sj, sj = sumTo (szA O2) j := ⟨_, rfl⟩
                  obtain ⟨zj, hzj⟩ : ∃ zj, zj = szA O2 j := ⟨_, rfl⟩
                  rw [← hsj, ← hzj] at HSS hb2
                  rw [← hsj] at hb1 ⊢
                  rw [← hzj] at co
                  clear hsj hzj
                  go_wp2_with fail
                  go_round
                  case rel => exact ⟨j + 1, by omega, by go_num, by rw [HSS.out]; congr 1; omega⟩
                  case measure => simp [intOf]; omega
                · obtain rfl : j = k := by omega
                  have hik3 : ¬ (j : Int) < (j : Int) := by omega
                  have HLE : Hid (R - GL - sumTo (szA O2) j = leftT T R G O2) := by unfold Hid leftT; rw [HGL.out, ← HN3.out]
                  have hb1 := HSB.out j (Nat.le_refl _)
                  have hlb : -40000000000000 ≤ R - GL - sumTo (szA O2) j ∧ R - GL - sumTo (szA O2) j ≤ 3690987520 := by omega
                  have hsu := trkS_bd T j
                  obtain ⟨LF, hLF⟩ : ∃ LF, LF = R - GL - sumTo (szA O2) j := ⟨_, rfl⟩
                  rw [← hLF] at HLE hlb ⊢
                  have HRE : Hid (R < 0 ∨ LF ≤ 0 ∨ trkS T j = 0 → res = O2) := fun h => by
                    rw [HTR.out]; unfold trkR
                    rw [← HN3.out, ← HOF.out, ← HLE.out, if_pos h]
                  have HRI : Hid (¬ (R < 0 ∨ LF ≤ 0 ∨ trkS T j = 0) → res = (List.range j).map fun i => szA O2 i + (porT T LF (i + 1) - porT T LF i)) := fun h => by
                    rw [HTR.out]; unfold trkR
                    rw [← HN3.out, ← HOF.out, ← HLE.out, if_neg h]
                  have HEND : Hid (res = O2 → TkRet w res (.returned (.slice (some ⟨go, 0, none⟩) j j)) wr) := fun h => by
                    rw [h]
                    exact ⟨go, by rw [HLO.out], HS5.out.g0, HS5.out.out, HS5.out.bel⟩
                  obtain ⟨SU, hSU⟩ : ∃ SU, SU = trkS T j := ⟨_, rfl⟩
                  rw [← hSU] at hsu HRE HRI ⊢
                  have HSUE := Lib.hid hSU
                  clear hLF hSU hb1
                  by_cases c1 : R < 0
                  · skip
                    go_wp2_with fail
                    go_ret
                    exact HEND.out (HRE.out (.inl c1))
                  · by_cases c2 : LF ≤ 0
                    · skip
                      go_wp2_with fail
                      go_ret
                      exact HEND.out (HRE.out (.inr (.inl c2)))
                    · by_cases c3 : SU = 0
                      · have c3b : (SU == 0) = true := by simpa using c3
                        have HC3 := Lib.hid c3
                        clear c3
                        go_wp2_with fail
                        go_ret
                        exact HEND.out (HRE.out (.inr (.inr HC3.out)))
                      · have c3b : (SU == 0) = false := by simpa using c3
                        have HRR : Hid (res = (List.range j).map fun i => szA O2 i + (porT T LF (i + 1) - porT T LF i)) := HRI.out (by omega)
                        have HRF := Lib.hid (RdS.of_own HS5.out.ofv)
                        obtain ⟨_, Af, cf, hue, hcf, _⟩ := HRF.out
                        have hFl : (T.map facT).length = j := by rw [List.length_map, ← HN3.out]
                        rw [hFl] at hue hcf
                        have HFL := Lib.hid hFl
                        subst hue
                        clear hFl HRE HRI HEND
                        go_wp2_with fail
                        clear c3b
                        go_loopw [23, 24, 215] (fun h s i wr => ∃ (q : Nat) (O : List Int), q ≤ j ∧ i = .int .i64 q ∧ h = .int .i64 (porT T LF q) ∧ s = .int .i64 (trkS T q) ∧ Hid (O.length = j) ∧ Hid (∀ i, i < q → O[i]? = res[i]?) ∧ Hid (∀ i, q ≤ i → O[i]? = O2[i]?) ∧ Hid (LS w (.slice Al j cl) (.slice Ad k2 cd) (.slice Af j cf) go Bf T S O (T.map facT) wr)) (fun _ _ i _ => j - (intOf i).toNat)
                        case atStart => exact ⟨0, O2, by omega, rfl, by simp [porT, trkS, sumTo], rfl, HLO.out, fun i h => by omega, fun _ _ => rfl, HS5.out⟩
                        case round =>
                          obtain ⟨q, O, hq, rfl, rfl, rfl, HOL3, HOA, HOB3, HS6⟩ := hrel
                          by_cases hlt4 : q < j
                          · have hik4 : (q : Int) < (j : Int) := by omega
                            obtain ⟨x, hx⟩ : ∃ x, T[q]? = some x := ⟨_, List.getElem?_eq_getElem (by rw [← HN3.out]; exact hlt4)⟩
                            have hFq : (T.map facT)[q]? = some (facT x) := by rw [List.getElem?_map, hx]; rfl
                            have hTq := trA_eq hx
                            have HSS : Hid (trkS T (q + 1) = trkS T q + facT x) := by unfold Hid; rw [trkS_succ, hTq]
                            have hrf := RdS.of_own HS6.out.ofv
                            rw [HFL.out] at hrf
                            obtain ⟨g, o, hA, _, hcf2⟩ := rd_int hrf hlt4
                            have cF := hcf2 wr (Below.refl _ _)
                            rw [szA_eq hFq] at cF
                            have hfb := facT_bd x
                            have hs1 := trkS_bd T q
                            have hs2 := trkS_mono T (show q + 1 ≤ T.length by rw [← HN3.out]; exact hlt4)
                            rw [← HN3.out, ← HSUE.out, HSS.out] at hs2
                            have hO2b := HOB2.out q (by rw [HLO.out]; exact hlt4)
                            have co := HS6.out.cellO (i := q) (by rw [HOL3.out]; exact hlt4)
                            have hoe : szA O q = szA O2 q := by unfold szA; rw [List.getD_eq_getElem?_getD, HOB3.out q (Nat.le_refl _), ← List.getD_eq_getElem?_getD]
                            rw [hoe] at co
                            have hp1 := porT_bd (T := T) (left := LF) (by omega) (k := q) (by rw [← HN3.out]; omega)
                            have hp2 := porT_bd (T := T) (left := LF) (by omega) (k := q + 1) (by rw [← HN3.out]; omega)
                            have HPN : Hid (LF * (trkS T q + facT x) / max SU 1000 = porT T LF (q + 1)) := by unfold Hid porT; rw [HSS.out, ← HN3.out, ← HSUE.out]
                            have HRQ : Hid (res[q]? = some (szA O2 q + (porT T LF (q + 1) - porT T LF q))) := by unfold Hid; rw [HRR.out, List.getElem?_map, List.getElem?_range hlt4]; rfl
                            subst hA
                            clear hx hFq hTq hrf hcf2 hoe
                            obtain ⟨fx, hfx⟩ : ∃ fx, fx = facT x := ⟨_, rfl⟩
                            obtain ⟨sq, hsq⟩ : ∃ sq, sq = trkS T q := ⟨_, rfl⟩
                            obtain ⟨pq, hpq⟩ : ∃ pq, pq = porT T LF q := ⟨_, rfl⟩
                            obtain ⟨pn, hpn⟩ : ∃ pn, pn = porT T LF (q + 1) := ⟨_, rfl⟩
                            obtain ⟨zq, hzq⟩ : ∃ zq, zq = szA O2 q := ⟨_, rfl⟩
                            rw [← hfx] at hfb cF hs2 HSS HPN
                            rw [← hsq] at hs1 hs2 HSS HPN ⊢
                            rw [← hpq] at hp1 HRQ ⊢
                            rw [← hpn] at hp2 HPN HRQ
                            rw [← hzq] at hO2b co HRQ
                            have HSX := Lib.hid (HS6.out.setO q (zq + (pn - pq)))
                            have hg0 := HS6.out.out.free q
                            have hgl0 := HS6.out.out.lt
                            have f1 := fold_max
                            have HPNE := Lib.hid hpn
                            clear hfx hsq hpq hpn hzq
                            have v1 : IntKind.i64.wrap (sq + fx) = sq + fx := IntWalk.i64_in _ (by omega)
                            go_wp2_with (go_at_call 33; refine (c_Times LF (sq + fx) (max SU 1000) _ (by omega) (by omega) (by omega) (by omega) (by omega)).mono ?_; rintro e w' ⟨rfl, n5, rfl⟩; rw [HPN.out])
                            go_roundw
                            case rel =>
                              refine ⟨q + 1, O.set q (zq + (pn - pq)), by omega, by go_num, by rw [← HPNE.out], by rw [HSS.out], by unfold Hid; rw [List.length_set]; exact HOL3.out, fun i hi => ?_, fun i hi => ?_, HSX.out.below (bl_drewN (Below.refl _ _) n5)⟩
                              · by_cases e : i = q
                                · subst e; rw [List.getElem?_set_self (by rw [HOL3.out]; exact hlt4), HRQ.out]
                                · rw [List.getElem?_set_ne (Ne.symm e)]; exact HOA.out i (by omega)
                              · rw [List.getElem?_set_ne (by omega)]; exact HOB3.out i (by omega)
                            case measure => simp [intOf]; omega
                          · obtain rfl : q = j := by omega
                            have hik4 : ¬ (q : Int) < (q : Int) := by omega
                            have HRL : Hid (O = res) := by
                              apply List.ext_getElem?
                              intro i
                              by_cases hi : i < q
                              · exact HOA.out i hi
                              · rw [List.getElem?_eq_none (by rw [HOL3.out]; omega), List.getElem?_eq_none (by rw [HRR.out, List.length_map, List.length_range]; omega)]
                            have HEND : Hid (TkRet w res (.returned (.slice (some ⟨go, 0, none⟩) q q)) wr) := by
                              rw [← HRL.out]
                              exact ⟨go, by rw [HOL3.out], HS6.out.g0, HS6.out.out, HS6.out.bel⟩
                            go_wp2_with fail
                            go_ret
                            exact HEND.out
end Go.Proofs.Ytdpnpjficcciiaa
