/- seat C: the reference's Share -/
import Derived.Test.YtdpnpjficcciiaaQd
import Derived.Test.YtdpnpjficcciiaaQc
import Derived.Test.YtdpnpjficcciiaaQp
import Derived.Test.YtdpnpjficcciiaaCf
import Derived.Deep.DrawnRows
namespace Go.Proofs.Ytdpnpjficcciiaa
set_option linter.unusedVariables false
set_option linter.unusedSimpArgs false
open Go.RowKit Go.Cas
attribute [local go_sem ↓] Go.wp_at_zero Go.wp_at_succ

def usF (L : List FI) (gap : Int) (k : Nat) : Int := sumTo (fun i => (itA L i).ar) k + gpS gap k
def wbF (L : List FI) (k : Nat) : Int := sumTo (fun i => bnd (itA L i) (itA L i).b) k
theorem usF_succ (L : List FI) (gap : Int) (k : Nat) : usF L gap (k + 1) = if 0 < k then usF L gap k + (itA L k).ar + gap else usF L gap k + (itA L k).ar := by
  unfold usF
  rw [gpS_succ]
  simp only [sumTo]
  split
  · omega
  · obtain rfl : k = 0 := by omega
    simp [sumTo, gpS]
theorem wbF_succ (L : List FI) (k : Nat) : wbF L (k + 1) = wbF L k + bnd (itA L k) (itA L k).b := rfl
theorem usF_bd {L : List FI} (hf : ∀ x ∈ L, FB x) {gap : Int} (hg : -16777216 ≤ gap ∧ gap ≤ 16777216) {k : Nat} (hk : k ≤ 200) : -6710886400 ≤ usF L gap k ∧ usF L gap k ≤ 6710886400 := by
  have h1 := sumTo_bd (f := fun i => (itA L i).ar) (lo := -16777216) (hi := 16777216) (n := k) (fun i _ => (itA_fb hf i).ar) k (Nat.le_refl _)
  have h2 := gap_bd hg (n := k - 1) (by omega)
  unfold usF gpS
  omega
theorem wbF_bd {L : List FI} (hf : ∀ x ∈ L, FB x) {k : Nat} (hk : k ≤ 200) : 0 ≤ wbF L k ∧ wbF L k ≤ 3355443200 := by
  have h1 := sumTo_bd (f := fun i => bnd (itA L i) (itA L i).b) (lo := 0) (hi := 16777216) (n := k) (fun i _ => by
    have h1 := bnd_bd (itA_fb hf i) (itA L i).b; have h2 := (itA_fb hf i).b; omega) k (Nat.le_refl _)
  unfold wbF
  omega
theorem gpS_max (gap : Int) (n : Nat) : gpS gap n = gap * max 0 ((n : Int) - 1) := by
  unfold gpS
  rw [show max 0 ((n : Int) - 1) = ((n - 1 : Nat) : Int) by omega]
theorem wantS_us (L : List FI) (gap : Int) (n : Nat) : wantS L gap n n = usF L gap n + wbF L n := by
  have key : ∀ k, sumTo (fun i => wantI (itA L i)) k = sumTo (fun i => (itA L i).ar) k + sumTo (fun i => bnd (itA L i) (itA L i).b) k := by
    intro k
    induction k with
    | zero => rfl
    | succ k ih => simp only [sumTo]; rw [ih]; unfold wantI; omega
  unfold wantS usF wbF
  rw [key, gpS_max]; omega
theorem roomS_us (L : List FI) (rm gap : Int) (n : Nat) : roomS L rm gap n n = rm - usF L gap n := by
  unfold roomS usF
  rw [gpS_max]; omega
theorem gn_cell {P : Stp} {wx : World} {g k q n : Nat} {t : TypeId} (h : Bk wx g t ((P.gnR k).map (Value.int .i64)).toArray) (hn : P.n = n) (hq : q < n) : wx.cell? ⟨g, q, none⟩ = some (.int .i64 (if q < k then P.gnA q else 0)) := by
  rw [h.cell, ← P.gnR_at (k := k) (i := q) (by omega)]
  have : (P.gnR k)[q]? = some (szA (P.gnR k) q) := by rw [List.getElem?_eq_getElem (by rw [P.gnR_len]; omega), szA_eq (List.getElem?_eq_getElem (by rw [P.gnR_len]; omega))]
  simp [this]
theorem nwB_t {g m : Int} (h : g = 0 ∨ (0 < g ∧ 0 < m) ∨ (g < 0 ∧ m < 0)) : nwB g m = true := decide_eq_true h
theorem nwB_f {g m : Int} (h : ¬ (g = 0 ∨ (0 < g ∧ 0 < m) ∨ (g < 0 ∧ m < 0))) : nwB g m = false := decide_eq_false h
theorem rst_mk (gr : Bool) {w w1 wr : World} {c n : Nat} {A : Option Addr} {L : List FI} (hu : RdS w1 w1.heap.size 6 (.slice A n c) n (L.flatMap fi)) (hb1 : Below w.heap.size w w1) (hb : Below w1.heap.size w1 wr) (hL : L.length = n) {g1 g2 g3 : Nat} (e1 : g1 = wr.heap.size) (e2 : g2 = wr.heap.size + 1) (e3 : g3 = wr.heap.size + 1 + 1) :
    RSt w w.heap.size w1.heap.size g1 g2 g3 A c n L (iniZ gr L n 0) (iniT gr L n 0) (fcR gr L n 0) (((wr.alloc (.cells (rowV n fun _ => .int .i64 0) 3)).alloc (.cells (rowV n fun _ => .bool false) 4)).alloc (.cells (rowV n fun _ => .int .i64 0) 3)) := by
  have h1 := hb.size
  obtain ⟨z1, z2⟩ := ini0 gr L n
  have hB3 : Below wr.heap.size wr (((wr.alloc (.cells (rowV n fun _ => .int .i64 0) 3)).alloc (.cells (rowV n fun _ => .bool false) 4)).alloc (.cells (rowV n fun _ => .int .i64 0) 3)) := bl_alloc (bl_alloc (bl_alloc (Below.refl _ _) _) _) _
  refine ⟨(hu.below hb).below' hB3 h1, ?_, ?_, ?_, hL, iniZ_len _ _ _ _, iniT_len _ _ _ _, fcR_len _ _ _ _, ⟨by omega, by omega, by omega, by omega, by omega, by omega⟩, hb1.size, (hb1.trans (hb.mono hb1.size)).trans (hB3.mono (by have := hb1.size; omega))⟩
  · rw [z1]; exact ((bk_new' _ _ _ e1).alloc _).alloc _
  · rw [z2]; exact (bk_new' _ _ _ (by simp [e2])).alloc _
  · rw [fcR0]; exact bk_new' _ _ _ (by simp [e3])
set_option maxRecDepth 100000 in
set_option maxHeartbeats 16000000 in
theorem r_Share (v : Value) (I : List FI) (lim N : Nat) (room0 gap0 : Int) (w : World) (hr : RdS w lim 6 v N (I.flatMap fi)) (hlim : lim ≤ w.heap.size) (hN : N ≤ 1000) (n : Nat) (hn : n = min N 200) (L : List FI) (hL : L = (I.take 200).map hdI) (gr : Bool) (hgr : gr = decide (wantS L (hld gap0) n n < hld room0)) (room start : Int) (hroom : room = roomS L (hld room0) (hld gap0) n n) (hstart : start = freeF L (iniZ gr L n n) (iniT gr L n n) room n) (r : List Int) (hrun : ShRun L gr n room start (iniZ gr L n n) (iniT gr L n n) r) :
    Calls Try.prog 11 #[v, .int .i64 room0, .int .i64 gap0] w (ShaRet w n r) := by
  have hn2 : n ≤ 200 := by omega
  have HAL := r_Within v I lim N w hr hlim hN
  rw [← hn, ← hL] at HAL
  have hfb : ∀ x ∈ L, FB x := by rw [hL]; intro x hx; obtain ⟨y, _, rfl⟩ := List.mem_map.1 hx; exact hdI_fb y
  have HFB := Lib.hid hfb; have HALL := Lib.hid HAL; have HST := Lib.hid hstart; have HRUN := Lib.hid hrun
  rw [wantS_us] at hgr
  rw [roomS_us] at hroom
  have HI := Lib.hid (mk_I n (by omega)); have HBm := Lib.hid (mk_B n (by omega))
  have hgb := hld_bd gap0; have hrb := hld_bd room0
  have HUB : Hid (∀ k, k ≤ n → -6710886400 ≤ usF L (hld gap0) k ∧ usF L (hld gap0) k ≤ 6710886400) := fun k hk => usF_bd hfb hgb (by omega)
  have HUS : Hid (∀ k, usF L (hld gap0) (k + 1) = if 0 < k then usF L (hld gap0) k + (itA L k).ar + hld gap0 else usF L (hld gap0) k + (itA L k).ar) := usF_succ L (hld gap0)
  have HRH := Lib.hid (r_Held room0); have HGH := Lib.hid (r_Held gap0)
  obtain ⟨gap, hgap⟩ : ∃ gap, gap = hld gap0 := ⟨_, rfl⟩
  obtain ⟨rm, hrm⟩ : ∃ rm, rm = hld room0 := ⟨_, rfl⟩
  rw [← hgap] at hgb hgr hroom HUB HUS HGH
  rw [← hrm] at hrb hgr hroom HRH
  have HGR := Lib.hid hgr; have HRM := Lib.hid hroom
  clear hfb HAL hgr hroom hstart hrun hL hn hr hgap hrm
  go_enter Try.func11, Try.ntmps11
  go_wp2_with fail
  refine HALL.out.mono ?_
  rintro e w1 ⟨u, rfl, hu, hb1⟩
  have HU := Lib.hid hu
  obtain ⟨hul, A, c, rfl, hnc, _⟩ := hu
  have HLL : Hid (L.length = n) := by rw [fis_len] at hul; unfold Hid; omega
  have HB1 := Lib.hid hb1
  clear hul hb1
  have HB0 := Lib.hid (Below.refl w1.heap.size w1)
  go_wp2_with (first | fail | (go_at_call 22; refine (HRH.out _).mono ?_; rintro e w' ⟨rfl, rfl⟩) | (go_at_call 22; refine (HGH.out _).mono ?_; rintro e w' ⟨rfl, rfl⟩))
  go_loopw [9, 10, 11] (fun u q i wr => ∃ k : Nat, k ≤ n ∧ i = .int .i64 k ∧ u = .int .i64 (usF L gap k) ∧ q = .int .i64 (wbF L k) ∧ Hid (Below w1.heap.size w1 wr)) (fun _ _ i _ => n - (intOf i).toNat)
  case atStart => exact ⟨0, by omega, rfl, by simp [usF, sumTo, gpS], by simp [wbF, sumTo], HB0.out⟩
  case round =>
    obtain ⟨k, hk, rfl, rfl, rfl, HB⟩ := hrel
    by_cases hlt : k < n
    · skip
      as_aux_lemma =>
        have hik : (k : Int) < (n : Int) := by omega
        have hx : L[k]? = some (itA L k) := by rw [List.getElem?_eq_getElem (by rw [HLL.out]; exact hlt), itA_eq (List.getElem?_eq_getElem (by rw [HLL.out]; exact hlt))]
        obtain ⟨g, o, rfl, _, hc⟩ := rd_fi HU.out hlt hx
        obtain ⟨d0, d1, d2, d3, d4, d5⟩ := hc _ HB.out
        have hu1 := HUB.out k hk; have hu2 := HUB.out (k + 1) (by omega)
        have hw1 := wbF_bd HFB.out (k := k) (by omega); have hw2 := wbF_bd HFB.out (k := k + 1) (by omega)
        have HUS1 := Lib.hid (HUS.out k); have HWS1 := Lib.hid (wbF_succ L k)
        have har := (itA_fb HFB.out k).ar
        have HH := Lib.hid (fun W => r_hold (itA L k) (itA L k).b W)
        have hbb := bnd_bd (itA_fb HFB.out k) (itA L k).b
        have hxb := (itA_fb HFB.out k).b
        obtain ⟨x, hx⟩ : ∃ x, x = itA L k := ⟨_, rfl⟩
        rw [← hx] at d0 d1 d2 d3 d4 d5 HUS1 HWS1 har HH hbb hxb
        obtain ⟨BB, hBB⟩ : ∃ BB, BB = bnd x x.b := ⟨_, rfl⟩
        have HH2 : Hid (∀ W, Calls Try.prog 23 #[agF x, .int .i64 x.b] W fun e w' => e = .returned (.int .i64 BB) ∧ Below W.heap.size W w') := fun W => by rw [hBB]; exact HH.out W
        have FC : Hid (∀ w', Below w1.heap.size w1 w' → (w'.cell? ⟨g, o + k * 6, none⟩ = some (.int .i64 x.b) ∧ w'.cell? ⟨g, o + k * 6 + 1, none⟩ = some (.int .i64 x.mn) ∧ w'.cell? ⟨g, o + k * 6 + 2, none⟩ = some (.int .i64 x.mx) ∧ w'.cell? ⟨g, o + k * 6 + 3, none⟩ = some (.int .i64 x.ar) ∧ w'.cell? ⟨g, o + k * 6 + 4, none⟩ = some (.int .i64 x.g) ∧ w'.cell? ⟨g, o + k * 6 + 5, none⟩ = some (.int .i64 x.s))) := by rw [hx]; exact hc
        rw [← hBB] at HWS1 hbb
        obtain ⟨U, hU⟩ : ∃ U, U = usF L gap k := ⟨_, rfl⟩
        obtain ⟨W0, hW0⟩ : ∃ W0, W0 = wbF L k := ⟨_, rfl⟩
        rw [← hU] at hu1 HUS1 ⊢
        rw [← hW0] at hw1 HWS1 ⊢
        have HU2 := Lib.hid hu2; have HW2 := Lib.hid hw2
        clear hc hx hBB HH hU hW0 hu2 hw2
        obtain ⟨xb, xmn, xmx, xar, xg, xs⟩ := x
        simp only at d0 d1 d2 d3 d4 d5 HUS1 FC HH2 har hxb hbb
        have v1 : IntKind.i64.wrap (U + xar) = U + xar := IntWalk.i64_in _ (by omega)
        have v2 : IntKind.i64.wrap (W0 + BB) = W0 + BB := IntWalk.i64_in _ (by omega)
        have v3 : IntKind.i64.wrap (U + xar + gap) = U + xar + gap := IntWalk.i64_in _ (by omega)
        go_upto_region 11 with fail
        go_region_held3 (fun w' => w'.cell? ⟨g, o + k * 6, none⟩ = some (.int .i64 xb) ∧ w'.cell? ⟨g, o + k * 6 + 1, none⟩ = some (.int .i64 xmn) ∧ w'.cell? ⟨g, o + k * 6 + 2, none⟩ = some (.int .i64 xmx) ∧ w'.cell? ⟨g, o + k * 6 + 3, none⟩ = some (.int .i64 xar) ∧ w'.cell? ⟨g, o + k * 6 + 4, none⟩ = some (.int .i64 xg) ∧ w'.cell? ⟨g, o + k * 6 + 5, none⟩ = some (.int .i64 xs))
          (first | exact FC.out _ HB.out | exact FC.out _ (bl_drewA HB.out) | exact FC.out _ HB5.out)
          ((go_at_call 23; refine (HH2.out _).mono ?_; rintro e w5 ⟨rfl, hb5⟩; have HB5 := Lib.hid (bl_trans (bl_drewA HB.out) hb5); clear hb5))
        by_cases hk0 : 0 < k
        · have hk1 : (0 : Int) < (k : Int) := by omega
          have HUE : Hid (usF L gap (k + 1) = U + xar + gap) := by unfold Hid; rw [HUS1.out, if_pos hk0]
          go_wp2_with fail
          go_roundw
          case rel => exact ⟨k + 1, by omega, by go_num, by rw [HUE.out], by rw [HWS1.out], HB5.out⟩
          case measure => simp [intOf]; omega
        · have hk1 : ¬ (0 : Int) < (k : Int) := by omega
          have HUE : Hid (usF L gap (k + 1) = U + xar) := by unfold Hid; rw [HUS1.out, if_neg hk0]
          go_wp2_with fail
          go_roundw
          case rel => exact ⟨k + 1, by omega, by go_num, by rw [HUE.out], by rw [HWS1.out], HB5.out⟩
          case measure => simp [intOf]; omega
    · obtain rfl : k = n := by omega
      have hik : ¬ (k : Int) < (k : Int) := by omega
      have hu1 := HUB.out k hk
      have hw1 := wbF_bd HFB.out (k := k) (by omega)
      have HGE : Hid (decide (usF L gap k + wbF L k < rm) = gr) := HGR.out.symm
      obtain ⟨U, hU⟩ : ∃ U, U = usF L gap k := ⟨_, rfl⟩
      obtain ⟨W0, hW0⟩ : ∃ W0, W0 = wbF L k := ⟨_, rfl⟩
      rw [← hU] at hu1 HGE HRM ⊢
      rw [← hW0] at hw1 HGE ⊢
      clear hU hW0 hlt
      have kI := HI.out; have kB := HBm.out
      have v1 : IntKind.i64.wrap (U + W0) = U + W0 := IntWalk.i64_in _ (by omega)
      go_upto_region 18 with fail
      obtain ⟨g3, hg3⟩ : ∃ g3, g3 = wr.heap.size + 1 + 1 := ⟨_, rfl⟩
      obtain ⟨g2, hg2⟩ : ∃ g2, g2 = wr.heap.size + 1 := ⟨_, rfl⟩
      obtain ⟨g1, hg1⟩ : ∃ g1, g1 = wr.heap.size := ⟨_, rfl⟩
      have HR0 := Lib.hid (rst_mk gr HU.out HB1.out HB.out HLL.out hg1 hg2 hg3)
      rw [← hg3, ← hg2, ← hg1, HGE.out]
      clear hg1 hg2 hg3 kI kB v1 hik
      obtain ⟨w3, hw3⟩ : ∃ w3, w3 = (((wr.alloc (.cells (rowV k fun _ => .int .i64 0) 3)).alloc (.cells (rowV k fun _ => .bool false) 4)).alloc (.cells (rowV k fun _ => .int .i64 0) 3)) := ⟨_, rfl⟩
      rw [← hw3] at HR0 ⊢
      clear hw3
      go_wp2_with fail
      go_loopw [16] (fun i wr => ∃ (q : Nat), q ≤ k ∧ i = .int .i64 q ∧ Hid (RSt w w.heap.size w1.heap.size g1 g2 g3 A c k L (iniZ gr L k q) (iniT gr L k q) (fcR gr L k q) wr)) (fun i _ => k - (intOf i).toNat)
      case atStart => exact ⟨0, by omega, rfl, HR0.out⟩
      case round =>
        obtain ⟨q, hq, rfl, HS⟩ := hrel
        by_cases hqn : q < k
        · skip
          as_aux_lemma =>
            have hik2 : (q : Int) < (k : Int) := by omega
            obtain ⟨g, o, eA, hg, hc⟩ := HS.out.item hqn
            subst eA
            obtain ⟨d0, d1, d2, d3, d4, d5⟩ := hc _ (Below.refl _ _)
            have f3 := HS.out.fac.free q; have l3 := HS.out.lt3; have c3 := HS.out.cF hqn
            have hn3 : g ≠ g3 := by have := HS.out.geo.h3; omega
            have HIBD : Hid (iniB gr (itA L q) = decide (fcI gr (itA L q) = 0 ∨ (gr = true ∧ bnd (itA L q) (itA L q).b < (itA L q).b) ∨ (gr = false ∧ (itA L q).b < bnd (itA L q) (itA L q).b))) := rfl
            have hW := fun W => r_hold (itA L q) (itA L q).b W
            obtain ⟨x, hx⟩ : ∃ x, x = itA L q := ⟨_, rfl⟩
            have HXQ := Lib.hid hx
            have FCI : Hid (fcI gr (itA L q) = if gr = true then x.g else x.s) := by rw [← hx]; rfl
            rw [← hx] at d0 d1 d2 d3 d4 d5 hW HIBD
            obtain ⟨BB, hBB⟩ : ∃ BB, BB = bnd x x.b := ⟨_, rfl⟩
            rw [← hBB] at hW HIBD
            have HW := Lib.hid hW
            have HXE : Hid (BB = bnd (itA L q) (itA L q).b) := by rw [← hx]; exact hBB
            have FC : Hid (∀ w', RSt w w.heap.size w1.heap.size g1 g2 g3 (some ⟨g, o, none⟩) c k L (iniZ gr L k q) (iniT gr L k q) (fcR gr L k (q + 1)) w' → (w'.cell? ⟨g, o + q * 6, none⟩ = some (.int .i64 x.b) ∧ w'.cell? ⟨g, o + q * 6 + 1, none⟩ = some (.int .i64 x.mn) ∧ w'.cell? ⟨g, o + q * 6 + 2, none⟩ = some (.int .i64 x.mx) ∧ w'.cell? ⟨g, o + q * 6 + 3, none⟩ = some (.int .i64 x.ar) ∧ w'.cell? ⟨g, o + q * 6 + 4, none⟩ = some (.int .i64 x.g) ∧ w'.cell? ⟨g, o + q * 6 + 5, none⟩ = some (.int .i64 x.s))) := fun w' h => by
              obtain ⟨g', o', e, _, hc'⟩ := h.item hqn
              injection e with e
              injection e with e1 e2
              subst e1 e2
              rw [hx]; exact hc' _ (Below.refl _ _)
            rw [hx] at HIBD
            clear hc hBB hW
            obtain ⟨xb, xmn, xmx, xar, xg, xs⟩ := x
            have hxb : (itA L q).b = xb := by rw [← hx]
            rw [hxb] at HIBD
            clear hx hxb
            simp only at d0 d1 d2 d3 d4 d5 HW FC FCI
            cases gr
            · have HA : Hid (RSt w w.heap.size w1.heap.size g1 g2 g3 (some ⟨g, o, none⟩) c k L (iniZ false L k q) (iniT false L k q) (fcR false L k (q + 1)) (wr.setCell ⟨g3, q, none⟩ (.int .i64 xs))) := by
                have := HS.out.setF q xs
                rw [fcR_next, FCI.out]; exact this
              go_upto_region 24 with fail
              go_region_held3 (fun w' => w'.cell? ⟨g, o + q * 6, none⟩ = some (.int .i64 xb) ∧ w'.cell? ⟨g, o + q * 6 + 1, none⟩ = some (.int .i64 xmn) ∧ w'.cell? ⟨g, o + q * 6 + 2, none⟩ = some (.int .i64 xmx) ∧ w'.cell? ⟨g, o + q * 6 + 3, none⟩ = some (.int .i64 xar) ∧ w'.cell? ⟨g, o + q * 6 + 4, none⟩ = some (.int .i64 xg) ∧ w'.cell? ⟨g, o + q * 6 + 5, none⟩ = some (.int .i64 xs))
                (first | exact FC.out _ HA.out | exact FC.out _ HA.out.drew | exact FC.out _ HS7.out)
                ((go_at_call 23; refine (HW.out _).mono ?_; rintro e w5 ⟨rfl, hb5⟩; have HS7 := Lib.hid (HA.out.drew.below hb5); clear hb5))
              have cz := HS7.out.cZ hqn; have cs := HS7.out.cS hqn; have cf := HS7.out.cF hqn
              rw [fcR_at hqn, if_pos (by omega), FCI.out] at cf
              simp only [if_true, Bool.false_eq_true, if_false] at cf
              obtain ⟨d0, d1, d2, d3, d4, d5⟩ := FC.out _ HS7.out
              have fz := HS7.out.size.free q; have fs := HS7.out.stt.free q
              have l1 := HS7.out.lt1; have l2 := HS7.out.lt2; have hne := HS7.out.geo.n12
              by_cases hF0 : xs = 0
              · have HIB : Hid (iniB false (itA L q) = true) := by unfold Hid; rw [HIBD.out]; exact decide_eq_true (.inl (by rw [FCI.out]; simpa using hF0))
                subst hF0
                go_wp2_with fail
                go_roundw
                case rel =>
                  refine ⟨q + 1, by omega, by go_num, ?_⟩
                  rw [iniT_next hqn, iniZ_next HIB.out, HIB.out, ← HXE.out]
                  exact (HS7.out.setZ q BB).setS q true
                case measure => simp [intOf]; omega
              · have b1 : (xs == 0) = false := by simpa using hF0
                by_cases hc1 : xb < BB
                · have HIB : Hid (iniB false (itA L q) = true) := by unfold Hid; rw [HIBD.out]; exact decide_eq_true (.inr (.inr ⟨by simp, hc1⟩))
                  go_wp2_with fail
                  go_roundw
                  case rel =>
                    refine ⟨q + 1, by omega, by go_num, ?_⟩
                    rw [iniT_next hqn, iniZ_next HIB.out, HIB.out, ← HXE.out]
                    exact (HS7.out.setZ q BB).setS q true
                  case measure => simp [intOf]; omega
                · have HIB : Hid (iniB false (itA L q) = false) := by
                    unfold Hid; rw [HIBD.out]
                    refine decide_eq_false (fun h => ?_)
                    rcases h with h | h | h
                    · rw [FCI.out] at h; exact hF0 (by simpa using h)
                    · first | (cases h.1; done) | exact hc1 h.2
                    · first | (cases h.1; done) | exact hc1 h.2
                  go_wp2_with fail
                  go_roundw
                  case rel => exact ⟨q + 1, by omega, by go_num, by rw [iniT_keep HIB.out, iniZ_keep HIB.out]; exact HS7.out⟩
                  case measure => simp [intOf]; omega
            · have HA : Hid (RSt w w.heap.size w1.heap.size g1 g2 g3 (some ⟨g, o, none⟩) c k L (iniZ true L k q) (iniT true L k q) (fcR true L k (q + 1)) ((wr.setCell ⟨g3, q, none⟩ (.int .i64 xs)).setCell ⟨g3, q, none⟩ (.int .i64 xg))) := by
                have := (HS.out.setF q xs).setF q xg
                rw [List.set_set] at this
                rw [fcR_next, FCI.out]; exact this
              go_upto_region 24 with fail
              go_region_held3 (fun w' => w'.cell? ⟨g, o + q * 6, none⟩ = some (.int .i64 xb) ∧ w'.cell? ⟨g, o + q * 6 + 1, none⟩ = some (.int .i64 xmn) ∧ w'.cell? ⟨g, o + q * 6 + 2, none⟩ = some (.int .i64 xmx) ∧ w'.cell? ⟨g, o + q * 6 + 3, none⟩ = some (.int .i64 xar) ∧ w'.cell? ⟨g, o + q * 6 + 4, none⟩ = some (.int .i64 xg) ∧ w'.cell? ⟨g, o + q * 6 + 5, none⟩ = some (.int .i64 xs))
                (first | exact FC.out _ HA.out | exact FC.out _ HA.out.drew | exact FC.out _ HS7.out)
                ((go_at_call 23; refine (HW.out _).mono ?_; rintro e w5 ⟨rfl, hb5⟩; have HS7 := Lib.hid (HA.out.drew.below hb5); clear hb5))
              have cz := HS7.out.cZ hqn; have cs := HS7.out.cS hqn; have cf := HS7.out.cF hqn
              rw [fcR_at hqn, if_pos (by omega), FCI.out] at cf
              simp only [if_true, Bool.false_eq_true, if_false] at cf
              obtain ⟨d0, d1, d2, d3, d4, d5⟩ := FC.out _ HS7.out
              have fz := HS7.out.size.free q; have fs := HS7.out.stt.free q
              have l1 := HS7.out.lt1; have l2 := HS7.out.lt2; have hne := HS7.out.geo.n12
              by_cases hF0 : xg = 0
              · have HIB : Hid (iniB true (itA L q) = true) := by unfold Hid; rw [HIBD.out]; exact decide_eq_true (.inl (by rw [FCI.out]; simpa using hF0))
                subst hF0
                go_wp2_with fail
                go_roundw
                case rel =>
                  refine ⟨q + 1, by omega, by go_num, ?_⟩
                  rw [iniT_next hqn, iniZ_next HIB.out, HIB.out, ← HXE.out]
                  exact (HS7.out.setZ q BB).setS q true
                case measure => simp [intOf]; omega
              · have b1 : (xg == 0) = false := by simpa using hF0
                by_cases hc1 : BB < xb
                · have HIB : Hid (iniB true (itA L q) = true) := by unfold Hid; rw [HIBD.out]; exact decide_eq_true (.inr (.inl ⟨by simp, hc1⟩))
                  go_wp2_with fail
                  go_roundw
                  case rel =>
                    refine ⟨q + 1, by omega, by go_num, ?_⟩
                    rw [iniT_next hqn, iniZ_next HIB.out, HIB.out, ← HXE.out]
                    exact (HS7.out.setZ q BB).setS q true
                  case measure => simp [intOf]; omega
                · have HIB : Hid (iniB true (itA L q) = false) := by
                    unfold Hid; rw [HIBD.out]
                    refine decide_eq_false (fun h => ?_)
                    rcases h with h | h | h
                    · rw [FCI.out] at h; exact hF0 (by simpa using h)
                    · first | (cases h.1; done) | exact hc1 h.2
                    · first | (cases h.1; done) | exact hc1 h.2
                  go_wp2_with fail
                  go_roundw
                  case rel => exact ⟨q + 1, by omega, by go_num, by rw [iniT_keep HIB.out, iniZ_keep HIB.out]; exact HS7.out⟩
                  case measure => simp [intOf]; omega
        · obtain rfl : q = k := by omega
          have hik2 : ¬ (q : Int) < (q : Int) := by omega
          have hv := ini_val (gr := gr) HFB.out q
          have hv2 : ∀ i, i < q → 0 ≤ valI L (iniZ gr L q q) (iniT gr L q q) i ∧ valI L (iniZ gr L q q) (iniT gr L q q) i ≤ 200000000000 := fun i hi => by have := hv i hi; omega
          have hrm : room = rm - U := HRM.out
          have hroomb : -100000000000 ≤ room ∧ room ≤ 100000000000 := by omega
          have hsm := sumTo_bd hv q (Nat.le_refl _)
          have hstb : -100000000000 ≤ start ∧ start ≤ 100000000000 := by rw [HST.out]; unfold freeF; omega
          have HLF := Lib.hid (r_left HS.out hn2 hv2 hroomb)
          rw [← HST.out] at HLF
          have vR : IntKind.i64.wrap (rm - U) = room := by rw [hrm]; exact IntWalk.i64_in _ (by omega)
          have HV0 := Lib.hid hv2
          clear hv hv2 hrm hsm
          go_wp2_with (first | fail | (go_at_call 24; refine (HLF.out).mono ?_; rintro e w' ⟨rfl, rfl⟩))
          go_loopg [] (opc (iniT gr L q q) q) (fun gk wr => ∃ (sz : List Int) (st : List Bool), Hid (gk = opc st q) ∧ Hid (RSt w w.heap.size w1.heap.size g1 g2 g3 A c q L sz st (fcR gr L q q) wr) ∧ Hid (Go.Cas.Good q sz st) ∧ Hid (∀ i, i < q → 0 ≤ valI L sz st i ∧ valI L sz st i ≤ 200000000000) ∧ Hid (ShRun L gr q room start sz st r))
          case atStart => exact ⟨_, _, rfl, HS.out, ini_good HFB.out q, HV0.out, HRUN.out⟩
          case round =>
            obtain ⟨sz, st, HGK, HSt, HGd, HVv, HRn⟩ := hrel
            rename World => wo
            have HLF2 := Lib.hid (r_left HSt.out hn2 HVv.out hroomb)
            obtain ⟨FR, hFR⟩ : ∃ FR, FR = freeF L sz st room q := ⟨_, rfl⟩
            rw [← hFR] at HLF2
            have HFRE := Lib.hid hFR
            clear hFR
            have HBq := Lib.hid (Below.refl wo.heap.size wo)
            go_wp2_with (first | fail | (go_at_call 24; refine (HLF2.out).mono ?_; rintro e w' ⟨rfl, rfl⟩))
            go_loopw [20, 21, 22, 23] (fun fc ws op i wx => ∃ j : Nat, j ≤ q ∧ i = .int .i64 j ∧ op = .int .i64 (opc st j : Nat) ∧ fc = .int .i64 (facs gr L st j) ∧ ws = .int .i64 (preF (bys gr L st q) (opc st j)) ∧ Hid (Below wo.heap.size wo wx)) (fun _ _ _ i _ => q - (intOf i).toNat)
            case atStart => exact ⟨0, by omega, rfl, rfl, rfl, rfl, HBq.out⟩
            case round =>
              obtain ⟨j, hj, rfl, rfl, rfl, rfl, HB2⟩ := hrel
              by_cases hjq : j < q
              · skip
                as_aux_lemma =>
                  have hik3 : (j : Int) < (q : Int) := by omega
                  have hs := HSt.out.below HB2.out
                  have z2 := hs.cS hjq; have cf := hs.cF hjq
                  rw [fcR_at hjq, if_pos hjq] at cf
                  have hbyp : ∀ x ∈ bys gr L st q, 0 ≤ x ∧ x ≤ 16777216000000000 := fun x hx => by
                    unfold bys at hx
                    obtain ⟨i, _, rfl⟩ := List.mem_map.1 hx
                    exact wtI_bd (itA_fb HFB.out i) gr
                  have hbl : (bys gr L st q).length = opc st q := by unfold bys opc; rw [List.length_map]
                  have hpb : ∀ j, j ≤ q → 0 ≤ preF (bys gr L st q) (opc st j) ∧ preF (bys gr L st q) (opc st j) ≤ 16777216000000000 * 200 := fun j hj => by
                    have h1 := opc_mono (st := st) hj
                    have h2 := opn_len st q
                    have h3 := sumTo_bd (f := szA (bys gr L st q)) (lo := 0) (hi := 16777216000000000) (n := opc st q) (fun i hi => by rw [szA_eq (List.getElem?_eq_getElem (by omega))]; exact hbyp _ (List.getElem_mem _)) (opc st j) h1
                    unfold preF
                    unfold opc at h1 h3 ⊢
                    omega
                  have hp1 := hpb j hj; have hp2 := hpb (j + 1) (by omega)
                  have hfc1 := facs_bd HFB.out gr st j; have hfc2 := facs_bd HFB.out gr st (j + 1)
                  have hop1 : opc st j ≤ 200 := by have := opn_len st j; unfold opc; omega
                  have HFS := Lib.hid (facs_succ gr L st j); have HOS := Lib.hid (opc_succ st j)
                  have HPS : Hid (preF (bys gr L st q) (opc st (j + 1)) = if stA st j = true then preF (bys gr L st q) (opc st j) else preF (bys gr L st q) (opc st j) + wtI gr (itA L j)) := Stp.pre_succ ⟨L, gr, q, sz, st, 0⟩ hjq
                  obtain ⟨PF, hPF⟩ : ∃ PF, PF = preF (bys gr L st q) (opc st j) := ⟨_, rfl⟩
                  obtain ⟨FC, hFC⟩ : ∃ FC, FC = facs gr L st j := ⟨_, rfl⟩
                  obtain ⟨OC, hOC⟩ : ∃ OC, OC = opc st j := ⟨_, rfl⟩
                  rw [← hPF] at hp1 HPS ⊢
                  rw [← hFC] at hfc1 HFS ⊢
                  rw [← hOC] at hop1 HOS ⊢
                  clear hbyp hbl hpb hPF hFC hOC
                  rcases hsj : stA st j with _ | _
                  · rw [hsj] at z2 HFS HOS HPS
                    obtain ⟨g, o, eA, hg, hc⟩ := hs.item hjq
                    subst eA
                    have hc2 : Hid (∀ w', Below wo.heap.size wo w' → (w'.cell? ⟨g, o + j * 6, none⟩ = some (.int .i64 (itA L j).b) ∧ w'.cell? ⟨g, o + j * 6 + 1, none⟩ = some (.int .i64 (itA L j).mn) ∧ w'.cell? ⟨g, o + j * 6 + 2, none⟩ = some (.int .i64 (itA L j).mx) ∧ w'.cell? ⟨g, o + j * 6 + 3, none⟩ = some (.int .i64 (itA L j).ar) ∧ w'.cell? ⟨g, o + j * 6 + 4, none⟩ = some (.int .i64 (itA L j).g) ∧ w'.cell? ⟨g, o + j * 6 + 5, none⟩ = some (.int .i64 (itA L j).s)) ∧ w'.cell? ⟨g3, j, none⟩ = some (.int .i64 (fcI gr (itA L j)))) := fun w' hb => by
                      have h' := HSt.out.below hb
                      obtain ⟨g', o', e, _, hc'⟩ := h'.item hjq
                      injection e with e
                      injection e with e1 e2
                      subst e1 e2
                      have := h'.cF hjq
                      rw [fcR_at hjq, if_pos hjq] at this
                      exact ⟨hc' _ (Below.refl _ _), this⟩
                    have hWT := fun W => r_weight (itA L j) (fcI gr (itA L j)) gr W (itA_fb HFB.out j) (fcI_bd (itA_fb HFB.out j) gr)
                    have hwe : (if gr = true then fcI gr (itA L j) else fcI gr (itA L j) * (itA L j).b) = wtI gr (itA L j) := by cases gr <;> simp [wtI, fcI]
                    rw [hwe] at hWT
                    have hfi := fcI_bd (itA_fb HFB.out j) gr
                    have hwi := wtI_bd (itA_fb HFB.out j) gr
                    simp only [Bool.false_eq_true, if_false] at HFS HOS HPS
                    obtain ⟨x, hx⟩ : ∃ x, x = itA L j := ⟨_, rfl⟩
                    rw [← hx] at hc2 hWT hfi hwi cf HFS HPS
                    obtain ⟨F, hF⟩ : ∃ F, F = fcI gr x := ⟨_, rfl⟩
                    obtain ⟨WT, hWTE⟩ : ∃ WT, WT = wtI gr x := ⟨_, rfl⟩
                    rw [← hF] at hc2 hWT hfi cf HFS
                    rw [← hWTE] at hWT hwi HPS
                    have HW := Lib.hid hWT
                    clear hx hF hWTE hWT hs hc hwe
                    obtain ⟨xb, xmn, xmx, xar, xg, xs⟩ := x
                    simp only at hc2 HW
                    obtain ⟨⟨d0, d1, d2, d3, d4, d5⟩, _⟩ := hc2.out _ HB2.out
                    have v1 : IntKind.i64.wrap ((OC : Int) + 1) = (OC : Int) + 1 := IntWalk.i64_in _ (by omega)
                    have v2 : IntKind.i64.wrap (FC + F) = FC + F := IntWalk.i64_in _ (by omega)
                    have v3 : IntKind.i64.wrap (PF + WT) = PF + WT := IntWalk.i64_in _ (by omega)
                    have FC6 : Hid (∀ w', Below wo.heap.size wo w' → (w'.cell? ⟨g, o + j * 6, none⟩ = some (.int .i64 xb) ∧ w'.cell? ⟨g, o + j * 6 + 1, none⟩ = some (.int .i64 xmn) ∧ w'.cell? ⟨g, o + j * 6 + 2, none⟩ = some (.int .i64 xmx) ∧ w'.cell? ⟨g, o + j * 6 + 3, none⟩ = some (.int .i64 xar) ∧ w'.cell? ⟨g, o + j * 6 + 4, none⟩ = some (.int .i64 xg) ∧ w'.cell? ⟨g, o + j * 6 + 5, none⟩ = some (.int .i64 xs) ∧ w'.cell? ⟨g3, j, none⟩ = some (.int .i64 F))) := fun w' hb => by
                      obtain ⟨⟨e0, e1, e2, e3, e4, e5⟩, e6⟩ := hc2.out w' hb
                      exact ⟨e0, e1, e2, e3, e4, e5, e6⟩
                    clear hc2
                    go_upto_region 39 with fail
                    go_region_held3 (fun w' => w'.cell? ⟨g, o + j * 6, none⟩ = some (.int .i64 xb) ∧ w'.cell? ⟨g, o + j * 6 + 1, none⟩ = some (.int .i64 xmn) ∧ w'.cell? ⟨g, o + j * 6 + 2, none⟩ = some (.int .i64 xmx) ∧ w'.cell? ⟨g, o + j * 6 + 3, none⟩ = some (.int .i64 xar) ∧ w'.cell? ⟨g, o + j * 6 + 4, none⟩ = some (.int .i64 xg) ∧ w'.cell? ⟨g, o + j * 6 + 5, none⟩ = some (.int .i64 xs) ∧ w'.cell? ⟨g3, j, none⟩ = some (.int .i64 F))
                      (first | exact FC6.out _ HB2.out | exact FC6.out _ (bl_drewA HB2.out) | exact FC6.out _ HB5.out)
                      ((go_at_call 25; refine (HW.out _).mono ?_; rintro e w5 ⟨rfl, hb5⟩; have HB5 := Lib.hid (bl_trans (bl_drewA HB2.out) hb5); clear hb5))
                    go_wp2_with fail
                    go_roundw
                    case rel => exact ⟨j + 1, by omega, by go_num, by rw [HOS.out, Int.natCast_succ], by rw [HFS.out], by rw [HPS.out], HB5.out⟩
                    case measure => simp [intOf]; omega
                  · rw [hsj] at z2 HFS HOS HPS
                    simp only [if_true, Int.add_zero] at HFS HOS HPS
                    go_wp2_with fail
                    go_roundw
                    case rel => exact ⟨j + 1, by omega, by go_num, by rw [HOS.out], by rw [HFS.out], by rw [HPS.out], HB2.out⟩
                    case measure => simp [intOf]; omega
              · obtain rfl : j = q := by omega
                have hik3 : ¬ (j : Int) < (j : Int) := by omega
                by_cases ho : opn st j = []
                · skip
                  as_aux_lemma =>
                    have ho0 : opc st j = 0 := by unfold opc; rw [ho]; rfl
                    have hfin : sz = r := by
                      have hrr := HRn.out
                      cases hrr with
                      | done _ => rfl
                      | step hno _ => exact absurd ho hno
                    have HFN := Lib.hid hfin
                    have HS6 := Lib.hid (HSt.out.below HB2.out)
                    rw [ho0]
                    clear hfin ho ho0
                    go_wp2_with fail
                    go_ret
                    exact ⟨g1, rfl, by rw [← HFN.out]; exact HS6.out.size, by rw [← HFN.out]; exact HS6.out.lenz, by have := HS6.out.geo.h1; have := HS6.out.limB; omega, HS6.out.bel⟩
                · skip
                  as_aux_lemma =>
                    have hoc : 0 < opc st j := opc_pos ho
                    have hoc2 : opc st j ≤ j := opn_len st j
                    have hfv := HGd.out.val (L := L) HFB.out ho
                    have hfb := freeF_bd hfv hroomb hn2
                    have hfc := facs_bd HFB.out gr st j
                    rw [← HFRE.out] at hfb
                    have HSf := Lib.hid (HSt.out.below HB2.out)
                    have hfcE : aF start FR (facs gr L st j) = aF start (freeF L sz st room j) (facs gr L st j) := by rw [HFRE.out]
                    obtain ⟨P, hP⟩ : ∃ P : Stp, P = ⟨L, gr, j, sz, st, aF start (freeF L sz st room j) (facs gr L st j)⟩ := ⟨_, rfl⟩
                    have HRn2 : Hid (ShRun L gr j room start (P.szT P.m) (P.stT P.m) r) := by
                      have hrr := HRn.out
                      cases hrr with
                      | done hno => exact absurd hno ho
                      | step _ hnext => rw [hP]; exact hnext
                    have HLS : Hid (opc (P.stT P.m) j < opc st j) := by rw [hP]; exact Stp.less (P := ⟨L, gr, j, sz, st, _⟩) HSt.out.lens (opc_pos ho)
                    have HGG : Hid (Go.Cas.Good j (P.szT P.m) (P.stT P.m)) := by rw [hP]; exact Stp.good (P := ⟨L, gr, j, sz, st, _⟩) HFB.out HSt.out.lenz HSt.out.lens HGd.out (opc_pos ho)
                    have HPa : Hid (P.a = aF start FR (facs gr L st j)) := by rw [hP]; exact hfcE.symm
                    have HPm : Hid (P.m = opc st j) := by rw [hP]; rfl
                    have HPby : Hid (P.by_ = bys gr L st j) := by rw [hP]; rfl
                    have HPL : Hid (P.L = L) := by rw [hP]; rfl
                    have HPg : Hid (P.gr = gr) := by rw [hP]; rfl
                    have HPst : Hid (P.st = st) := by rw [hP]; rfl
                    have HPsz : Hid (P.sz = sz) := by rw [hP]; rfl
                    have HPn : Hid (P.n = j) := by rw [hP]; rfl
                    obtain ⟨FC, hFC⟩ : ∃ FC, FC = facs gr L st j := ⟨_, rfl⟩
                    obtain ⟨M, hM⟩ : ∃ M, M = opc st j := ⟨_, rfl⟩
                    rw [← hFC] at hfc HPa ⊢
                    rw [← hM] at hoc hoc2 HLS HPm ⊢
                    have HME := Lib.hid hM
                    clear hFC hM hfcE hP
                    have ha := aF_bd hstb hfb hfc.1
                    have HVN : Hid (∀ i, i < j → 0 ≤ valI L (P.szT P.m) (P.stT P.m) i ∧ valI L (P.szT P.m) (P.stT P.m) i ≤ 200000000000) := by
                      have := Stp.vals_next (P := P) (by rw [HPL.out]; exact HFB.out) (by rw [HPsz.out, HPn.out]; exact HSt.out.lenz) (by rw [HPst.out, HPn.out]; exact HSt.out.lens) (by rw [HPa.out]; omega) (by rw [HPL.out, HPn.out, HPsz.out, HPst.out]; exact HVv.out)
                      rw [HPL.out, HPn.out] at this
                      exact this
                    have hM0 : ((M : Int) == 0) = false := by simp; omega
                    go_upto_if 198 with fail
                    obtain ⟨a, haE⟩ : ∃ a, a = aF start FR FC := ⟨_, rfl⟩
                    have HAE := Lib.hid haE
                    rw [← haE] at ha HPa
                    clear haE ho hfv
                    go_cut [24, 25] (fun s _ wx => s = .int .i64 a ∧ wx = wr)
                    case first =>
                      as_aux_lemma =>
                        by_cases hfc1 : FC < 1000
                        · have hX := mul_bd hstb hfc.1 hfc1
                          obtain ⟨X, hXE⟩ : ∃ X, X = start * FC := ⟨_, rfl⟩
                          rw [← hXE] at hX
                          have v1 : IntKind.i64.wrap (start * FC) = X := by rw [hXE]; exact IntWalk.i64_in _ (by rw [← hXE]; omega)
                          have htd := tdiv_bd hX
                          have HT : Hid (aF start FR FC = if FC < 1000 ∧ max (X.tdiv 1000) (-(X.tdiv 1000)) < max FR (-FR) then X.tdiv 1000 else FR) := by unfold aF; rw [hXE]; rfl
                          obtain ⟨Y, hY⟩ : ∃ Y, Y = X.tdiv 1000 := ⟨_, rfl⟩
                          rw [← hY] at htd HT
                          have v2 : IntKind.i64.wrap (X.tdiv 1000) = Y := by rw [hY]; exact IntWalk.i64_in _ (by rw [← hY]; omega)
                          have HZ1 := Lib.hid (r_size Y (by omega)); have HZ2 := Lib.hid (r_size FR (by omega))
                          clear hXE hY
                          by_cases hlt3 : max Y (-Y) < max FR (-FR)
                          · have HT2 : Hid (a = Y) := by unfold Hid; rw [HAE.out, HT.out, if_pos ⟨hfc1, hlt3⟩]
                            go_wp2_with (first | fail | (go_at_call 26; refine (HZ1.out _).mono ?_; rintro e w' ⟨rfl, rfl⟩) | (go_at_call 26; refine (HZ2.out _).mono ?_; rintro e w' ⟨rfl, rfl⟩))
                            go_meet
                            case rel => exact ⟨by rw [HT2.out], rfl⟩
                          · have HT2 : Hid (a = FR) := by unfold Hid; rw [HAE.out, HT.out, if_neg (fun h => hlt3 h.2)]
                            go_wp2_with (first | fail | (go_at_call 26; refine (HZ1.out _).mono ?_; rintro e w' ⟨rfl, rfl⟩) | (go_at_call 26; refine (HZ2.out _).mono ?_; rintro e w' ⟨rfl, rfl⟩))
                            go_meet
                            case rel => exact ⟨by rw [HT2.out], rfl⟩
                        · have HT2 : Hid (a = FR) := by unfold Hid; rw [HAE.out]; unfold aF; rw [if_neg (fun h => hfc1 h.1)]
                          go_wp2_with fail
                          go_meet
                          case rel => exact ⟨by rw [HT2.out], rfl⟩
                    case rest =>
                      obtain ⟨rfl, rfl⟩ := hcut
                      have kI := HI.out
                      have HW := Lib.hid (show preF P.by_ M = preF (bys gr L st j) (opc st j) by rw [HPby.out, HME.out])
                      go_upto_region 48 with fail
                      obtain ⟨g4, hg4⟩ : ∃ g4, g4 = wc.heap.size := ⟨_, rfl⟩
                      have HK4 : Hid (Bk (wc.alloc (.cells (rowV j fun _ => .int .i64 0) 3)) g4 3 ((P.gnR 0).map (Value.int .i64)).toArray) := by rw [P.gnR0, HPn.out]; exact bk_new' _ _ _ hg4
                      have HS4 : Hid (RSt w w.heap.size w1.heap.size g1 g2 g3 A c j L (P.szT 0) st (fcR gr L j j) (wc.alloc (.cells (rowV j fun _ => .int .i64 0) 3))) := by
                        have : P.szT 0 = sz := HPsz.out
                        rw [this]; exact HSf.out.alloc _
                      have hg41 : g1 < g4 := by rw [hg4]; exact HSf.out.lt1
                      have hg42 : g2 < g4 := by rw [hg4]; exact HSf.out.lt2
                      have hg43 : g3 < g4 := by rw [hg4]; exact HSf.out.lt3
                      have hg4l : w1.heap.size ≤ g4 := by rw [hg4]; exact Nat.le_of_lt HSf.out.ltL
                      rw [← hg4]
                      rw [show preF (bys gr L st j) M = preF P.by_ M by rw [HPby.out]]
                      obtain ⟨w4, hw4⟩ : ∃ w4, w4 = wc.alloc (.cells (rowV j fun _ => .int .i64 0) 3) := ⟨_, rfl⟩
                      rw [← hw4] at HK4 HS4 ⊢
                      clear hw4 hg4 kI HSf HW
                      have hbyp : ∀ i, i < M → 0 ≤ szA P.by_ i ∧ szA P.by_ i ≤ 16777216000000000 := fun i hi => by
                        have hl : i < P.by_.length := by rw [P.by_len, HPm.out]; exact hi
                        rw [szA_eq (List.getElem?_eq_getElem hl)]
                        exact P.by_pos (by rw [HPL.out]; exact HFB.out) _ (List.getElem_mem hl)
                      have HPB : Hid (∀ i, i ≤ M → 0 ≤ preF P.by_ i ∧ preF P.by_ i ≤ preF P.by_ M ∧ preF P.by_ M ≤ 3355443200000000000) := fun i hi => by
                        have h1 := sumTo_mono (f := szA P.by_) (n := M) (fun i hi => (hbyp i hi).1) 0 i (by omega) hi
                        have h2 := sumTo_mono (f := szA P.by_) (n := M) (fun i hi => (hbyp i hi).1) i M hi (Nat.le_refl _)
                        have h3 := sumTo_bd hbyp M (Nat.le_refl _)
                        unfold preF
                        simp only [sumTo] at h1
                        omega
                      have HMB : Hid (∀ i, i < M → (-103372220416 ≤ P.nn i ∧ P.nn i ≤ 103372220416) ∧ (0 ≤ P.zz i ∧ P.zz i ≤ 103372220416) ∧ (-240265318800 ≤ P.mo i ∧ P.mo i ≤ 240265318800)) := fun i hi => by
                        have h0 : ∀ x ∈ P.L, FB x := by rw [HPL.out]; exact HFB.out
                        have h1 := Stp.nn_bd h0 (P := P) (j := i) (by rw [HPm.out]; exact hi)
                        have h2 := Stp.zz_bd h0 (P := P) (j := i) (by rw [HPm.out]; exact hi)
                        have h3 := Stp.mo_bd h0 (P := P) (j := i) (by rw [HPm.out]; exact hi)
                        rw [HPa.out] at h1 h2 h3
                        omega
                      have HGB : Hid (∀ i, i ≤ M → -48053063760000 ≤ sumTo P.mo i ∧ sumTo P.mo i ≤ 48053063760000) := fun i hi => by
                        have h3 := sumTo_bd (f := P.mo) (lo := -240265318800) (hi := 240265318800) (n := M) (fun i hi => (HMB.out i hi).2.2) i hi
                        omega
                      clear hbyp
                      obtain ⟨W, hW⟩ : ∃ W, W = preF P.by_ M := ⟨_, rfl⟩
                      have HWE := Lib.hid hW
                      rw [← hW] at HPB ⊢
                      clear hW
                      go_wp2_with fail
                      go_loopw [27, 28, 29] (fun gn su i wx => ∃ p : Nat, p ≤ j ∧ i = .int .i64 p ∧ gn = .int .i64 (sumTo P.mo (opc st p)) ∧ su = .int .i64 (preF P.by_ (opc st p)) ∧ Hid (RSt w w.heap.size w1.heap.size g1 g2 g3 A c j L (P.szT (opc st p)) st (fcR gr L j j) wx) ∧ Hid (Bk wx g4 3 ((P.gnR p).map (Value.int .i64)).toArray)) (fun _ _ i _ => j - (intOf i).toNat)
                      case atStart => exact ⟨0, by omega, rfl, rfl, rfl, HS4.out, HK4.out⟩
                      case round =>
                        obtain ⟨p, hp, rfl, rfl, rfl, HSp, HKp⟩ := hrel
                        by_cases hpj : p < j
                        · skip
                          as_aux_lemma =>
                            have hik3 : (p : Int) < (j : Int) := by omega
                            have z2 := HSp.out.cS hpj
                            have HPS := P.pre_succ (i := p) (by rw [HPn.out]; exact hpj)
                            have HMS := P.mos_succ p
                            have HZS := P.szT_succ (i := p) (by rw [HPn.out]; exact hpj)
                            have hO1 := opc_succ st p
                            rw [HPst.out] at HPS HMS HZS
                            rcases hsj : stA st p with _ | _
                            · rw [hsj] at z2 HPS HMS HZS hO1
                              rw [HPg.out, HPL.out] at HPS
                              simp only [Bool.false_eq_true, if_false] at HPS HMS HZS hO1
                              have hk1 := (opc_lt_n hpj hsj).1
                              rw [← HME.out] at hk1
                              obtain ⟨n1, n2, n3⟩ := P.nn_at (i := p) (by rw [HPn.out]; exact hpj) (by rw [HPst.out]; exact hsj)
                              have hd := P.d_at p
                              rw [HPst.out, HPL.out] at n1 n2
                              rw [HPst.out] at n3
                              rw [HPst.out, HPm.out, ← HWE.out, HPa.out] at hd
                              have HGN : Hid (P.gnA p = P.mo (opc st p)) := by unfold Hid Stp.gnA; rw [HPst.out, hsj]; rfl
                              have hp1 := HPB.out (opc st p) (by omega)
                              have hp2 := HPB.out (opc st (p + 1)) (by omega)
                              have hg1 := HGB.out (opc st p) (by omega)
                              have hg2 := HGB.out (opc st (p + 1)) (by omega)
                              have hmb := HMB.out (opc st p) hk1
                              rw [← hO1] at hd
                              have hwi := wtI_bd (itA_fb HFB.out p) gr
                              have hxb := (itA_fb HFB.out p).b
                              obtain ⟨g, o, eA, hg, hc⟩ := HSp.out.item hpj
                              subst eA
                              have hc2 : Hid (∀ w', RSt w w.heap.size w1.heap.size g1 g2 g3 (some ⟨g, o, none⟩) c j L (P.szT (opc st p)) st (fcR gr L j j) w' → (w'.cell? ⟨g, o + p * 6, none⟩ = some (.int .i64 (itA L p).b) ∧ w'.cell? ⟨g, o + p * 6 + 1, none⟩ = some (.int .i64 (itA L p).mn) ∧ w'.cell? ⟨g, o + p * 6 + 2, none⟩ = some (.int .i64 (itA L p).mx) ∧ w'.cell? ⟨g, o + p * 6 + 3, none⟩ = some (.int .i64 (itA L p).ar) ∧ w'.cell? ⟨g, o + p * 6 + 4, none⟩ = some (.int .i64 (itA L p).g) ∧ w'.cell? ⟨g, o + p * 6 + 5, none⟩ = some (.int .i64 (itA L p).s) ∧ w'.cell? ⟨g3, p, none⟩ = some (.int .i64 (fcI gr (itA L p))))) := fun w' h' => by
                                obtain ⟨g', o', e, _, hc'⟩ := h'.item hpj
                                injection e with e
                                injection e with e1 e2
                                subst e1 e2
                                have := h'.cF hpj
                                rw [fcR_at hpj, if_pos hpj] at this
                                obtain ⟨e0, e1, e2, e3, e4, e5⟩ := hc' _ (Below.refl _ _)
                                exact ⟨e0, e1, e2, e3, e4, e5, this⟩
                              have hWT := fun W => r_weight (itA L p) (fcI gr (itA L p)) gr W (itA_fb HFB.out p) (fcI_bd (itA_fb HFB.out p) gr)
                              have hwe : (if gr = true then fcI gr (itA L p) else fcI gr (itA L p) * (itA L p).b) = wtI gr (itA L p) := by cases gr <;> simp [wtI, fcI]
                              rw [hwe] at hWT
                              have hH := fun W => r_hold (itA L p) (P.nn (opc st p)) W
                              rw [← n2] at hH
                              obtain ⟨x, hx⟩ : ∃ x, x = itA L p := ⟨_, rfl⟩
                              rw [← hx] at hc2 hWT hH n1 hwi hxb HPS
                              obtain ⟨F, hF⟩ : ∃ F, F = fcI gr x := ⟨_, rfl⟩
                              obtain ⟨WT, hWTE⟩ : ∃ WT, WT = wtI gr x := ⟨_, rfl⟩
                              rw [← hF] at hc2 hWT
                              rw [← hWTE] at hWT hwi HPS
                              obtain ⟨S0, hS0⟩ : ∃ S0, S0 = preF P.by_ (opc st p) := ⟨_, rfl⟩
                              obtain ⟨S1, hS1⟩ : ∃ S1, S1 = preF P.by_ (opc st (p + 1)) := ⟨_, rfl⟩
                              obtain ⟨G0, hG0⟩ : ∃ G0, G0 = sumTo P.mo (opc st p) := ⟨_, rfl⟩
                              obtain ⟨NN, hNN⟩ : ∃ NN, NN = P.nn (opc st p) := ⟨_, rfl⟩
                              obtain ⟨ZZ, hZZ⟩ : ∃ ZZ, ZZ = P.zz (opc st p) := ⟨_, rfl⟩
                              obtain ⟨MO, hMO⟩ : ∃ MO, MO = P.mo (opc st p) := ⟨_, rfl⟩
                              obtain ⟨D, hD⟩ : ∃ D, D = P.d (opc st p) := ⟨_, rfl⟩
                              rw [← hS0, ← hS1] at HPS hd
                              rw [← hS0] at hp1 ⊢
                              rw [← hS1] at hp2
                              rw [← hG0] at hg1 HMS ⊢
                              rw [← hMO] at HMS HGN n3 hmb
                              rw [← hNN] at n1 n3 hH hmb
                              rw [← hZZ] at n3 hH hmb HZS
                              rw [← hD] at n1 hd
                              rw [HMS] at hg2
                              have HS1E := Lib.hid hS1; have HMSE := Lib.hid HMS; have HZSE := Lib.hid HZS
                              have HH := Lib.hid hH; have HWT := Lib.hid hWT
                              have hK : opc st p < M := hk1
                              clear hx hF hWTE hWT hH hc hwe n2 hS0 hS1 hG0 hNN hZZ hMO hD HMS HZS hO1 hk1
                              obtain ⟨xb, xmn, xmx, xar, xg, xs⟩ := x
                              simp only at hc2 HWT HH n1 hxb
                              have u1 : IntKind.i64.wrap (S0 + WT) = S1 := by rw [HPS]; exact IntWalk.i64_in _ (by omega)
                              have u2 : IntKind.i64.wrap (ZZ - NN) = MO := by rw [n3]; exact IntWalk.i64_in _ (by omega)
                              have u3 : IntKind.i64.wrap (G0 + MO) = G0 + MO := IntWalk.i64_in _ (by omega)
                              have HN1 := Lib.hid n1; have HD := Lib.hid hd
                              have hS01 : S0 ≤ S1 := by omega
                              clear n1 n3 hd HPS
                              obtain ⟨d0, d1, d2, d3, d4, d5, d6⟩ := hc2.out _ HSp.out
                              go_upto_if 226 with fail
                              go_cut [28, 30, 31] (fun s28 s30 _ wx => s28 = .int .i64 S1 ∧ s30 = .int .i64 NN ∧ Hid (RSt w w.heap.size w1.heap.size g1 g2 g3 (some ⟨g, o, none⟩) c j L (P.szT (opc st p)) st (fcR gr L j j) wx) ∧ Hid (Bk wx g4 3 ((P.gnR p).map (Value.int .i64)).toArray))
                              case first =>
                                as_aux_lemma =>
                                  by_cases hW0 : W = 0
                                  · have e1 : NN = xb := by rw [HN1.out, HD.out, if_pos hW0]; omega
                                    have e2 : S0 = S1 := by omega
                                    have hWn : ¬ 0 < W := by omega
                                    clear hW0
                                    go_wp2_with fail
                                    go_meet
                                    case rel => exact ⟨by first | rfl | rw [e2], by first | rfl | rw [e1], HSp.out, HKp.out⟩
                                  · have hd := HD.out
                                    rw [if_neg hW0] at hd
                                    have hWp : 0 < W := by omega
                                    have HP0 := Lib.hid (r_Portion a S0 W); have HP1 := Lib.hid (r_Portion a S1 W)
                                    have b1 := floor_bd (a := a) hp1.1 hp1.2.1 hWp
                                    have b2 := floor_bd (a := a) hp2.1 hp2.2.1 hWp
                                    have HQ0 : Hid (∀ w, Calls Try.prog 27 #[.int .i64 a, .int .i64 S0, .int .i64 W] w fun e w' => e = .returned (.int .i64 (a * S0 / W)) ∧ w = w') := fun w => r_Portion a S0 W w (by omega) ⟨hp1.1, hp1.2.1⟩ ⟨hWp, by omega⟩
                                    have HQ1 : Hid (∀ w, Calls Try.prog 27 #[.int .i64 a, .int .i64 S1, .int .i64 W] w fun e w' => e = .returned (.int .i64 (a * S1 / W)) ∧ w = w') := fun w => r_Portion a S1 W w (by omega) ⟨hp2.1, hp2.2.1⟩ ⟨hWp, by omega⟩
                                    obtain ⟨Fa, hFa⟩ : ∃ Fa, Fa = a * S0 / W := ⟨_, rfl⟩
                                    obtain ⟨Fb, hFb⟩ : ∃ Fb, Fb = a * S1 / W := ⟨_, rfl⟩
                                    rw [← hFa] at b1 HQ0 hd
                                    rw [← hFb] at b2 HQ1 hd
                                    clear hFa hFb HP0 HP1
                                    have v1 : IntKind.i64.wrap (xb + Fb) = xb + Fb := IntWalk.i64_in _ (by omega)
                                    have v2 : IntKind.i64.wrap (xb + Fb - Fa) = NN := by rw [HN1.out, hd, IntWalk.i64_in _ (by omega)]; omega
                                    clear hd
                                    go_upto_region 56 with fail
                                    go_wp2_with (first | go_not_at_region 57; fail | (go_at_call 27; refine (HQ0.out _).mono ?_; rintro e w' ⟨rfl, rfl⟩))
                                    go_region_held3 (fun w' => w'.cell? ⟨g, o + p * 6, none⟩ = some (.int .i64 xb) ∧ w'.cell? ⟨g, o + p * 6 + 1, none⟩ = some (.int .i64 xmn) ∧ w'.cell? ⟨g, o + p * 6 + 2, none⟩ = some (.int .i64 xmx) ∧ w'.cell? ⟨g, o + p * 6 + 3, none⟩ = some (.int .i64 xar) ∧ w'.cell? ⟨g, o + p * 6 + 4, none⟩ = some (.int .i64 xg) ∧ w'.cell? ⟨g, o + p * 6 + 5, none⟩ = some (.int .i64 xs) ∧ w'.cell? ⟨g3, p, none⟩ = some (.int .i64 F))
                                      (first | exact hc2.out _ HSp.out | exact hc2.out _ HSp.out.drew | exact hc2.out _ HS5.out)
                                      ((go_at_call 25; refine (HWT.out _).mono ?_; rintro e w5 ⟨rfl, hb5⟩; have HS5 := Lib.hid (HSp.out.drew.below hb5); have HK5 := Lib.hid ((Bk.drew HKp.out).below hb5 (Bk.drew HKp.out).lt); clear hb5))
                                    go_wp2_with (first | fail | (go_at_call 27; refine (HQ1.out _).mono ?_; rintro e w' ⟨rfl, rfl⟩))
                                    go_meet
                                    case rel => exact ⟨rfl, rfl, HS5.out, HK5.out⟩
                              case rest =>
                                as_aux_lemma =>
                                  obtain ⟨rfl, rfl, HS5, HK5⟩ := hcut
                                  clear d0 d1 d2 d3 d4 d5 d6
                                  obtain ⟨d0, d1, d2, d3, d4, d5, d6⟩ := hc2.out _ HS5.out
                                  go_wp2_with fail
                                  refine (HH.out _).mono ?_
                                  rintro e w6 ⟨rfl, hb6⟩
                                  have HS6 := Lib.hid (HS5.out.below hb6)
                                  have HK6 := Lib.hid (HK5.out.below hb6 HK5.out.lt)
                                  clear hb6 d0 d1 d2 d3 d4 d5 d6
                                  have cz := HS6.out.cZ hpj; have fz := HS6.out.size.free p; have l1 := HS6.out.lt1
                                  have HS7 := Lib.hid (HS6.out.setZ p ZZ)
                                  have HK7 := Lib.hid (HK6.out.far (p := ⟨g1, p, none⟩) (by show g4 ≠ g1; omega) (.int .i64 ZZ))
                                  go_upto_region 60 with fail
                                  obtain ⟨w7, hw7⟩ : ∃ w7, w7 = w6.setCell ⟨g1, p, none⟩ (.int .i64 ZZ) := ⟨_, rfl⟩
                                  rw [← hw7] at HS7 HK7 ⊢
                                  clear hw7 cz fz l1
                                  have c7 := HS7.out.cZ hpj
                                  rw [set_get (by have := HS6.out.lenz; omega)] at c7
                                  have k7 := gn_cell HK7.out HPn.out hpj; have fk := HK7.out.free p; have lk := HK7.out.lt
                                  have HS8 := Lib.hid (HS7.out.far (g := g4) hg4l (by omega) (by omega) (by omega) p (.int .i64 MO))
                                  have HK8 : Hid (Bk (w7.setCell ⟨g4, p, none⟩ (.int .i64 MO)) g4 3 ((P.gnR (p + 1)).map (Value.int .i64)).toArray) := by
                                    have := HK7.out.set_ p (.int .i64 MO)
                                    rw [P.gnR_next, HGN.out]
                                    unfold Hid
                                    simpa [List.map_set] using this
                                  go_upto_region 61 with fail
                                  obtain ⟨w8, hw8⟩ : ∃ w8, w8 = w7.setCell ⟨g4, p, none⟩ (.int .i64 MO) := ⟨_, rfl⟩
                                  rw [← hw8] at HS8 HK8 ⊢
                                  clear hw8 c7 k7 fk lk
                                  have k8 := gn_cell HK8.out HPn.out hpj
                                  rw [if_pos (by omega), HGN.out] at k8
                                  go_wp2_with fail
                                  go_roundw
                                  case rel => exact ⟨p + 1, by omega, by go_num, by rw [HMSE.out], by rw [HS1E.out], by rw [HZSE.out]; exact HS8.out, HK8.out⟩
                                  case measure => simp [intOf]; omega
                            · rw [hsj] at z2 HPS HMS HZS
                              simp only [if_true] at HPS HMS HZS
                              have HKP := Lib.hid (P.gnR_keep (k := p) (by rw [HPst.out]; exact hsj))
                              have HPS2 := Lib.hid HPS; have HMS2 := Lib.hid HMS; have HZS2 := Lib.hid HZS
                              clear HPS HMS HZS hO1
                              go_wp2_with fail
                              go_roundw
                              case rel => exact ⟨p + 1, by omega, by go_num, by rw [HMS2.out], by rw [HPS2.out], by rw [HZS2.out]; exact HSp.out, by rw [HKP.out]; exact HKp.out⟩
                              case measure => simp [intOf]; omega
                        · obtain rfl : p = j := by omega
                          have hik3 : ¬ (p : Int) < (p : Int) := by omega
                          rw [← HME.out]
                          rw [← HME.out] at HSp
                          go_wp2_with fail
                          go_loopw [32] (fun i wx => ∃ q : Nat, q ≤ p ∧ i = .int .i64 q ∧ Hid (RSt w w.heap.size w1.heap.size g1 g2 g3 A c p L (P.szT M) (P.stT (opc st q)) (fcR gr L p p) wx) ∧ Hid (Bk wx g4 3 ((P.gnR p).map (Value.int .i64)).toArray)) (fun i _ => p - (intOf i).toNat)
                          case atStart => exact ⟨0, by omega, rfl, (by have : P.stT (opc st 0) = st := HPst.out; rw [this]; exact HSp.out), HKp.out⟩
                          case round =>
                            obtain ⟨q, hq, rfl, HSq, HKq⟩ := hrel
                            by_cases hqp : q < p
                            · skip
                              as_aux_lemma =>
                                have hik4 : (q : Int) < (p : Int) := by omega
                                have z2 := HSq.out.cS hqp
                                have hnow := P.stT_now (i := q) (by rw [HPn.out]; exact hqp)
                                rw [HPst.out] at hnow
                                rw [hnow] at z2
                                have HTS := P.stT_succ (i := q) (by rw [HPn.out]; exact hqp)
                                rw [HPst.out] at HTS
                                rcases hsq : stA st q with _ | _
                                · rw [hsq] at z2 HTS
                                  simp only [Bool.false_eq_true, if_false] at HTS
                                  have c4 := gn_cell HKq.out HPn.out hqp
                                  have hgn : P.gnA q = P.mo (opc st q) := by unfold Stp.gnA; rw [HPst.out, hsq]; rfl
                                  rw [if_pos hqp, hgn] at c4
                                  have hga : P.gain = sumTo P.mo M := by unfold Stp.gain; rw [HPm.out]
                                  rw [hga] at HTS
                                  obtain ⟨GA, hGA⟩ : ∃ GA, GA = sumTo P.mo M := ⟨_, rfl⟩
                                  obtain ⟨MO, hMO⟩ : ∃ MO, MO = P.mo (opc st q) := ⟨_, rfl⟩
                                  rw [← hGA] at HTS ⊢
                                  rw [← hMO] at HTS c4
                                  have HT := Lib.hid HTS
                                  have fs := HSq.out.stt.free q; have l2 := HSq.out.lt2
                                  have HSn := fun b => Lib.hid (HSq.out.setS q b)
                                  have HKn := fun b : Bool => Lib.hid (HKq.out.far (p := ⟨g2, q, none⟩) (by show g4 ≠ g2; omega) (.bool b))
                                  have HSN := Lib.hid HSn; have HKN := Lib.hid HKn
                                  clear HTS hga hgn hnow hGA hMO HSn HKn
                                  rcases Int.lt_trichotomy GA 0 with hg | hg | hg
                                  · have g1' : ¬ GA = 0 := by omega
                                    have g1 : (GA == 0) = false := by simpa using g1'
                                    have g2' : ¬ 0 < GA := by omega
                                    by_cases hm : MO < 0
                                    · have HN := nwB_t (g := GA) (m := MO) (by omega)
                                      go_wp2_with fail
                                      go_roundw
                                      case rel => exact ⟨q + 1, by omega, by go_num, by rw [HT.out, HN]; exact (HSN.out true).out, (HKN.out true).out⟩
                                      case measure => simp [intOf]; omega
                                    · have HN := nwB_f (g := GA) (m := MO) (by omega)
                                      go_wp2_with fail
                                      go_roundw
                                      case rel => exact ⟨q + 1, by omega, by go_num, by rw [HT.out, HN]; exact (HSN.out false).out, (HKN.out false).out⟩
                                      case measure => simp [intOf]; omega
                                  · have HN := nwB_t (g := GA) (m := MO) (by omega)
                                    subst hg
                                    go_wp2_with fail
                                    go_roundw
                                    case rel => exact ⟨q + 1, by omega, by go_num, by rw [HT.out, HN]; exact (HSN.out true).out, (HKN.out true).out⟩
                                    case measure => simp [intOf]; omega
                                  · have g1' : ¬ GA = 0 := by omega
                                    have g1 : (GA == 0) = false := by simpa using g1'
                                    have g2' : ¬ GA < 0 := by omega
                                    by_cases hm : 0 < MO
                                    · have HN := nwB_t (g := GA) (m := MO) (by omega)
                                      go_wp2_with fail
                                      go_roundw
                                      case rel => exact ⟨q + 1, by omega, by go_num, by rw [HT.out, HN]; exact (HSN.out true).out, (HKN.out true).out⟩
                                      case measure => simp [intOf]; omega
                                    · have HN := nwB_f (g := GA) (m := MO) (by omega)
                                      go_wp2_with fail
                                      go_roundw
                                      case rel => exact ⟨q + 1, by omega, by go_num, by rw [HT.out, HN]; exact (HSN.out false).out, (HKN.out false).out⟩
                                      case measure => simp [intOf]; omega
                                · rw [hsq] at z2 HTS
                                  simp only [if_true] at HTS
                                  have HT := Lib.hid HTS
                                  clear HTS hnow
                                  go_wp2_with fail
                                  go_roundw
                                  case rel => exact ⟨q + 1, by omega, by go_num, by rw [HT.out]; exact HSq.out, HKq.out⟩
                                  case measure => simp [intOf]; omega
                            · obtain rfl : q = p := by omega
                              have hik4 : ¬ (q : Int) < (q : Int) := by omega
                              have HSz : Hid (RSt w w.heap.size w1.heap.size g1 g2 g3 A c q L (P.szT P.m) (P.stT P.m) (fcR gr L q q) wr) := by
                                have := HSq.out
                                rw [← HME.out] at this
                                rw [HPm.out]; exact this
                              go_wp2_with fail
                              go_roundg (opc (P.stT P.m) q)
                              case measure => rw [HGK.out, ← HME.out]; exact HLS.out
                              case rel => exact ⟨_, _, rfl, HSz.out, HGG.out, HVN.out, HRn2.out⟩
end Go.Proofs.Ytdpnpjficcciiaa
