/- seat C: the reference's Rows -/
import Derived.Test.YtdpnpjficcciiaaQs
import Derived.Test.YtdpnpjficcciiaaQb
import Derived.Deep.DrawnRows
namespace Go.Proofs.Ytdpnpjficcciiaa
set_option linter.unusedVariables false
set_option linter.unusedSimpArgs false
open Go.RowKit Go.Cas
attribute [local go_sem ↓] Go.wp_at_zero Go.wp_at_succ
theorem segS_bd {L : List FI} (hf : ∀ x ∈ L, FB x) {gap : Int} (hg : -16777216 ≤ gap ∧ gap ≤ 16777216) {i n : Nat} (hn : n ≤ 200) : -10066329600 ≤ segS (wI L) gap i n ∧ segS (wI L) gap i n ≤ 10066329600 := by
  have h1 := sumTo_bd (f := fun q => wI L (i + q)) (lo := -33554432) (hi := 33554432) (n := n) (fun q _ => wI_bd hf _) n (Nat.le_refl _)
  have a := Int.mul_le_mul_of_nonneg_right hg.1 (show (0 : Int) ≤ ((n - 1 : Nat) : Int) by omega)
  have b := Int.mul_le_mul_of_nonneg_right hg.2 (show (0 : Int) ≤ ((n - 1 : Nat) : Int) by omega)
  unfold segS gpS
  omega
set_option maxRecDepth 100000 in
set_option maxHeartbeats 8000000 in
theorem r_Rows (v : Value) (I : List FI) (lim N : Nat) (room0 gap0 : Int) (wrp : Bool) (w : World) (hr : RdS w lim 6 v N (I.flatMap fi)) (hlim : lim ≤ w.heap.size) (hN : N ≤ 1000) (n : Nat) (hn : n = min N 200) (L : List FI) (hL : L = (I.take 200).map hdI) :
    Calls Try.prog 10 #[v, .int .i64 room0, .int .i64 gap0, .bool wrp] w (RwRet w (rwF (wI L) wrp (hld room0) (hld gap0) n).1) := by
  have hn2 : n ≤ 200 := by omega
  have HAL := r_Within v I lim N w hr hlim hN
  rw [← hn, ← hL] at HAL
  have hfb : ∀ x ∈ L, FB x := by rw [hL]; intro x hx; obtain ⟨y, _, rfl⟩ := List.mem_map.1 hx; exact hdI_fb y
  have HFB := Lib.hid hfb; have HALL := Lib.hid HAL
  have hgb := hld_bd gap0; have hrb := hld_bd room0
  have HRH := Lib.hid (r_Held room0); have HGH := Lib.hid (r_Held gap0)
  obtain ⟨gap, hgap⟩ : ∃ gap, gap = hld gap0 := ⟨_, rfl⟩
  obtain ⟨rm, hrm⟩ : ∃ rm, rm = hld room0 := ⟨_, rfl⟩
  rw [← hgap] at hgb HGH ⊢
  rw [← hrm] at hrb HRH ⊢
  clear hfb HAL hL hn hr hgap hrm
  obtain ⟨i0, hi0, hz0, hz1, hz2⟩ := info_parts inf_int
  go_enter Try.func10, Try.ntmps10
  go_wp2_with fail
  refine HALL.out.mono ?_
  rintro e w1 ⟨u, rfl, hu, hb1⟩
  have HU := Lib.hid hu
  obtain ⟨hul, A, c, rfl, hnc, _⟩ := hu
  have HLL : Hid (L.length = n) := by rw [fis_len] at hul; unfold Hid; omega
  have HB1 := Lib.hid hb1
  clear hul hb1
  have HB0 := Lib.hid (Below.refl w1.heap.size w1)
  obtain ⟨B, hB⟩ : ∃ B, B = w1.heap.size := ⟨_, rfl⟩
  rw [← hB] at HU HB0
  have HBE := Lib.hid hB
  clear hB
  go_wp2_with (first | fail | (go_at_call 22; refine (HRH.out _).mono ?_; rintro e w' ⟨rfl, rfl⟩) | (go_at_call 22; refine (HGH.out _).mono ?_; rintro e w' ⟨rfl, rfl⟩))
  go_loopw [10, 11] (fun l i wr => ∃ (k : Nat), k ≤ n ∧ i = .int .i64 k ∧ Hid (wr.ownsRow B 3 1 l (rwF (wI L) wrp rm gap k).1.length ((rwF (wI L) wrp rm gap k).1.map (Value.int .i64))) ∧ Hid (k < n → newR (wI L) wrp rm gap k) ∧ Hid (Below B w1 wr) ∧ Hid (B ≤ wr.heap.size)) (fun _ i _ => n - (intOf i).toNat)
  case atStart => exact ⟨0, by omega, rfl, World.ownsRow_nil _ _ _ _, fun _ => .inl rfl, HB0.out, by rw [HBE.out]; exact Nat.le_refl _⟩
  case round =>
    obtain ⟨k, hk, rfl, HO, HNW, HBL, HZ⟩ := hrel
    by_cases hlt : k < n
    · have hik : (k : Int) < (n : Int) := by omega
      have HN2 := Lib.hid (HNW.out hlt)
      have hlen := (rwF_len (W := wI L) (wrp := wrp) (room := rm) (gap := gap) k).1
      rename World => wo
      have HBo := Lib.hid (Below.refl wo.heap.size wo)
      obtain ⟨l, hl⟩ : ∃ l, l = (rwF (wI L) wrp rm gap k).1 := ⟨_, rfl⟩
      rw [← hl] at HO hlen
      have HLE := Lib.hid hl
      clear hl HNW
      have hl2 : l.length ≤ 200 := by omega
      go_wp2_with fail
      go_loopw [12] (fun c wx => ∃ q : Nat, k + q ≤ n ∧ c = .int .i64 q ∧ Hid (0 < q → rwF (wI L) wrp rm gap (k + q) = (l ++ [(q : Int)], segS (wI L) gap k q)) ∧ Hid (Below wo.heap.size wo wx)) (fun c _ => n - k - (intOf c).toNat)
      case atStart => exact ⟨0, by omega, rfl, fun h => by omega, HBo.out⟩
      case round =>
        obtain ⟨q, hq, rfl, HRW, HBq⟩ := hrel
        rename World => wp
        by_cases hlt2 : k + q < n
        · have hik2 : (k : Int) + (q : Int) < (n : Int) := by omega
          have vkq : IntKind.i64.wrap ((k : Int) + (q : Int)) = (k : Int) + (q : Int) := IntWalk.i64_in _ (by omega)
          go_wp2_with fail
          go_loopw [13, 14] (fun s i wx => ∃ m : Nat, m ≤ q + 1 ∧ i = .int .i64 m ∧ s = .int .i64 (segS (wI L) gap k m) ∧ Hid (Below wo.heap.size wo wx)) (fun _ i _ => q + 1 - (intOf i).toNat)
          case atStart => exact ⟨0, by omega, rfl, by simp [segS, sumTo, gpS], HBq.out⟩
          case round =>
            obtain ⟨m, hm, rfl, rfl, HBm⟩ := hrel
            by_cases hmq : m < q + 1
            · skip
              have hik3 : (m : Int) ≤ (q : Int) := by omega
              obtain ⟨t, ht⟩ : ∃ t, t = k + m := ⟨_, rfl⟩
              have htn : t < n := by omega
              have hx : L[t]? = some (itA L t) := by rw [List.getElem?_eq_getElem (by rw [HLL.out]; exact htn), itA_eq (List.getElem?_eq_getElem (by rw [HLL.out]; exact htn))]
              obtain ⟨g, o, rfl, _, hc⟩ := rd_fi HU.out htn hx
              have hs1 := segS_bd HFB.out hgb (i := k) (n := m) (by omega)
              have hs2 := segS_bd HFB.out hgb (i := k) (n := m + 1) (by omega)
              have HSS := Lib.hid (segS_succ (W := wI L) (gap := gap) k m)
              rw [← ht] at HSS
              have HH := fun W => r_hold (itA L t) (itA L t).b W
              have hbb := bnd_bd (itA_fb HFB.out t) (itA L t).b
              have hxb := (itA_fb HFB.out t).b; have har := (itA_fb HFB.out t).ar
              have HWE : Hid (wI L t = bnd (itA L t) (itA L t).b + (itA L t).ar) := rfl
              obtain ⟨x, hx⟩ : ∃ x, x = itA L t := ⟨_, rfl⟩
              rw [← hx] at HH hbb hxb har HWE hc
              obtain ⟨BB, hBB⟩ : ∃ BB, BB = bnd x x.b := ⟨_, rfl⟩
              rw [← hBB] at HH hbb HWE
              obtain ⟨S, hS⟩ : ∃ S, S = segS (wI L) gap k m := ⟨_, rfl⟩
              rw [← hS] at hs1 HSS ⊢
              rw [HWE.out] at HSS
              have HH2 := Lib.hid HH
              have FC : Hid (∀ w', Below wo.heap.size wo w' → (w'.cell? ⟨g, o + t * 6, none⟩ = some (.int .i64 x.b) ∧ w'.cell? ⟨g, o + t * 6 + 1, none⟩ = some (.int .i64 x.mn) ∧ w'.cell? ⟨g, o + t * 6 + 2, none⟩ = some (.int .i64 x.mx) ∧ w'.cell? ⟨g, o + t * 6 + 3, none⟩ = some (.int .i64 x.ar) ∧ w'.cell? ⟨g, o + t * 6 + 4, none⟩ = some (.int .i64 x.g) ∧ w'.cell? ⟨g, o + t * 6 + 5, none⟩ = some (.int .i64 x.s))) := fun w' hb => hc _ (HBL.out.trans (hb.mono HZ.out))
              have v0 : IntKind.i64.wrap ((k : Int) + (m : Int)) = (t : Int) := by rw [ht, IntWalk.i64_in _ (by omega)]; rfl
              have htb : (t : Int) < (n : Int) := by omega
              have ht0 : (0 : Int) ≤ (t : Int) := by omega
              clear hx hBB HH hS hc ht HWE
              obtain ⟨xb, xmn, xmx, xar, xg, xs⟩ := x
              simp only at HSS FC HH2 har hxb hbb
              have v1 : IntKind.i64.wrap (S + BB) = S + BB := IntWalk.i64_in _ (by omega)
              have v2 : IntKind.i64.wrap (S + BB + xar) = S + BB + xar := IntWalk.i64_in _ (by omega)
              have v3 : IntKind.i64.wrap (S + BB + xar + gap) = S + BB + xar + gap := IntWalk.i64_in _ (by omega)
              go_upto_region 13 with fail
              go_region_held3 (fun w' => w'.cell? ⟨g, o + t * 6, none⟩ = some (.int .i64 xb) ∧ w'.cell? ⟨g, o + t * 6 + 1, none⟩ = some (.int .i64 xmn) ∧ w'.cell? ⟨g, o + t * 6 + 2, none⟩ = some (.int .i64 xmx) ∧ w'.cell? ⟨g, o + t * 6 + 3, none⟩ = some (.int .i64 xar) ∧ w'.cell? ⟨g, o + t * 6 + 4, none⟩ = some (.int .i64 xg) ∧ w'.cell? ⟨g, o + t * 6 + 5, none⟩ = some (.int .i64 xs))
                (first | exact FC.out _ HBm.out | exact FC.out _ (bl_drewA HBm.out) | exact FC.out _ HB5.out)
                ((go_at_call 23; refine (HH2.out _).mono ?_; rintro e w5 ⟨rfl, hb5⟩; have HB5 := Lib.hid (bl_trans (bl_drewA HBm.out) hb5); clear hb5))
              by_cases hm0 : 0 < m
              · have hm1 : (0 : Int) < (m : Int) := by omega
                have HSE : Hid (segS (wI L) gap k (m + 1) = S + BB + xar + gap) := by unfold Hid; rw [HSS.out, if_pos hm0]; omega
                go_wp2_with fail
                go_roundw
                case rel => exact ⟨m + 1, by omega, by go_num, by rw [HSE.out], HB5.out⟩
                case measure => simp [intOf]; omega
              · have hm1 : ¬ (0 : Int) < (m : Int) := by omega
                have HSE : Hid (segS (wI L) gap k (m + 1) = S + BB + xar) := by unfold Hid; rw [HSS.out, if_neg hm0]; omega
                go_wp2_with fail
                go_roundw
                case rel => exact ⟨m + 1, by omega, by go_num, by rw [HSE.out], HB5.out⟩
                case measure => simp [intOf]; omega
            · obtain rfl : m = q + 1 := by omega
              have hik3 : ¬ (((q + 1 : Nat) : Int) ≤ (q : Int)) := by omega
              by_cases hbr : wrp = true ∧ 0 < q ∧ rm < segS (wI L) gap k (q + 1)
              · skip
                obtain ⟨rfl, hq0, hbr⟩ := hbr
                have HRQ1 := HRW.out hq0
                have HNN : Hid (k + q < n → newR (wI L) true rm gap (k + q)) := fun _ => rw_brk HRQ1 hq0 ⟨rfl, hbr⟩
                have HRQ : Hid ((rwF (wI L) true rm gap (k + q)).1 = l ++ [(q : Int)]) := by unfold Hid; rw [HRQ1]
                have hq1 : (0 : Int) < (q : Int) := by omega
                clear HRQ1 HBq
                obtain ⟨SS, hSS⟩ : ∃ SS, SS = segS (wI L) gap k (q + 1) := ⟨_, rfl⟩
                rw [← hSS] at hbr ⊢
                have HBq := HBm
                clear hSS HBm
                have HOq := Lib.hid ((Kept.of_below HBq.out (fun _ => False)).own HO.out (fun _ _ h => h))
                have HBx : Hid (Below B w1 wr) := HBL.out.trans (HBq.out.mono HZ.out)
                have hBx : B ≤ (wr).heap.size := Nat.le_trans HZ.out HBq.out.size
                have vk : IntKind.i64.wrap ((k : Int) + (q : Int)) = (k : Int) + (q : Int) := IntWalk.i64_in _ (by omega)
                go_wp2_with (at_builtin; refine wp_push rfl _ _ 27 rfl B 3 Try.underlying27 inf_int rfl (by decide) wr u10 l.length (l.map (Value.int .i64)) [.int .i64 (q : Int)] rfl rfl rfl HOq.out rfl (by simp [Value.oneCell']) (by omega) (by omega) hBx ?_; intro v5 w5 hpush; have HPU := Lib.hid hpush; clear hpush)
                go_roundw
                case rel =>
                  refine ⟨k + q, by omega, by rw [Int.natCast_add], ?_, HNN.out, HPU.out.below HBx.out (Nat.le_refl _) hBx, Nat.le_trans hBx HPU.out.size_⟩
                  have := HPU.out.own
                  rw [HRQ.out]
                  simpa [Hid] using this
                case measure => simp [intOf]; omega
              · skip
                have HST := Lib.hid (rw_step HN2.out HLE.out.symm HRW.out hbr)
                have v9 : IntKind.i64.wrap ((q : Int) + 1) = (q : Int) + 1 := IntWalk.i64_in _ (by omega)
                obtain ⟨SS, hSS⟩ : ∃ SS, SS = segS (wI L) gap k (q + 1) := ⟨_, rfl⟩
                rw [← hSS] at hbr ⊢
                clear hSS
                by_cases hwr : wrp = true
                · subst hwr
                  by_cases hq0 : 0 < q
                  · have hq1 : (0 : Int) < (q : Int) := by omega
                    have hs0 : ¬ rm < SS := fun h => hbr ⟨rfl, hq0, h⟩
                    clear hbr
                    go_wp2_with fail
                    go_roundw
                    case rel => exact ⟨q + 1, by omega, by go_num, fun _ => HST.out, HBm.out⟩
                    case measure => simp [intOf]; omega
                  · have hq1 : ¬ (0 : Int) < (q : Int) := by omega
                    clear hbr
                    go_wp2_with fail
                    go_roundw
                    case rel => exact ⟨q + 1, by omega, by go_num, fun _ => HST.out, HBm.out⟩
                    case measure => simp [intOf]; omega
                · have hwr2 : wrp = false := by simpa using hwr
                  subst hwr2
                  clear hbr hwr
                  go_wp2_with fail
                  go_roundw
                  case rel => exact ⟨q + 1, by omega, by go_num, fun _ => HST.out, HBm.out⟩
                  case measure => simp [intOf]; omega
        · have hkq : k + q = n := by omega
          have hik2 : ¬ (k : Int) + (q : Int) < (n : Int) := by omega
          have hq0 : 0 < q := by omega
          have HRQ : Hid ((rwF (wI L) wrp rm gap (k + q)).1 = l ++ [(q : Int)]) := by unfold Hid; rw [HRW.out hq0]
          have HNN : Hid (k + q < n → newR (wI L) wrp rm gap (k + q)) := fun h => by omega
          have vkq : IntKind.i64.wrap ((k : Int) + (q : Int)) = (k : Int) + (q : Int) := IntWalk.i64_in _ (by omega)
          clear hkq
          have HOq := Lib.hid ((Kept.of_below HBq.out (fun _ => False)).own HO.out (fun _ _ h => h))
          have HBx : Hid (Below B w1 wp) := HBL.out.trans (HBq.out.mono HZ.out)
          have hBx : B ≤ (wp).heap.size := Nat.le_trans HZ.out HBq.out.size
          have vk : IntKind.i64.wrap ((k : Int) + (q : Int)) = (k : Int) + (q : Int) := IntWalk.i64_in _ (by omega)
          go_wp2_with (at_builtin; refine wp_push rfl _ _ 27 rfl B 3 Try.underlying27 inf_int rfl (by decide) wp u10 l.length (l.map (Value.int .i64)) [.int .i64 (q : Int)] rfl rfl rfl HOq.out rfl (by simp [Value.oneCell']) (by omega) (by omega) hBx ?_; intro v5 w5 hpush; have HPU := Lib.hid hpush; clear hpush)
          go_roundw
          case rel =>
            refine ⟨k + q, by omega, by rw [Int.natCast_add], ?_, HNN.out, HPU.out.below HBx.out (Nat.le_refl _) hBx, Nat.le_trans hBx HPU.out.size_⟩
            have := HPU.out.own
            rw [HRQ.out]
            simpa [Hid] using this
          case measure => simp [intOf]; omega
    · obtain rfl : k = n := by omega
      have hik : ¬ (k : Int) < (k : Int) := by omega
      go_wp2_with fail
      go_ret
      refine ⟨u10, rfl, RdS.of_own HO.out, ?_⟩
      have := HBL.out
      rw [HBE.out] at this
      exact HB1.out.trans (this.mono HB1.out.size)
end Go.Proofs.Ytdpnpjficcciiaa
