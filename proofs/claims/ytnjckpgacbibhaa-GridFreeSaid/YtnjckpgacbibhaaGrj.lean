/- the grid: the program's Place -/
import Derived.Test.YtnjckpgacbibhaaGri
namespace Go.Proofs.Ytnjckpgacbibhaa
set_option linter.unusedVariables false
set_option linter.unusedSimpArgs false
open Go.RowKit Go.Cas

theorem rowV_const (k : Nat) : rowV k (fun _ => Value.bool false) = ((List.replicate k false).map Value.bool).toArray := by
  unfold rowV
  congr 1
  rw [List.map_replicate]
  apply List.ext_getElem <;> simp
theorem Match.none_ (L : List Itm) (k : Nat) : Match (fun _ _ => false) L (List.replicate k false) := by
  intro a d
  constructor
  · intro h; cases h
  · rintro ⟨i, f, _, hs, _⟩
    rw [List.getElem?_replicate] at hs
    split at hs <;> simp at hs
/-- who stands after j of them -/
def StA (L0 : List Itm) (k j : Nat) (S : List Bool) : Prop := S.length = k ∧ ∀ a, a < k → S[a]? = some (if a < j then (L0.map stB).getD a false else false)
theorem StA.end_ {L0 : List Itm} {k : Nat} {S : List Bool} (h : StA L0 k k S) (hl : L0.length = k) : S = L0.map stB := by
  apply List.ext_getElem?
  intro i
  by_cases hi : i < k
  · rw [h.2 i hi, if_pos hi, List.getD_eq_getElem?_getD, List.getElem?_eq_getElem (by simp; omega)]
    simp
  · rw [List.getElem?_eq_none (by rw [h.1]; omega), List.getElem?_eq_none (by simp; omega)]
theorem StA.keep {L0 : List Itm} {k j : Nat} {S : List Bool} {x : Itm} (h : StA L0 k j S) (hx : L0[j]? = some x) (hb : stB x = false) : StA L0 k (j + 1) S := by
  refine ⟨h.1, fun a ha => ?_⟩
  rw [h.2 a ha]
  by_cases e : a = j
  · subst e
    rw [if_neg (by omega), if_pos (by omega), List.getD_eq_getElem?_getD, List.getElem?_map, hx]
    simp [hb]
  · by_cases e2 : a < j
    · rw [if_pos e2, if_pos (by omega)]
    · rw [if_neg e2, if_neg (by omega)]
theorem StA.put {L0 : List Itm} {k j : Nat} {S : List Bool} {x : Itm} (h : StA L0 k j S) (hj : j < k) (hx : L0[j]? = some x) (hb : stB x = true) : StA L0 k (j + 1) (S.set j true) := by
  refine ⟨by simp [h.1], fun a ha => ?_⟩
  by_cases e : a = j
  · subst e
    rw [List.getElem?_set_self (by rw [h.1]; exact ha), if_pos (by omega), List.getD_eq_getElem?_getD, List.getElem?_map, hx]
    simp [hb]
  · rw [List.getElem?_set_ne (fun h => e h.symm), h.2 a ha]
    by_cases e2 : a < j
    · rw [if_pos e2, if_pos (by omega)]
    · rw [if_neg e2, if_neg (by omega)]

set_option maxRecDepth 100000 in
set_option maxHeartbeats 16000000 in
theorem c_PlaceP (v : Value) (n lim : Nat) (I : List CIn) (cols : Int) (w : World) (hr : RdS w lim 4 v n (cins I)) (hlim : lim ≤ w.heap.size) (hn : n ≤ 60) (hn0 : 0 < n) (L0 L3 L4 : List Itm) (S3 : List Bool) (C3 : Int) (hL0 : L0 = I.map hIt) (h3 : Run3 0 L0 (L0.map stB) (colF (colB cols) L0) L3 S3 C3) (h4 : Run4 C3 0 L3 S3 1 1 L4) : Calls Try.prog 51 #[v, .int .i64 cols] w (PlRet w n L4 C3) := by
  obtain ⟨hl, A, c, rfl, hnc, hcell⟩ := hr
  have e1 : I.length = n := by rw [cins_len] at hl; omega
  obtain ⟨g0, o0, rfl, hg0, hc0⟩ := hcell hn0
  have HC := Lib.hid hc0
  have HN := Lib.hid e1
  have HL0 := Lib.hid hL0
  have HR3 := Lib.hid h3
  have HR4 := Lib.hid h4
  have HCB : Hid (∀ k, 1 ≤ colF (colB cols) (L0.take k) ∧ colF (colB cols) (L0.take k) ≤ 220) := fun k => by rw [hL0]; exact colF_bd _ (by unfold colB; omega) I k
  have HB := Lib.hid (Below.refl w.heap.size w)
  obtain ⟨B, hB⟩ : ∃ B, B = w.heap.size := ⟨_, rfl⟩
  have HBE := Lib.hid hB
  have hg0B : g0 < B := by omega
  rw [← hB] at HB
  have f1 := fold_max; have f2 := fold_min; have f3 := colB_prog
  have f4 : min (n : Int) 200 = n := by omega
  have hnc' : (n : Int) ≤ (c : Int) := by omega
  have hmm := @run_makeMap Try.prog
  clear hcell hc0 hl e1 hL0 hB h3 h4
  go_enter Try.func51, Try.ntmps51
  go_wp2_with fail
  go_loopw [1, 7, 32] (fun co l i wr => ∃ (k : Nat) (C : Int), k ≤ n ∧ i = .int .i64 k ∧ co = .int .i64 C ∧ Hid (C = colF (colB cols) (L0.take k)) ∧ Hid (wr.ownsRow B 99 4 l k (ics (L0.take k))) ∧ Hid (Below B w wr) ∧ Hid (B ≤ wr.heap.size)) (fun _ _ i _ => n - (intOf i).toNat)
  case atStart => exact ⟨0, _, by omega, rfl, rfl, by simp [Hid, colF], World.ownsRow_nil _ _ _ _, HB.out, by rw [HBE.out]; exact Nat.le_refl _⟩
  case round =>
    obtain ⟨k, C, hk, rfl, rfl, HCc, HO, HBL, HZ⟩ := hrel
    have hcb := HCB.out k
    rw [← HCc.out] at hcb
    by_cases hlt : k < n
    · skip
      have hik : (k : Int) < (n : Int) := by omega
      have hkL : k < I.length := by rw [HN.out]; exact hlt
      obtain ⟨x, hx⟩ : ∃ x, I[k]? = some x := ⟨_, List.getElem?_eq_getElem hkL⟩
      have h4 : ∀ j, j < 4 → ∀ u, (cin x)[j]? = some u → wr.cell? ⟨g0, o0 + k * 4 + j, none⟩ = some u := fun j hj u hu => by
        have := HC.out (k * 4 + j) u (by rw [cins_get I k j x hx hj]; exact hu)
        rw [← Nat.add_assoc] at this
        exact (HBL.out.cell (p := ⟨g0, _, none⟩) hg0B).trans this
      have d0 := h4 0 (by omega) _ rfl; have d1 := h4 1 (by omega) _ rfl; have d2 := h4 2 (by omega) _ rfl; have d3 := h4 3 (by omega) _ rfl
      have HX : Hid (L0[k]? = some (hIt x)) := by rw [HL0.out, List.getElem?_map, hx]; rfl
      clear h4 hx hkL
      obtain ⟨xc, xp, xr, xq⟩ := x
      simp only [Nat.add_zero] at d0 d1 d2 d3
      obtain ⟨R, hR⟩ : ∃ R, R = wr.heap.size := ⟨_, rfl⟩
      have HK : Hid (Bk (wr.alloc (.cells #[.int .i64 xc, .int .i64 xp, .int .i64 xr, .int .i64 xq] 99)) R 99 #[.int .i64 xc, .int .i64 xp, .int .i64 xr, .int .i64 xq]) := by rw [hR]; exact Bk.new _ _ _
      have HRR := Lib.hid hR
      have hBR : B ≤ R := by rw [hR]; exact HZ.out
      clear hR
      go_wp2_with fail
      refine (c_heldG ⟨xc, xp, xr, xq⟩ _).mono ?_
      rintro e w6 ⟨rfl, hb6⟩
      have HX6 := Lib.hid (HK.out.below hb6 HK.out.lt)
      have HB6 : Hid (Below wr.heap.size wr w6) := bl_trans (bl_alloc (Below.refl _ wr) _) hb6
      rw [← HRR.out]
      clear d0 d1 d2 d3 hb6
      have q1 := HX6.out.cell; have q2 := HX6.out.free; have q3 := HX6.out.lt
      go_upto_region 7 with fail
      obtain ⟨w7, hw7⟩ : ∃ w7, w7 = (((w6.setCell ⟨R, 0, none⟩ (.int .i64 (atI xc))).setCell ⟨R, 1, none⟩ (.int .i64 (spanN xp))).setCell ⟨R, 2, none⟩ (.int .i64 (atI xr))).setCell ⟨R, 3, none⟩ (.int .i64 (spanN xq)) := ⟨_, rfl⟩
      rw [← hw7]
      have HW7 := Lib.hid hw7
      clear hw7 q1 q2 q3
      have HBc : Hid (Below wr.heap.size wr w7) := by
        rw [HW7.out]; exact bl_set (bl_set (bl_set (bl_set HB6.out R 0 (by rw [HRR.out]; exact Nat.le_refl _) _) R 1 (by rw [HRR.out]; exact Nat.le_refl _) _) R 2 (by rw [HRR.out]; exact Nat.le_refl _) _) R 3 (by rw [HRR.out]; exact Nat.le_refl _) _
      have hkx : Bk w7 R 99 #[.int .i64 (atI xc), .int .i64 (spanN xp), .int .i64 (atI xr), .int .i64 (spanN xq)] := by
        have h1 := ((((HX6.out.set_ 0 (.int .i64 (atI xc))).set_ 1 (.int .i64 (spanN xp))).set_ 2 (.int .i64 (atI xr))).set_ 3 (.int .i64 (spanN xq)))
        rw [← HW7.out] at h1
        simpa using h1
      have HKX := Lib.hid hkx
      have HOX := Lib.hid ((Kept.of_below HBc.out (fun _ => False)).own HO.out (fun _ _ h => h))
      have HBX : Hid (Below B w w7) := HBL.out.trans (HBc.out.mono HZ.out)
      have hBx : B ≤ w7.heap.size := Nat.le_trans HZ.out HBc.out.size
      have HNE : Hid (some R ≠ u7.ownBlock) := fun e => by have h1 := (own_lt HO.out e.symm).2; have h2 := HRR.out; omega
      have HTK : Hid (L0.take (k + 1) = L0.take k ++ [hIt ⟨xc, xp, xr, xq⟩]) := by
        obtain ⟨h1, h2⟩ := List.getElem?_eq_some_iff.1 HX.out
        unfold Hid
        rw [List.take_succ_eq_append_getElem h1, h2]
      have q1 := hkx.cell; have q2 := hkx.lt
      have hsp := spanN_bd xp
      have hat : 0 ≤ atI xc ∧ atI xc ≤ 200 := by unfold atI; omega
      clear hkx f3 f4
      by_cases hpos : 0 < atI xc
      · go_wp2_with (at_builtin; refine wp_push rfl _ _ 92 rfl B 99 Try.underlying92 inf_Item rfl (by decide) w7 u7 k (ics (L0.take k)) [.int .i64 (atI xc), .int .i64 (spanN xp), .int .i64 (atI xr), .int .i64 (spanN xq)] rfl rfl rfl HOX.out rfl (by simp [Value.oneCell']) (by omega) (by omega) hBx ?_; intro v5 w5 hpush; have HPU := Lib.hid hpush; have hk5 := (HKX.out.grown hpush.grown (HNE.out)).cell; clear hpush)
        go_roundw
        case rel =>
          refine ⟨k + 1, colS C (hIt ⟨xc, xp, xr, xq⟩), by omega, by go_num, ?_, ?_, ?_, HPU.out.below HBX.out (Nat.le_refl _) hBx, Nat.le_trans hBx HPU.out.size_⟩
          · show _ = Value.int .i64 (if 0 < atI xc then max (max C (spanN xp : Int)) (atI xc + (spanN xp : Int) - 1) else max C (spanN xp : Int)); rw [if_pos hpos]; first | rfl | (congr 1; omega)
          · rw [colF_take _ _ _ _ HX.out, ← HCc.out]; rfl
          · have := HPU.out.own; rw [HTK.out, ics_snoc]; exact this
        case measure => simp [intOf]; omega
      · go_wp2_with (at_builtin; refine wp_push rfl _ _ 92 rfl B 99 Try.underlying92 inf_Item rfl (by decide) w7 u7 k (ics (L0.take k)) [.int .i64 (atI xc), .int .i64 (spanN xp), .int .i64 (atI xr), .int .i64 (spanN xq)] rfl rfl rfl HOX.out rfl (by simp [Value.oneCell']) (by omega) (by omega) hBx ?_; intro v5 w5 hpush; have HPU := Lib.hid hpush; have hk5 := (HKX.out.grown hpush.grown (HNE.out)).cell; clear hpush)
        go_roundw
        case rel =>
          refine ⟨k + 1, colS C (hIt ⟨xc, xp, xr, xq⟩), by omega, by go_num, ?_, ?_, ?_, HPU.out.below HBX.out (Nat.le_refl _) hBx, Nat.le_trans hBx HPU.out.size_⟩
          · show _ = Value.int .i64 (if 0 < atI xc then max (max C (spanN xp : Int)) (atI xc + (spanN xp : Int) - 1) else max C (spanN xp : Int)); rw [if_neg hpos]
          · rw [colF_take _ _ _ _ HX.out, ← HCc.out]; rfl
          · have := HPU.out.own; rw [HTK.out, ics_snoc]; exact this
        case measure => simp [intOf]; omega
    · obtain rfl : k = n := by omega
      have hik : ¬ (k : Int) < (k : Int) := by omega
      have hL0 : L0.length = k := by rw [HL0.out, List.length_map, HN.out]
      have HLL := Lib.hid hL0
      rw [List.take_of_length_le (by omega)] at HCc HO
      obtain ⟨g, cap, hu, hgB, hgl⟩ := HO.out.form (by omega)
      have HU := Lib.hid hu
      subst hu
      clear hL0 hk HC HN hlt f3 f4
      obtain ⟨b, hb⟩ : ∃ b, b = wr.heap.size := ⟨_, rfl⟩
      have HBB := Lib.hid hb
      obtain ⟨w1, hm1, HM1⟩ := make_B (wr.alloc (.map #[] 0)) k (by omega)
      have hz1 : (wr.alloc (.map #[] 0)).heap.size = b + 1 := by rw [hb]; simp
      rw [hz1] at hm1
      have HP : Hid (PSt w B g cap (b + 1) b k L0 (List.replicate k false) 0 (fun _ _ => false) w1) := by
        rw [HM1.out]
        refine ⟨(HO.out.alloc _).alloc _, ?_, Brd.alloc (w := wr.alloc (.map #[] 0)) ?_ _, (HBL.out.alloc HZ.out _).alloc (by rw [hz1, hb]; have := HZ.out; omega) _, ⟨hgB, by omega, by omega⟩⟩
        · rw [rowV_const]; exact bk_new' _ _ _ hz1.symm
        · rw [hb]; exact Brd.made _
      clear hz1 hb hgB hgl
      go_wp2_with fail
      try rw [← HBB.out]
      clear hm1
      go_loopw [64] (fun i wr => ∃ (j : Nat) (S : List Bool) (N : Nat) (T : Int → Int → Bool), j ≤ k ∧ i = .int .i64 j ∧ N ≤ 400 * j ∧ Hid (PSt w B g cap (b + 1) b k L0 S N T wr) ∧ Hid (Match T L0 S) ∧ Hid (StA L0 k j S)) (fun i _ => k - (intOf i).toNat)
      case atStart => exact ⟨0, _, _, _, by omega, rfl, by omega, HP.out, Match.none_ L0 k, by simp, fun a ha => by simp [List.getElem?_replicate, ha]⟩
      case round =>
        obtain ⟨j, S, N, T, hj, rfl, hN, HP, HM, HSA⟩ := hrel
        by_cases hjk : j < k
        · skip
          have hik2 : (j : Int) < (k : Int) := by omega
          obtain ⟨x, hx⟩ : ∃ x, L0[j]? = some x := ⟨_, List.getElem?_eq_getElem (by rw [HLL.out]; exact hjk)⟩
          obtain ⟨d0, d1, d2, d3⟩ := HP.out.cells hx
          have hsj : S[j]? = some false := by rw [HSA.out.2 j hjk]; simp
          have HSJ := Lib.hid hsj
          have HX := Lib.hid hx
          have HIB : Hid (IB x) := by
            rw [HL0.out] at hx
            obtain ⟨y, _, rfl⟩ := List.mem_map.1 (List.mem_of_getElem? hx)
            have h1 := spanN_bd y.p; have h2 := spanN_bd y.q
            have h3 : 0 ≤ atI y.c ∧ atI y.c ≤ 200 := by unfold atI; omega
            have h4 : 0 ≤ atI y.r ∧ atI y.r ≤ 200 := by unfold atI; omega
            unfold Hid IB hIt
            simp only
            omega
          clear hx hsj
          obtain ⟨xc, xp, xr, xq⟩ := x
          simp only at d0 d1 d2 d3
          by_cases c1 : 0 < xc
          · by_cases c2 : 0 < xr
            · have HPA := Lib.hid (HP.out.alloc (.cells #[.int .i64 xc, .int .i64 xp, .int .i64 xr, .int .i64 xq] 99))
              have hst : stB ⟨xc, xp, xr, xq⟩ = true := by unfold stB; simp only; exact decide_eq_true ⟨c1, c2⟩
              have HST := Lib.hid hst
              clear hst
              go_wp2_with fail
              refine (HPA.out.take (by omega) ⟨xc, xp, xr, xq⟩ HIB.out).mono ?_
              rintro e w6 ⟨rfl, hp6⟩
              have HP6 := Lib.hid hp6
              have sc := hp6.cellS HSJ.out
              have sf := hp6.st.free j
              clear hp6 d0 d1 d2 d3
              go_wp2_with fail
              go_roundw
              case rel => exact ⟨j + 1, S.set j true, N + 400, _, by omega, by go_num, by omega, HP6.out.setS j, by have h := HM.out.set_ (x := ⟨xc, xp, xr, xq⟩) HX.out HSJ.out; rw [set_self HX.out] at h; exact h, HSA.out.put hjk HX.out HST.out⟩
              case measure => simp [intOf]; omega
            · have hst : stB ⟨xc, xp, xr, xq⟩ = false := by unfold stB; simp only; exact decide_eq_false (fun h => c2 h.2)
              have HST := Lib.hid hst
              have HPA := Lib.hid (HP.out.alloc (.cells #[.int .i64 xc, .int .i64 xp, .int .i64 xr, .int .i64 xq] 99))
              clear hst
              go_wp2_with fail
              go_roundw
              case rel => exact ⟨j + 1, S, N, T, by omega, by go_num, by omega, HPA.out, HM.out, HSA.out.keep HX.out HST.out⟩
              case measure => simp [intOf]; omega
          · have hst : stB ⟨xc, xp, xr, xq⟩ = false := by unfold stB; simp only; exact decide_eq_false (fun h => c1 h.1)
            have HST := Lib.hid hst
            have HPA := Lib.hid (HP.out.alloc (.cells #[.int .i64 xc, .int .i64 xp, .int .i64 xr, .int .i64 xq] 99))
            clear hst
            by_cases c2 : 0 < xr
            all_goals
              go_wp2_with fail
              go_roundw
              case rel => exact ⟨j + 1, S, N, T, by omega, by go_num, by omega, HPA.out, HM.out, HSA.out.keep HX.out HST.out⟩
              case measure => simp [intOf]; omega
        · obtain rfl : j = k := by omega
          have hik2 : ¬ (j : Int) < (j : Int) := by omega
          obtain rfl := HSA.out.end_ HLL.out
          have hGG : GG 300 L0 (L0.map stB) C := by
            have hcb2 := HCB.out L0.length
            rw [List.take_length, ← HCc.out] at hcb2
            refine ⟨by simp, fun x hx => ?_, by omega, by omega⟩
            rw [HL0.out] at hx
            obtain ⟨y, _, rfl⟩ := List.mem_map.1 hx
            have h1 := spanN_bd y.p; have h2 := spanN_bd y.q
            have h3 : 0 ≤ atI y.c ∧ atI y.c ≤ 200 := by unfold atI; omega
            have h4 : 0 ≤ atI y.r ∧ atI y.r ≤ 200 := by unfold atI; omega
            have h5 : (spanN y.p : Int) ≤ C := by rw [HCc.out]; exact (colF_ge _ L0).2 (hIt y) (by rw [HL0.out]; exact List.mem_map.2 ⟨y, ‹_›, rfl⟩)
            simp only [hIt]
            omega
          have HGG := Lib.hid hGG
          have HR3C : Hid (Run3 0 L0 (L0.map stB) C L3 S3 C3) := by rw [HCc.out]; exact HR3.out
          clear hGG hcb hjk
          go_wp2_with fail
          go_loopw [1, 86] (fun co i wr => ∃ (q : Nat) (L : List Itm) (S : List Bool) (C : Int) (N : Nat) (T : Int → Int → Bool), q ≤ j ∧ i = .int .i64 q ∧ co = .int .i64 C ∧ N ≤ 24000 + 400 * q ∧ Hid (PSt w B g cap (b + 1) b j L S N T wr) ∧ Hid (Match T L S) ∧ Hid (Run3 q L S C L3 S3 C3) ∧ Hid (GG (300 + 30 * q) L S C) ∧ Hid (L.length = j)) (fun _ i _ => j - (intOf i).toNat)
          case atStart => exact ⟨0, L0, _, C, N, T, by omega, rfl, rfl, by omega, HP.out, HM.out, HR3C.out, HGG.out.mono (by omega), HLL.out⟩
          case round =>
            obtain ⟨q, L, S, C, N, T, hq, rfl, rfl, hN, HP, HM, HRN, HG, HLn⟩ := hrel
            by_cases hqj : q < j
            · skip
              have hik3 : (q : Int) < (j : Int) := by omega
              have hrun := HRN.out
              cases hrun with
              | done h => exact absurd h (by have := HLn.out; omega)
              | @skip _ _ _ _ _ _ _ x s hx hs hor hnext =>
                obtain ⟨d0, d1, d2, d3⟩ := HP.out.cells hx
                have qs := HP.out.cellS hs
                have HNX := Lib.hid hnext
                clear hx hs hnext
                obtain ⟨xc, xp, xr, xq⟩ := x
                simp only at d0 d1 d2 d3 hor
                cases s
                · have hr0 : xr = 0 := by rcases hor with h | h; cases h; exact h
                  subst hr0
                  go_wp2_with fail
                  go_roundw
                  case rel => exact ⟨q + 1, L, S, C, N, T, by omega, by go_num, rfl, by omega, HP.out, HM.out, HNX.out, HG.out.mono (by push_cast; omega), HLn.out⟩
                  case measure => simp [intOf]; omega
                · go_wp2_with fail
                  go_roundw
                  case rel => exact ⟨q + 1, L, S, C, N, T, by omega, by go_num, rfl, by omega, HP.out, HM.out, HNX.out, HG.out.mono (by push_cast; omega), HLn.out⟩
                  case measure => simp [intOf]; omega
              | @put _ _ _ _ _ _ _ x t kk hx hs hr hsr hnext =>
                obtain ⟨d0, d1, d2, d3⟩ := HP.out.cells hx
                have qs := HP.out.cellS hs
                have HNX := Lib.hid hnext; have HX := Lib.hid hx; have HBF := Lib.hid hs
                have htb := Srch.le hsr (fun c hc => HG.out.farC hc) (by omega)
                have HSR := Lib.hid hsr
                have qf := HP.out.own.frozenAt
                have hlen4 := HLn.out
                have hxb := HG.out.each _ (List.mem_of_getElem? hx)
                have hgC := HG.out.cols
                clear hx hs hnext hsr
                obtain ⟨xc, xp, xr, xq⟩ := x
                simp only at d0 d1 d2 d3 hr htb HNX HSR HX hxb
                have hrB : (xr == 0) = false := by simpa using hr
                have HP1 := Lib.hid (HP.out.setC HX.out 1)
                go_wp2_with fail
                clear d0 d1 d2 d3 qs qf
                go_loopg [] kk (fun gk wr => ∃ (c : Int), 1 ≤ c ∧ Hid (Srch (fun c => FreeP L S ⟨c, xp, xr, xq⟩) c t gk) ∧ Hid (PSt w B g cap (b + 1) b j (L.set q ⟨c, xp, xr, xq⟩) S N T wr))
                case atStart => exact ⟨1, by omega, HSR.out, HP1.out⟩
                case round =>
                  obtain ⟨c, hc1, HSC, HP2⟩ := hrel
                  have hct := HSC.out.ge
                  have hql : (L.set q ⟨c, xp, xr, xq⟩)[q]? = some ⟨c, xp, xr, xq⟩ := by rw [List.getElem?_set_self (by rw [HLn.out]; exact hqj)]
                  have HQL := Lib.hid hql
                  obtain ⟨d0, d1, d2, d3⟩ := HP2.out.cells hql
                  simp only at d0 d1 d2 d3
                  clear hql
                  have HFR := Lib.hid (HP2.out.free HM.out HG.out.pos1 ⟨c, xp, xr, xq⟩ (HG.out.ib1 (x := ⟨xc, xp, xr, xq⟩) HX.out ⟨by omega, by omega⟩ (by omega)))
                  go_wp2_with fail
                  refine HFR.out.mono ?_
                  rintro e w5 ⟨fv, rfl, hfv, hb5⟩
                  have HP5 := Lib.hid (HP2.out.below hb5)
                  have HFV := Lib.hid hfv
                  clear hfv hb5 d0 d1 d2 d3
                  obtain ⟨d0, d1, d2, d3⟩ := HP5.out.cells HQL.out
                  have qf := HP5.out.own.frozenAt
                  simp only at d0 d1 d2 d3
                  cases fv
                  · have hno : ¬ FreeP L S ⟨c, xp, xr, xq⟩ := fun h => by have := HFV.out.2 h; cases this
                    obtain ⟨m, hm, hsm⟩ := HSC.out.miss hno
                    have HMM := Lib.hid hm; have HSM := Lib.hid hsm
                    have hct2 := hsm.ge
                    clear hno hm hsm
                    have HP6 : Hid (PSt w B g cap (b + 1) b j (L.set q ⟨c + 1, xp, xr, xq⟩) S N T (w5.setCell ⟨g, q * 4, none⟩ (.int .i64 (c + 1)))) := by
                      have := HP5.out.setC HQL.out (c + 1)
                      rw [List.set_set] at this
                      exact this
                    go_wp2_with fail
                    go_roundg m
                    case measure => exact HMM.out
                    case rel => exact ⟨c + 1, by omega, HSM.out, HP6.out⟩
                  · have htc := HSC.out.hit (HFV.out.1 rfl)
                    subst htc
                    have HTK := Lib.hid (HP5.out.take (by omega) ⟨t, xp, xr, xq⟩ (HG.out.ib1 (x := ⟨xc, xp, xr, xq⟩) HX.out ⟨by omega, by omega⟩ (by omega)))
                    have w1 : IntKind.i64.wrap (t + xp) = t + xp := IntWalk.i64_in _ (by omega)
                    have w2 : IntKind.i64.wrap (t + xp - 1) = t + xp - 1 := IntWalk.i64_in _ (by omega)
                    have HGN : Hid (GG (300 + 30 * ((q + 1 : Nat) : Int)) (L.set q ⟨t, xp, xr, xq⟩) (S.set q true) (max C (t + xp - 1))) := HG.out.set_ (x := ⟨xc, xp, xr, xq⟩) HX.out (by push_cast; omega) (by omega) (by simp only; push_cast; omega) (by omega) (by simp only; push_cast; omega) (by omega) (by push_cast; omega)
                    go_wp2_with fail
                    refine HTK.out.mono ?_
                    rintro e w6 ⟨rfl, hp6⟩
                    have HP7 := Lib.hid (hp6.setS q)
                    have sc := hp6.cellS HBF.out
                    have sf := hp6.st.free q
                    clear hp6 d0 d1 d2 d3 qf
                    obtain ⟨d0, d1, d2, d3⟩ := HP7.out.cells HQL.out
                    simp only at d0 d1 d2 d3
                    go_wp2_with fail
                    go_quiet (fail)
                    go_wp2_with fail
                    go_roundw
                    case rel => exact ⟨q + 1, L.set q ⟨t, xp, xr, xq⟩, S.set q true, max C (t + xp - 1), N + 400, _, by omega, by go_num, rfl, by omega, HP7.out.drewN _, HM.out.set_ (x := ⟨t, xp, xr, xq⟩) HX.out HBF.out, HNX.out, HGN.out, by simp [Hid, HLn.out]⟩
                    case measure => simp [intOf]; omega
            · obtain rfl : q = j := by omega
              have hik3 : ¬ (q : Int) < (q : Int) := by omega
              have hfin : L3 = L ∧ S3 = S ∧ C3 = C := by
                have hrun := HRN.out
                cases hrun with
                | done h => exact ⟨rfl, rfl, rfl⟩
                | skip hx hb hor hnext => have := (List.getElem?_eq_some_iff.1 hx).1; have := HLn.out; omega
                | put hx hb hr hsr hnext => have := (List.getElem?_eq_some_iff.1 hx).1; have := HLn.out; omega
              obtain ⟨rfl, rfl, rfl⟩ := hfin
              have HG4 := Lib.hid (HG.out.mono (E' := 3000) (by omega))
              have HC3 := HG4.out.cols
              clear hqj hq HG HRN
              go_wp2_with fail
              go_loopw [16, 17, 142] (fun ro co i wr => ∃ (m : Nat) (L : List Itm) (S : List Bool) (row col : Int) (N : Nat) (T : Int → Int → Bool), m ≤ q ∧ i = .int .i64 m ∧ ro = .int .i64 row ∧ co = .int .i64 col ∧ 1 ≤ row ∧ row ≤ 3001 + 30 * m ∧ 1 ≤ col ∧ col ≤ 3001 + 30 * m ∧ N ≤ 50000 + 400 * m ∧ Hid (PSt w B g cap (b + 1) b q L S3 N T wr) ∧ Hid (Match T L S) ∧ Hid (∀ a, m ≤ a → S[a]? = S3[a]?) ∧ Hid (Run4 C3 m L S row col L4) ∧ Hid (GG (3000 + 30 * m) L S C3) ∧ Hid (L.length = q)) (fun _ _ i _ => q - (intOf i).toNat)
              case atStart => exact ⟨0, L3, S3, 1, 1, N, T, by omega, rfl, rfl, rfl, by omega, by omega, by omega, by omega, by omega, HP.out, HM.out, fun _ _ => rfl, HR4.out, by simpa [Hid] using HG4.out, HLn.out⟩
              case round =>
                obtain ⟨m, L, S, row, col, N, T, hm, rfl, rfl, rfl, hr1, hr2, hc1, hc2, hN4, HP, HM, HSS, HRN4, HG5, HLn4⟩ := hrel
                by_cases hmq : m < q
                · skip
                  have hik4 : (m : Int) < (q : Int) := by omega
                  have hmL : m < L.length := by rw [HLn4.out]; exact hmq
                  rcases HRN4.out.split hmL with ⟨x, hx, hs, hnext⟩ | ⟨x, tr, tc, hx, hs, hnext, hor⟩
                  · skip
                    have qs := HP.out.cellS (by rw [← HSS.out m (Nat.le_refl _)]; exact hs)
                    have HNX := Lib.hid hnext
                    have hln := HLn4.out
                    clear hx hs hnext hmL
                    go_wp2_with fail
                    go_roundw
                    case rel => exact ⟨m + 1, L, S, row, col, N, T, by omega, by go_num, rfl, rfl, hr1, by push_cast; omega, hc1, by push_cast; omega, by omega, HP.out, HM.out, fun a ha => HSS.out a (by omega), HNX.out, HG5.out.mono (by push_cast; omega), HLn4.out⟩
                    case measure => simp [intOf]; omega
                  · skip
                    obtain ⟨n1, n2, n3, n4, hgn⟩ := Run4.next HG5.out hx ⟨hr1, by omega⟩ ⟨hc1, by omega⟩ hor
                    have HGN : Hid (GG (3000 + 30 * ((m + 1 : Nat) : Int)) (L.set m ⟨tc, x.p, tr, x.q⟩) (S.set m true) C3) := hgn.mono (by push_cast; omega)
                    have hln := HLn4.out
                    obtain ⟨d0, d1, d2, d3⟩ := HP.out.cells hx
                    have qs := HP.out.cellS (by rw [← HSS.out m (Nat.le_refl _)]; exact hs)
                    have qf := HP.out.own.frozenAt
                    have HNX := Lib.hid hnext; have HX := Lib.hid hx; have HBF := Lib.hid hs
                    have hxb := HG5.out.each _ (List.mem_of_getElem? hx)
                    have hgC := HG5.out.cols
                    have HOR := Lib.hid hor
                    clear hx hs hnext hor hgn
                    obtain ⟨xc, xp, xr, xq⟩ := x
                    simp only at d0 d1 d2 d3 hxb HNX HOR HX HGN
                    go_upto_if 156 with fail
                    go_cut [16, 17] (fun _ _ wx => Hid (PSt w B g cap (b + 1) b q (L.set m ⟨tc, xp, tr, xq⟩) S3 N T wx))
                    case first =>
                      rcases HOR.out with ⟨hxc, hcc, kk, hsr⟩ | ⟨hxc, kk, hsr⟩
                      · skip
                        subst hcc
                        by_cases hcc2 : tc < col
                        · have HSR : Hid (Srch (fun r => FreeP L S ⟨tc, xp, r, xq⟩) (row + 1) tr kk) := by rw [if_pos hcc2] at hsr; exact hsr
                          have hct0 := HSR.out.ge
                          clear hsr
                          have HP1 := Lib.hid (HP.out.setR HX.out (row + 1))
                          go_wp2_with fail
                          clear d0 d1 d2 d3 qs qf
                          go_loopg [] kk (fun gk wr => ∃ (r : Int), 1 ≤ r ∧ Hid (Srch (fun r => FreeP L S ⟨tc, xp, r, xq⟩) r tr gk) ∧ Hid (PSt w B g cap (b + 1) b q (L.set m ⟨tc, xp, r, xq⟩) S3 N T wr))
                          case atStart => exact ⟨row + 1, by omega, HSR.out, HP1.out⟩
                          case round =>
                            obtain ⟨r, hr3, HSC, HP2⟩ := hrel
                            have hct := HSC.out.ge
                            have hql : (L.set m ⟨tc, xp, r, xq⟩)[m]? = some ⟨tc, xp, r, xq⟩ := by rw [List.getElem?_set_self hmL]
                            have HQL := Lib.hid hql
                            obtain ⟨d0, d1, d2, d3⟩ := HP2.out.cells hql
                            simp only at d0 d1 d2 d3
                            clear hql
                            have HFR := Lib.hid (HP2.out.free HM.out HG5.out.pos1 ⟨tc, xp, r, xq⟩ (HG5.out.ib1 (x := ⟨tc, xp, xr, xq⟩) HX.out ⟨by omega, by omega⟩ ⟨by omega, by omega⟩))
                            go_wp2_with fail
                            refine HFR.out.mono ?_
                            rintro e w5 ⟨fv, rfl, hfv, hb5⟩
                            have HP5 := Lib.hid (HP2.out.below hb5)
                            have HFV := Lib.hid hfv
                            clear hfv hb5 d0 d1 d2 d3
                            obtain ⟨d0, d1, d2, d3⟩ := HP5.out.cells HQL.out
                            have qf := HP5.out.own.frozenAt
                            simp only at d0 d1 d2 d3
                            cases fv
                            · have hno : ¬ FreeP L S ⟨tc, xp, r, xq⟩ := fun h => by have := HFV.out.2 h; cases this
                              obtain ⟨k2, hk2, hsm⟩ := HSC.out.miss hno
                              have HMM := Lib.hid hk2; have HSM := Lib.hid hsm
                              have hct2 := hsm.ge
                              clear hno hk2 hsm
                              have HP6 : Hid (PSt w B g cap (b + 1) b q (L.set m ⟨tc, xp, r + 1, xq⟩) S3 N T (w5.setCell ⟨g, m * 4 + 2, none⟩ (.int .i64 (r + 1)))) := by
                                have := HP5.out.setR HQL.out (r + 1)
                                rw [List.set_set] at this
                                exact this
                              go_wp2_with fail
                              go_roundg k2
                              case measure => exact HMM.out
                              case rel => exact ⟨r + 1, by omega, HSM.out, HP6.out⟩
                            · have htc := HSC.out.hit (HFV.out.1 rfl)
                              subst htc
                              go_wp2_with fail
                              go_meet
                              case rel => exact HP5.out
                        · have HSR : Hid (Srch (fun r => FreeP L S ⟨tc, xp, r, xq⟩) (row) tr kk) := by rw [if_neg hcc2] at hsr; exact hsr
                          have hct0 := HSR.out.ge
                          clear hsr
                          have HP1 := Lib.hid (HP.out.setR HX.out (row))
                          go_wp2_with fail
                          clear d0 d1 d2 d3 qs qf
                          go_loopg [] kk (fun gk wr => ∃ (r : Int), 1 ≤ r ∧ Hid (Srch (fun r => FreeP L S ⟨tc, xp, r, xq⟩) r tr gk) ∧ Hid (PSt w B g cap (b + 1) b q (L.set m ⟨tc, xp, r, xq⟩) S3 N T wr))
                          case atStart => exact ⟨row, by omega, HSR.out, HP1.out⟩
                          case round =>
                            obtain ⟨r, hr3, HSC, HP2⟩ := hrel
                            have hct := HSC.out.ge
                            have hql : (L.set m ⟨tc, xp, r, xq⟩)[m]? = some ⟨tc, xp, r, xq⟩ := by rw [List.getElem?_set_self hmL]
                            have HQL := Lib.hid hql
                            obtain ⟨d0, d1, d2, d3⟩ := HP2.out.cells hql
                            simp only at d0 d1 d2 d3
                            clear hql
                            have HFR := Lib.hid (HP2.out.free HM.out HG5.out.pos1 ⟨tc, xp, r, xq⟩ (HG5.out.ib1 (x := ⟨tc, xp, xr, xq⟩) HX.out ⟨by omega, by omega⟩ ⟨by omega, by omega⟩))
                            go_wp2_with fail
                            refine HFR.out.mono ?_
                            rintro e w5 ⟨fv, rfl, hfv, hb5⟩
                            have HP5 := Lib.hid (HP2.out.below hb5)
                            have HFV := Lib.hid hfv
                            clear hfv hb5 d0 d1 d2 d3
                            obtain ⟨d0, d1, d2, d3⟩ := HP5.out.cells HQL.out
                            have qf := HP5.out.own.frozenAt
                            simp only at d0 d1 d2 d3
                            cases fv
                            · have hno : ¬ FreeP L S ⟨tc, xp, r, xq⟩ := fun h => by have := HFV.out.2 h; cases this
                              obtain ⟨k2, hk2, hsm⟩ := HSC.out.miss hno
                              have HMM := Lib.hid hk2; have HSM := Lib.hid hsm
                              have hct2 := hsm.ge
                              clear hno hk2 hsm
                              have HP6 : Hid (PSt w B g cap (b + 1) b q (L.set m ⟨tc, xp, r + 1, xq⟩) S3 N T (w5.setCell ⟨g, m * 4 + 2, none⟩ (.int .i64 (r + 1)))) := by
                                have := HP5.out.setR HQL.out (r + 1)
                                rw [List.set_set] at this
                                exact this
                              go_wp2_with fail
                              go_roundg k2
                              case measure => exact HMM.out
                              case rel => exact ⟨r + 1, by omega, HSM.out, HP6.out⟩
                            · have htc := HSC.out.hit (HFV.out.1 rfl)
                              subst htc
                              go_wp2_with fail
                              go_meet
                              case rel => exact HP5.out
                      · skip
                        have HSR := Lib.hid hsr
                        clear hsr
                        have HP1 := Lib.hid ((HP.out.setR HX.out row).setC (x := ⟨xc, xp, row, xq⟩) (by rw [List.getElem?_set_self hmL]) col)
                        rw [List.set_set] at HP1
                        go_wp2_with fail
                        clear d0 d1 d2 d3 qs qf
                        go_loopg [] kk (fun gk wr => ∃ (r c : Int), 1 ≤ r ∧ 1 ≤ c ∧ c ≤ 900001 ∧ Hid (Srch2 (fun r c => FreeP L S ⟨c, xp, r, xq⟩) C3 xp r c tr tc gk) ∧ Hid (PSt w B g cap (b + 1) b q (L.set m ⟨c, xp, r, xq⟩) S3 N T wr))
                        case atStart => exact ⟨row, col, hr1, hc1, by omega, HSR.out, HP1.out⟩
                        case round =>
                          obtain ⟨r, c, hr3, hc3, hc4, HSC, HP2⟩ := hrel
                          have hct := HSC.out.bd
                          have hql : (L.set m ⟨c, xp, r, xq⟩)[m]? = some ⟨c, xp, r, xq⟩ := by rw [List.getElem?_set_self hmL]
                          have HQL := Lib.hid hql
                          obtain ⟨d0, d1, d2, d3⟩ := HP2.out.cells hql
                          have qf := HP2.out.own.frozenAt
                          simp only at d0 d1 d2 d3
                          clear hql
                          have v1 : IntKind.i64.wrap (c + xp) = c + xp := IntWalk.i64_in _ (by omega)
                          have v2 : IntKind.i64.wrap (c + xp - 1) = c + xp - 1 := IntWalk.i64_in _ (by omega)
                          by_cases hv : c + (xp : Int) - 1 ≤ C3
                          · by_cases ho : FreeP L S ⟨c, xp, r, xq⟩
                            · skip
                              obtain ⟨rfl, rfl⟩ := HSC.out.hit hv ho
                              have HFR : Hid (∀ wx, PSt w B g cap (b + 1) b q (L.set m ⟨tc, xp, tr, xq⟩) S3 N T wx → Calls Try.prog 83 #[.map (some b), agI tc xp tr xq] wx (fun e w' => e = .returned (.bool true) ∧ Below wx.heap.size wx w')) := fun wx hp => (hp.free HM.out HG5.out.pos1 ⟨tc, xp, tr, xq⟩ (HG5.out.ib1 (x := ⟨xc, xp, xr, xq⟩) HX.out ⟨by omega, by omega⟩ ⟨by omega, by omega⟩)).mono fun e w' ⟨v, h1, h2, h3⟩ => ⟨by rw [h1, h2.2 ho], h3⟩
                              have F9 : Hid (∀ w', PSt w B g cap (b + 1) b q (L.set m ⟨tc, xp, tr, xq⟩) S3 N T w' → (w'.cell? ⟨g, m * 4, none⟩ = some (.int .i64 tc) ∧ w'.cell? ⟨g, m * 4 + 1, none⟩ = some (.int .i64 xp) ∧ w'.cell? ⟨g, m * 4 + 2, none⟩ = some (.int .i64 tr) ∧ w'.cell? ⟨g, m * 4 + 3, none⟩ = some (.int .i64 xq))) := fun w' hp => hp.cells HQL.out
                              have hv2 : decide (C3 < tc + (xp : Int) - 1) = false := decide_eq_false (by omega)
                              clear ho d0 d1 d2 d3
                              go_wp2_with fail
                              go_region_held3 (fun w' => w'.cell? ⟨g, m * 4, none⟩ = some (.int .i64 tc) ∧ w'.cell? ⟨g, m * 4 + 1, none⟩ = some (.int .i64 xp) ∧ w'.cell? ⟨g, m * 4 + 2, none⟩ = some (.int .i64 tr) ∧ w'.cell? ⟨g, m * 4 + 3, none⟩ = some (.int .i64 xq))
                                (first | exact F9.out _ HP2.out | exact F9.out _ HP2.out.drew | exact F9.out _ HP5.out)
                                ((go_at_call 83; refine (HFR.out _ HP2.out.drew).mono ?_; rintro e w5 ⟨rfl, hb5⟩; have HP5 := Lib.hid (HP2.out.drew.below hb5); clear hb5))
                              go_wp2_with fail
                              go_meet
                              case rel => exact HP5.out
                            · skip
                              have hno : ¬ (c + (xp : Int) - 1 ≤ C3 ∧ FreeP L S ⟨c, xp, r, xq⟩) := fun h => ho h.2
                              have HFR : Hid (∀ wx, PSt w B g cap (b + 1) b q (L.set m ⟨c, xp, r, xq⟩) S3 N T wx → Calls Try.prog 83 #[.map (some b), agI c xp r xq] wx (fun e w' => e = .returned (.bool false) ∧ Below wx.heap.size wx w')) := fun wx hp => (hp.free HM.out HG5.out.pos1 ⟨c, xp, r, xq⟩ (HG5.out.ib1 (x := ⟨xc, xp, xr, xq⟩) HX.out ⟨by omega, by omega⟩ ⟨by omega, by omega⟩)).mono fun e w' ⟨v, h1, h2, h3⟩ => ⟨by rw [h1]; cases v; rfl; exact absurd (h2.1 rfl) ho, h3⟩
                              have F9 : Hid (∀ w', PSt w B g cap (b + 1) b q (L.set m ⟨c, xp, r, xq⟩) S3 N T w' → (w'.cell? ⟨g, m * 4, none⟩ = some (.int .i64 c) ∧ w'.cell? ⟨g, m * 4 + 1, none⟩ = some (.int .i64 xp) ∧ w'.cell? ⟨g, m * 4 + 2, none⟩ = some (.int .i64 r) ∧ w'.cell? ⟨g, m * 4 + 3, none⟩ = some (.int .i64 xq))) := fun w' hp => hp.cells HQL.out
                              have HNO := Lib.hid hno
                              have hv2 : decide (C3 < c + (xp : Int) - 1) = false := decide_eq_false (by omega)
                              clear ho hno d0 d1 d2 d3 qf
                              go_wp2_with fail
                              go_region_held3 (fun w' => w'.cell? ⟨g, m * 4, none⟩ = some (.int .i64 c) ∧ w'.cell? ⟨g, m * 4 + 1, none⟩ = some (.int .i64 xp) ∧ w'.cell? ⟨g, m * 4 + 2, none⟩ = some (.int .i64 r) ∧ w'.cell? ⟨g, m * 4 + 3, none⟩ = some (.int .i64 xq))
                                (first | exact F9.out _ HP2.out | exact F9.out _ HP2.out.drew | exact F9.out _ HP5.out)
                                ((go_at_call 83; refine (HFR.out _ HP2.out.drew).mono ?_; rintro e w5 ⟨rfl, hb5⟩; have HP5 := Lib.hid (HP2.out.drew.below hb5); clear hb5))
                              have hno := HNO.out
                              obtain ⟨d0, d1, d2, d3⟩ := HP5.out.cells HQL.out
                              have qf := HP5.out.own.frozenAt
                              simp only at d0 d1 d2 d3
                              rcases HSC.out.miss hno with ⟨hw, k2, hk2, hsm⟩ | ⟨hw, k2, hk2, hsm⟩
                              · have HMM := Lib.hid hk2; have HSM := Lib.hid hsm
                                have hct2 := hsm.bd
                                have HP6 : Hid (PSt w B g cap (b + 1) b q (L.set m ⟨c + 1, xp, r, xq⟩) S3 N T (w5.setCell ⟨g, m * 4, none⟩ (.int .i64 (c + 1)))) := by
                                  have := HP5.out.setC HQL.out (c + 1)
                                  rw [List.set_set] at this
                                  exact this
                                have HQ6 : Hid ((L.set m ⟨c + 1, xp, r, xq⟩)[m]? = some ⟨c + 1, xp, r, xq⟩) := by unfold Hid; rw [List.getElem?_set_self hmL]
                                obtain ⟨e0, e1, e2, e3⟩ := HP6.out.cells HQ6.out
                                simp only at e0 e1 e2 e3
                                have v3 : IntKind.i64.wrap (c + 1 + xp) = c + 1 + xp := IntWalk.i64_in _ (by omega)
                                have v4 : IntKind.i64.wrap (c + 1 + xp - 1) = c + 1 + xp - 1 := IntWalk.i64_in _ (by omega)
                                clear hno hk2 hsm e0 e1 e2 e3
                                go_wp2_with fail
                                obtain ⟨w6, hw6⟩ : ∃ w6, w6 = w5.setCell ⟨g, m * 4, none⟩ (.int .i64 (c + 1)) := ⟨_, rfl⟩
                                rw [← hw6]
                                rw [← hw6] at HP6
                                clear hw6 d0 d1 d2 d3 qf
                                obtain ⟨e0, e1, e2, e3⟩ := HP6.out.cells HQ6.out
                                have ef := HP6.out.own.frozenAt
                                simp only at e0 e1 e2 e3
                                go_quiet (fail)
                                go_wp2_with fail
                                go_roundg k2
                                case measure => exact HMM.out
                                case rel => exact ⟨r, c + 1, hr3, by omega, by omega, HSM.out, HP6.out.drewN _⟩
                              · have HMM := Lib.hid hk2; have HSM := Lib.hid hsm
                                have hct2 := hsm.bd
                                have HP6 : Hid (PSt w B g cap (b + 1) b q (L.set m ⟨c + 1, xp, r, xq⟩) S3 N T (w5.setCell ⟨g, m * 4, none⟩ (.int .i64 (c + 1)))) := by
                                  have := HP5.out.setC HQL.out (c + 1)
                                  rw [List.set_set] at this
                                  exact this
                                have HQ6 : Hid ((L.set m ⟨c + 1, xp, r, xq⟩)[m]? = some ⟨c + 1, xp, r, xq⟩) := by unfold Hid; rw [List.getElem?_set_self hmL]
                                obtain ⟨e0, e1, e2, e3⟩ := HP6.out.cells HQ6.out
                                simp only at e0 e1 e2 e3
                                have v3 : IntKind.i64.wrap (c + 1 + xp) = c + 1 + xp := IntWalk.i64_in _ (by omega)
                                have v4 : IntKind.i64.wrap (c + 1 + xp - 1) = c + 1 + xp - 1 := IntWalk.i64_in _ (by omega)
                                clear hno hk2 hsm e0 e1 e2 e3
                                go_wp2_with fail
                                obtain ⟨w6, hw6⟩ : ∃ w6, w6 = w5.setCell ⟨g, m * 4, none⟩ (.int .i64 (c + 1)) := ⟨_, rfl⟩
                                rw [← hw6]
                                rw [← hw6] at HP6
                                clear hw6 d0 d1 d2 d3 qf
                                obtain ⟨e0, e1, e2, e3⟩ := HP6.out.cells HQ6.out
                                have ef := HP6.out.own.frozenAt
                                simp only at e0 e1 e2 e3
                                go_quiet (fail)
                                go_wp2_with fail
                                go_roundg k2
                                case measure => exact HMM.out
                                case rel =>
                                  exact ⟨r + 1, 1, by omega, by omega, by omega, HSM.out, (HP6.out.drewN _).wrap hmL (r + 1) 1⟩
                          · skip
                            have hno : ¬ (c + (xp : Int) - 1 ≤ C3 ∧ FreeP L S ⟨c, xp, r, xq⟩) := fun h => hv h.1
                            have HNO := Lib.hid hno
                            have hv2 : decide (C3 < c + (xp : Int) - 1) = true := decide_eq_true (by omega)
                            clear hno
                            go_wp2_with fail
                            go_quiet (fail)
                            rename_i nq
                            obtain ⟨w5, hw5⟩ : ∃ w5, w5 = wr.drewN nq := ⟨_, rfl⟩
                            rw [← hw5]
                            have HP5 : Hid (PSt w B g cap (b + 1) b q (L.set m ⟨c, xp, r, xq⟩) S3 N T w5) := by rw [hw5]; exact HP2.out.drewN _
                            clear hw5 d0 d1 d2 d3 qf
                            have hno := HNO.out
                            obtain ⟨d0, d1, d2, d3⟩ := HP5.out.cells HQL.out
                            have qf := HP5.out.own.frozenAt
                            simp only at d0 d1 d2 d3
                            rcases HSC.out.miss hno with ⟨hw, k2, hk2, hsm⟩ | ⟨hw, k2, hk2, hsm⟩
                            · omega
                            · have HMM := Lib.hid hk2; have HSM := Lib.hid hsm
                              have hct2 := hsm.bd
                              have HP6 : Hid (PSt w B g cap (b + 1) b q (L.set m ⟨c + 1, xp, r, xq⟩) S3 N T (w5.setCell ⟨g, m * 4, none⟩ (.int .i64 (c + 1)))) := by
                                have := HP5.out.setC HQL.out (c + 1)
                                rw [List.set_set] at this
                                exact this
                              have HQ6 : Hid ((L.set m ⟨c + 1, xp, r, xq⟩)[m]? = some ⟨c + 1, xp, r, xq⟩) := by unfold Hid; rw [List.getElem?_set_self hmL]
                              obtain ⟨e0, e1, e2, e3⟩ := HP6.out.cells HQ6.out
                              simp only at e0 e1 e2 e3
                              have v3 : IntKind.i64.wrap (c + 1 + xp) = c + 1 + xp := IntWalk.i64_in _ (by omega)
                              have v4 : IntKind.i64.wrap (c + 1 + xp - 1) = c + 1 + xp - 1 := IntWalk.i64_in _ (by omega)
                              clear hno hk2 hsm e0 e1 e2 e3
                              go_wp2_with fail
                              obtain ⟨w6, hw6⟩ : ∃ w6, w6 = w5.setCell ⟨g, m * 4, none⟩ (.int .i64 (c + 1)) := ⟨_, rfl⟩
                              rw [← hw6]
                              rw [← hw6] at HP6
                              clear hw6 d0 d1 d2 d3 qf
                              obtain ⟨e0, e1, e2, e3⟩ := HP6.out.cells HQ6.out
                              have ef := HP6.out.own.frozenAt
                              simp only at e0 e1 e2 e3
                              go_quiet (fail)
                              go_wp2_with fail
                              go_roundg k2
                              case measure => exact HMM.out
                              case rel =>
                                exact ⟨r + 1, 1, by omega, by omega, by omega, HSM.out, (HP6.out.drewN _).wrap hmL (r + 1) 1⟩
                    case rest =>
                      have HPc := hcut
                      have hql : (L.set m ⟨tc, xp, tr, xq⟩)[m]? = some ⟨tc, xp, tr, xq⟩ := by rw [List.getElem?_set_self hmL]
                      have HQL := Lib.hid hql
                      clear d0 d1 d2 d3 qs qf hcut
                      obtain ⟨d0, d1, d2, d3⟩ := HPc.out.cells hql
                      simp only at d0 d1 d2 d3
                      clear hql
                      have HTK := Lib.hid (HPc.out.take (by omega) ⟨tc, xp, tr, xq⟩ (HG5.out.ib1 (x := ⟨xc, xp, xr, xq⟩) HX.out ⟨by omega, by omega⟩ ⟨by omega, by omega⟩))
                      go_wp2_with fail
                      refine HTK.out.mono ?_
                      rintro e w6 ⟨rfl, hp6⟩
                      have HP6 := Lib.hid hp6
                      clear hp6 d0 d1 d2 d3
                      obtain ⟨d0, d1, d2, d3⟩ := HP6.out.cells HQL.out
                      simp only at d0 d1 d2 d3
                      go_wp2_with fail
                      go_quiet (fail)
                      go_wp2_with fail
                      go_roundw
                      case rel => exact ⟨m + 1, L.set m ⟨tc, xp, tr, xq⟩, S.set m true, tr, tc, N + 400, _, by omega, by go_num, rfl, rfl, n1, by push_cast; omega, n3, by push_cast; omega, by omega, HP6.out.drewN _, HM.out.set_ (x := ⟨tc, xp, tr, xq⟩) HX.out HBF.out, fun a ha => by rw [List.getElem?_set_ne (by omega)]; exact HSS.out a (by omega), HNX.out, HGN.out, by simp [Hid, HLn4.out]⟩
                      case measure => simp [intOf]; omega
                · obtain rfl : m = q := by omega
                  have hik4 : ¬ (m : Int) < (m : Int) := by omega
                  obtain rfl : L4 = L := HRN4.out.fin (by rw [HLn4.out]; exact Nat.le_refl _)
                  clear hmq
                  go_wp2_with fail
                  go_loopw [20, 256] (fun ro i wr => ∃ (a : Nat), a ≤ m ∧ i = .int .i64 a ∧ ro = .int .i64 (rowsF (L4.take a)) ∧ Hid (PSt w B g cap (b + 1) b m L4 S3 N T wr)) (fun _ i _ => m - (intOf i).toNat)
                  case atStart => exact ⟨0, by omega, rfl, rfl, HP.out⟩
                  case round =>
                    obtain ⟨a, ha, rfl, rfl, HP5⟩ := hrel
                    by_cases ham : a < m
                    · have hik5 : (a : Int) < (m : Int) := by omega
                      obtain ⟨x, hx⟩ : ∃ x, L4[a]? = some x := ⟨_, List.getElem?_eq_getElem (by rw [HLn4.out]; exact ham)⟩
                      obtain ⟨d0, d1, d2, d3⟩ := HP5.out.cells hx
                      have hxb := HG5.out.each _ (List.mem_of_getElem? hx)
                      have HX := Lib.hid hx
                      clear hx
                      obtain ⟨xc, xp, xr, xq⟩ := x
                      simp only at d0 d1 d2 d3 hxb
                      have v1 : IntKind.i64.wrap (xr + xq) = xr + xq := IntWalk.i64_in _ (by omega)
                      have v2 : IntKind.i64.wrap (xr + xq - 1) = xr + xq - 1 := IntWalk.i64_in _ (by omega)
                      go_wp2_with fail
                      go_roundw
                      case rel => exact ⟨a + 1, by omega, by go_num, by rw [rowsF_take _ _ _ HX.out], HP5.out.alloc _⟩
                      case measure => simp [intOf]; omega
                    · obtain rfl : a = m := by omega
                      have hik5 : ¬ (a : Int) < (a : Int) := by omega
                      go_wp2_with fail
                      go_ret3
                      exact ⟨.slice (some ⟨g, 0, none⟩) a cap, by rw [List.take_of_length_le (by rw [HLn4.out]; exact Nat.le_refl _)]; rfl, RdS.of_own HP5.out.own, by rw [← HBE.out]; exact HP5.out.bel⟩
end Go.Proofs.Ytnjckpgacbibhaa
