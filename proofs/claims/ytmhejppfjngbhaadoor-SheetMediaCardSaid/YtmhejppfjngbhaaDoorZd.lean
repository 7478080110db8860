/- sheets: whether a media text applies: the program's -/
import Derived.Test.YtmhejppfjngbhaaDoorZc
namespace Go.Proofs.YtmhejppfjngbhaaDoor
set_option linter.unusedVariables false
set_option linter.unusedSimpArgs false
open Go.RowKit Go.Cas

theorem RT.of_own {w : World} {base : Nat} {v : Value} {l : List Tk} (h : w.ownsRow base tK 5 v l.length (rws tkc l)) : RT w w.heap.size v l := RdS.of_own h
theorem apW_nil (wd hg : Int) : apW [] wd hg = enP [] wd hg := by
  rw [apW_no (l := []) (by simp)]; rfl
set_option maxHeartbeats 16000000 in
set_option maxRecDepth 100000 in
theorem c_Applies (s : ByteArray) (wd hg : Int) (w : World) (hs : s.size ≤ 400000000) (hm : MxC w) : Calls Tryd.prog 4 #[.string s, .int .i64 wd, .int .i64 hg] w fun e w' => e = .returned (.bool (apT (toks s) wd hg)) ∧ Below w.heap.size w w' := by
  have HOK := Lib.hid (toks_ok hs)
  have HTK := Lib.hid (c_Tokens s w hm (by omega))
  have HM := Lib.hid hm
  have hz := hm.lt
  clear hm
  obtain ⟨L, hL⟩ : ∃ L, L = toks s := ⟨_, rfl⟩
  rw [← hL] at HOK HTK ⊢
  have HMEM := Lib.hid (fun x (h : x ∈ trimT L) => HOK.out x (trimT_mem h))
  have htl := trimT_len L
  have HRES : Hid (apT L wd hg = if trimT L = [] then true else apW (trimT L) wd hg) := rfl
  clear hL HOK
  go_enter Tryd.func4, Tryd.ntmps4
  go_upto_region 2 with (first
    | (go_at_call 7; refine (HTK.out).mono ?_; rintro e w1 ⟨v1, rfl, how, hlen, hb1⟩; have HOW1 := Lib.hid (RT.of_own how); have HB1 := Lib.hid hb1; have HLE := Lib.hid hlen; have hw1 := hb1.size; clear how hb1 hlen)
    | (go_at_call 6; refine (c_Trim L _ _ _ HOW1.out (by have := HLE.out; omega)).mono ?_; rintro e w2 ⟨v2, rfl, hr2, rfl⟩; have HR2 := Lib.hid hr2; clear hr2))
  have htl2 := HLE.out
  obtain ⟨lim, hlim⟩ : ∃ lim, lim = w1.heap.size := ⟨_, rfl⟩
  rw [← hlim] at HR2
  have HLIM := Lib.hid hlim
  have hlw : lim ≤ w1.heap.size := by omega
  have HBX : Hid (∀ x, Below w1.heap.size w1 x → Below w.heap.size w x) := fun x h => HB1.out.trans (h.mono hw1)
  clear hlim
  obtain ⟨T, hT⟩ : ∃ T, T = trimT L := ⟨_, rfl⟩
  rw [← hT] at HR2 HMEM htl HRES
  clear hT HOW1 HTK HLE
  by_cases hn : T = []
  · subst hn
    obtain ⟨A, c, rfl⟩ := HR2.out.nil
    have HR : Hid (apT L wd hg = true) := by unfold Hid; rw [HRES.out, if_pos rfl]
    go_wp2_with fail
    go_ret
    exact ⟨ret_bool HR.out.symm, HB1.out⟩
  · have HR : Hid (apT L wd hg = apW T wd hg) := by unfold Hid; rw [HRES.out, if_neg hn]
    have hTl : T.length ≠ 0 := fun e => hn (List.eq_nil_of_length_eq_zero e)
    obtain ⟨A, c, he⟩ : ∃ A c, v2 = .slice A T.length c := by
      obtain ⟨_, A, c, e, _⟩ := HR2.out
      exact ⟨A, c, e⟩
    subst he
    have hTlI : ¬ (T.length : Int) = 0 := by omega
    have hTlb : ((T.length : Int) == 0) = false := beq_eq_false_iff_ne.2 hTlI
    clear hn HRES
    go_wp2_with fail
    go_loopw [7, 8] (fun u7 u8 wr => ∃ (l : List Tk) (again : Bool), u8 = .bool again ∧ l.length ≤ 1000000000 ∧ Hid ((again = true → apW T wd hg = apW l wd hg) ∧ (again = false → apW T wd hg = false)) ∧ Hid (∀ x ∈ l, DimOk x ∧ x.t.size ≤ 1000000000) ∧ Hid (RT wr lim u7 l ∧ Below w1.heap.size w1 wr)) (fun u7 u8 _ => slN u7 * 2 + (match u8 with | .bool true => 1 | _ => 0))
    case atStart => exact ⟨T, true, rfl, by omega, ⟨fun _ => rfl, fun h => by cases h⟩, HMEM.out, HR2.out, Below.refl _ _⟩
    case round =>
      obtain ⟨l, again, rfl, hl, HE, HX, HWR⟩ := hrel
      obtain ⟨wo, rfl⟩ : ∃ wo, wo = wr := ⟨_, rfl⟩
      have hwz := HWR.out.2.size
      cases again with
      | false =>
        have HF : Hid (apT L wd hg = false) := by unfold Hid; rw [HR.out, HE.out.2 rfl]
        go_wp2_with fail
        go_ret
        exact ⟨ret_bool HF.out.symm, HBX.out _ HWR.out.2⟩
      | true =>
        have HG : Hid (apT L wd hg = apW l wd hg) := by unfold Hid; rw [HR.out, HE.out.1 rfl]
        obtain ⟨A, c, he⟩ : ∃ A c, u7 = .slice A l.length c := by
          obtain ⟨_, A, c, e, _⟩ := HWR.out.1
          exact ⟨A, c, e⟩
        subst he
        obtain ⟨n, hn⟩ : ∃ n, n = l.length := ⟨_, rfl⟩
        rw [← hn] at hl HWR ⊢
        have HN := Lib.hid hn
        have hcap : n ≤ c := by
          obtain ⟨_, A', c', e, hcc, _⟩ := HWR.out.1
          injection e with _ e1 e2
          omega
        clear hn
        go_wp2_with fail
        go_loopw [9] (fun u9 wr => ∃ (k : Nat), u9 = .int .i64 (k : Int) ∧ k ≤ n ∧ Hid (∀ i x, l[i]? = some x → i < k → isS x ⟨#[44]⟩ = false) ∧ Hid (Below wo.heap.size wo wr)) (fun u9 _ => n - (intOf u9).toNat)
        case atStart => exact ⟨0, rfl, by omega, fun i x _ hi => absurd hi (by omega), Below.refl _ _⟩
        case round =>
          obtain ⟨k, rfl, hk, HC, HWI⟩ := hrel
          have hwiz := HWI.out.size
          have HWB : Hid (Below w1.heap.size w1 wr) := HWR.out.2.trans (HWI.out.mono hwz)
          have HRI : Hid (∀ x, Below wr.heap.size wr x → RT x lim (.slice A n c) l) := fun x hx => (HWR.out.1.below HWI.out (Nat.le_trans hlw hwz)).below hx (Nat.le_trans hlw (Nat.le_trans hwz hwiz))
          have HEN : Hid (∀ (m : List Tk) (v : Value) (x : World), (∀ y ∈ m, y ∈ l) → m.length ≤ 1000000000 → RT x lim v m → Below wr.heap.size wr x → Calls Tryd.prog 9 #[v, .int .i64 wd, .int .i64 hg] x fun e w' => e = .returned (.bool (enP m wd hg)) ∧ Below x.heap.size x w') := fun m v x h1 h2 h3 h4 =>
            c_entry m v lim wd hg x h3 (Nat.le_trans hlw (Nat.le_trans hwz (Nat.le_trans hwiz h4.size))) h2 (HM.out.below (HBX.out _ (HWB.out.trans (h4.mono HWB.out.size))) hz) (fun y hy => HX.out y (h1 y hy))
          by_cases hkn : k < n
          · obtain ⟨t, ht⟩ : ∃ t, l[k]? = some t := ⟨l[k]'(by rw [← HN.out]; exact hkn), List.getElem?_eq_getElem _⟩
            obtain ⟨g, o, hA, hgl, hcell⟩ : ∃ g o, A = some ⟨g, o, none⟩ ∧ g < lim ∧ ∀ i x j, l[i]? = some x → j < 5 → wr.cell? ⟨g, o + (i * 5 + j), none⟩ = (tkc x)[j]? := by
              obtain ⟨h1, A', c', e, hcc, h4⟩ := HRI.out wr (Below.refl _ _)
              obtain ⟨g, o, e2, hg, hc⟩ := h4 (by rw [← HN.out]; omega)
              injection e with e0 e1 e3
              refine ⟨g, o, e0.trans e2, hg, fun i x j hi hj => ?_⟩
              have := rws_get tkc_len hi hj
              have hv : (tkc x)[j]? = some ((tkc x)[j]'hj) := List.getElem?_eq_getElem hj
              rw [hv] at this ⊢
              exact hc _ _ this
            subst hA
            have d0 : wr.cell? ⟨g, o + k * 5, none⟩ = some (.int .i64 (t.k : Int)) := hcell k t 0 ht (by decide)
            have d1 : wr.cell? ⟨g, o + k * 5 + 1, none⟩ = some (.string t.t) := by rw [Nat.add_assoc]; exact hcell k t 1 ht (by decide)
            have d2 : wr.cell? ⟨g, o + k * 5 + 2, none⟩ = some (.string t.u) := by rw [Nat.add_assoc]; exact hcell k t 2 ht (by decide)
            have d3 : wr.cell? ⟨g, o + k * 5 + 3, none⟩ = some (.int .i64 (t.a : Int)) := by rw [Nat.add_assoc]; exact hcell k t 3 ht (by decide)
            have d4 : wr.cell? ⟨g, o + k * 5 + 4, none⟩ = some (.int .i64 (t.b : Int)) := by rw [Nat.add_assoc]; exact hcell k t 4 ht (by decide)
            have hkI : (k : Int) < (n : Int) := by omega
            have hk0 : (0 : Int) ≤ (k : Int) := by omega
            have HIS := Lib.hid (c_Is t ⟨#[44]⟩ wr)
            have HCELL := Lib.hid hcell
            have HT := Lib.hid ht
            clear hcell ht
            cases hs : isS t ⟨#[44]⟩ with
            | false =>
              rw [hs] at HIS
              have HS := Lib.hid hs
              clear hs
              go_wp2_with (go_at_call 8; refine (HIS.out).mono ?_; rintro e w3 ⟨rfl, hb3⟩; have HB3 := Lib.hid hb3; clear hb3)
              go_roundw
              case rel => exact ⟨k + 1, by go_num, by omega, fun i x hi hik => by
                by_cases hq : i = k
                · subst hq
                  rw [HT.out] at hi
                  injection hi with hi
                  rw [← hi]; exact HS.out
                · exact HC.out i x hi (by omega), HWI.out.trans (HB3.out.mono hwiz)⟩
              case measure => simp [intOf]; omega
            | true =>
              rw [hs] at HIS
              have HAP : Hid (apW l wd hg = (enP (trimT (l.take k)) wd hg || apW (l.drop (k + 1)) wd hg)) := apW_at HT.out hs HC.out
              have HTT : Hid (RT wr lim (.slice (some ⟨g, o, none⟩) k c) (l.take k)) :=
                RT.sub (a := 0) (fun _ => by simp) hgl (by rw [List.length_take, ← HN.out]; omega) (by omega) HCELL.out (fun i x hi => by
                  have := (List.getElem?_eq_some_iff.1 hi).1
                  rw [List.length_take] at this
                  rw [List.getElem?_take_of_lt (by omega)] at hi
                  rw [Nat.zero_add]; exact hi)
              obtain ⟨A1, hA1⟩ : ∃ A1, (if c = k + 1 then some (⟨g, o, none⟩ : Addr) else some ⟨g, o + (k + 1) * 5, none⟩) = A1 := ⟨_, rfl⟩
              have HDD : Hid (RT wr lim (.slice A1 (n - (k + 1)) (c - (k + 1))) (l.drop (k + 1))) :=
                RT.sub (a := k + 1) (fun h0 => by rw [← hA1, if_neg (by omega)]) hgl (by rw [List.length_drop, HN.out]) (by omega) HCELL.out (fun i x hi => by rw [List.getElem?_drop] at hi; exact hi)
              have hlt : (trimT (l.take k)).length ≤ 1000000000 := by have := trimT_len (l.take k); rw [List.length_take] at this; omega
              have HTM : Hid (∀ y ∈ trimT (l.take k), y ∈ l) := fun y hy => List.mem_of_mem_take (trimT_mem hy)
              have HLT := Lib.hid (show (l.take k).length ≤ 1000000000 by rw [List.length_take]; omega)
              clear hs
              go_upto_region 9 with (go_at_call 8; refine (HIS.out).mono ?_; rintro e w3 ⟨rfl, hb3⟩; have HB3 := Lib.hid hb3; clear hb3)
              have hw3 := HB3.out.size
              have HTT3 : Hid (RT w3 lim (.slice (some ⟨g, o, none⟩) k c) (l.take k)) := HTT.out.below HB3.out (Nat.le_trans hlw (Nat.le_trans hwz hwiz))
              cases hres : enP (trimT (l.take k)) wd hg with
              | true =>
                have HF : Hid (apT L wd hg = true) := by unfold Hid; rw [HG.out, HAP.out, hres]; rfl
                have HRS := Lib.hid hres
                clear hres
                go_wp2_with (first
                  | (go_at_call 6; refine (c_Trim (l.take k) _ lim _ HTT3.out HLT.out).mono ?_; rintro e w4 ⟨v4, rfl, hr4, rfl⟩; have HR4 := Lib.hid hr4; clear hr4)
                  | (go_at_call 9; refine (HEN.out _ _ _ HTM.out hlt HR4.out HB3.out).mono ?_; rw [HRS.out]; rintro e w5 ⟨rfl, hb5⟩; have HB5 := Lib.hid (HB3.out.trans (hb5.mono hw3)); clear hb5))
                go_ret
                exact ⟨ret_bool HF.out.symm, HBX.out _ (HWB.out.trans (HB5.out.mono HWB.out.size))⟩
              | false =>
                have HF : Hid (apT L wd hg = apW (l.drop (k + 1)) wd hg) := by unfold Hid; rw [HG.out, HAP.out, hres]; rfl
                have HRS := Lib.hid hres
                clear hres
                go_wp2_with (first
                  | (go_at_call 6; refine (c_Trim (l.take k) _ lim _ HTT3.out HLT.out).mono ?_; rintro e w4 ⟨v4, rfl, hr4, rfl⟩; have HR4 := Lib.hid hr4; clear hr4)
                  | (go_at_call 9; refine (HEN.out _ _ _ HTM.out hlt HR4.out HB3.out).mono ?_; rw [HRS.out]; rintro e w5 ⟨rfl, hb5⟩; have HB5 := Lib.hid (HB3.out.trans (hb5.mono hw3)); clear hb5))
                go_roundw
                case rel => exact ⟨l.drop (k + 1), true, rfl, by rw [List.length_drop]; have := HN.out; omega, ⟨fun _ => HR.out.symm.trans HF.out, fun h => by cases h⟩, fun x hx => HX.out x (List.mem_of_mem_drop hx), HDD.out.below HB5.out (Nat.le_trans hlw (Nat.le_trans hwz hwiz)), HWB.out.trans (HB5.out.mono HWB.out.size)⟩
                case measure => simp [slN]; omega
          · have hkI : ¬ (k : Int) < (n : Int) := by omega
            have hke : k = n := by omega
            subst hke
            have HAP : Hid (apW l wd hg = enP (trimT l) wd hg) := apW_no (fun x hx => by
              obtain ⟨i, hi⟩ := List.mem_iff_getElem?.1 hx
              exact HC.out i x hi (by rw [HN.out]; exact (List.getElem?_eq_some_iff.1 hi).1))
            have hlt : (trimT l).length ≤ 1000000000 := by have := trimT_len l; rw [← HN.out] at this; omega
            have HTM : Hid (∀ y ∈ trimT l, y ∈ l) := fun y hy => trimT_mem hy
            have HLT := Lib.hid (show l.length ≤ 1000000000 by rw [← HN.out]; exact hl)
            have HR3 : Hid (RT wr lim (.slice A k c) l) := HRI.out _ (Below.refl _ _)
            have HBR := Lib.hid (Below.refl wr.heap.size wr)
            cases hres : enP (trimT l) wd hg with
            | true =>
              have HF : Hid (apT L wd hg = true) := by unfold Hid; rw [HG.out, HAP.out, hres]
              have HRS := Lib.hid hres
              clear hres
              go_wp2_with (first
                | (go_at_call 6; refine (c_Trim l _ lim _ HR3.out HLT.out).mono ?_; rintro e w4 ⟨v4, rfl, hr4, rfl⟩; have HR4 := Lib.hid hr4; clear hr4)
                | (go_at_call 9; refine (HEN.out _ _ _ HTM.out hlt HR4.out HBR.out).mono ?_; rw [HRS.out]; rintro e w5 ⟨rfl, hb5⟩; have HB5 := Lib.hid hb5; clear hb5))
              go_ret
              exact ⟨ret_bool HF.out.symm, HBX.out _ (HWB.out.trans (HB5.out.mono HWB.out.size))⟩
            | false =>
              have HF : Hid (apW T wd hg = false) := by unfold Hid; rw [← HR.out, HG.out, HAP.out, hres]
              have HRS := Lib.hid hres
              clear hres
              go_wp2_with (first
                | (go_at_call 6; refine (c_Trim l _ lim _ HR3.out HLT.out).mono ?_; rintro e w4 ⟨v4, rfl, hr4, rfl⟩; have HR4 := Lib.hid hr4; clear hr4)
                | (go_at_call 9; refine (HEN.out _ _ _ HTM.out hlt HR4.out HBR.out).mono ?_; rw [HRS.out]; rintro e w5 ⟨rfl, hb5⟩; have HB5 := Lib.hid hb5; clear hb5))
              go_roundw
              case rel => exact ⟨l, false, rfl, by rw [← HN.out]; exact hl, ⟨fun h => (by cases h), fun _ => HF.out⟩, HX.out, HR3.out.below HB5.out (Nat.le_trans hlw (Nat.le_trans hwz hwiz)), HWB.out.trans (HB5.out.mono HWB.out.size)⟩
              case measure => simp [slN]
end Go.Proofs.YtmhejppfjngbhaaDoor
