/- InkBreaks: the reference's breaks, and the law's walk -/
import Derived.Test.YtnjckpgacbibhaaBreaks
import Derived.Test.YtnjckpgacbibhaaBr2
namespace Go.Proofs.Ytnjckpgacbibhaa
set_option linter.unusedVariables false
set_option linter.unusedSimpArgs false
open Go.RowKit Go.Cas

theorem own_below {w w' : World} {base : Nat} {e : TypeId} {size n : Nat} {v : Value} {xs : List Value} (h : w.ownsRow base e size v n xs) (hb : Below w.heap.size w w') : w'.ownsRow base e size v n xs := by
  refine h.kept (row := some w.heap.size) ⟨hb.os, hb.tape, hb.output, hb.size, fun k hk _ => hb.block k hk⟩ (.inr fun e => ?_)
  have := (h.lt _ e).2
  omega
theorem own_mono {w : World} {base b2 : Nat} {e : TypeId} {size n : Nat} {v : Value} {xs : List Value} (h : w.ownsRow base e size v n xs) (hb : b2 ≤ base) : w.ownsRow b2 e size v n xs := by
  refine ⟨h.1, ?_⟩
  rcases h.2 with h2 | ⟨g, cap, cur, h2, h3, h4⟩
  · exact .inl h2
  · exact .inr ⟨g, cap, cur, h2, by omega, h4⟩
theorem brks_nil (n : Nat) (a c : Int) : brks n a c [] = [] := rfl
theorem brks_first (l : List (Int × Nat)) (b : Int) (h : (rOf l)[0]? = some b) : brks 0 0 0 l = brks 1 b 0 (l.drop 1) := by
  cases l with
  | nil => simp [rOf] at h
  | cons x l => obtain ⟨b', p⟩ := x; simp [rOf] at h; simp [brks, h]
theorem brks_step (l : List (Int × Nat)) (n : Nat) (a c b p : Int) (h1 : (rOf l)[n]? = some b) (h2 : (aOf l)[n]? = some p) :
    brks n a c (l.drop n) = (if decide (0 < n) && mayB a b c (decide (1 < n)) then [p] else []) ++ brks (n + 1) b a (l.drop (n + 1)) := by
  have h : n < l.length := by simpa [rOf] using (List.getElem?_eq_some_iff.1 h1).1
  rw [List.drop_eq_getElem_cons h]
  simp [rOf, h] at h1
  simp [aOf, h] at h2
  simp [brks, h1, h2]

set_option maxHeartbeats 2000000 in
theorem c_rBreaks (s : ByteArray) (w : World) (hs : s.size ≤ 90000) : Calls Try.prog 31 #[.string s] w fun e w' => ∃ u, e = .returned u ∧ w'.ownsRow w.heap.size 3 1 u (brks 0 0 0 (runes s)).length (vInts (brks 0 0 0 (runes s))) ∧ Below w.heap.size w w' := by
  go_enter Try.func31, Try.ntmps31
  go_wp2_with (go_at_call 23; refine (c_Runes _ _ (by omega)).mono ?_; rintro e w' ⟨u, v, rfl, hu, hv, _, hb⟩)
  have hru := RdS.of_own hu
  have hrv := RdS.of_own hv
  clear hu hv
  have hle : (runes s).length ≤ s.size := runes_len s _ _
  have hlr : (rOf (runes s)).length = (runes s).length := by simp [rOf]
  have hla : (aOf (runes s)).length = (runes s).length := by simp [aOf]
  have hbd : ∀ k (h : k < (rOf (runes s)).length), 0 ≤ (rOf (runes s))[k] ∧ (rOf (runes s))[k] ≤ 1114111 := by
    intro k h
    simp only [rOf, List.getElem_map]
    exact runes_bd s _ _ _ (List.getElem_mem _)
  obtain ⟨T, hT⟩ : ∃ T, T = brks 0 0 0 (runes s) := ⟨_, rfl⟩
  have hfirst := brks_first (runes s)
  have hstep := brks_step (runes s)
  rw [← hT] at hfirst
  have hnil : (runes s).length = 0 → T = [] := by
    intro h
    rw [hT, List.length_eq_zero_iff.1 h, brks_nil]
  have hdrop : ∀ n, (runes s).length ≤ n → (runes s).drop n = [] := fun n h => List.drop_eq_nil_of_le h
  have HT := Lib.hid hT
  clear hT
  generalize hN : (runes s).length = N at *
  generalize hL : rOf (runes s) = L at *
  generalize hA : aOf (runes s) = A at *
  clear hN hL hA
  obtain ⟨_, Au, cu, rfl, hNu, hcu⟩ := hru
  obtain ⟨_, Av, cv, rfl, hNv, hcv⟩ := hrv
  obtain ⟨w1, rfl⟩ : ∃ w1, w1 = w' := ⟨_, rfl⟩
  have HB := Lib.hid hbd
  have HU := Lib.hid hcu
  have HV := Lib.hid hcv
  have HF := Lib.hid hfirst
  have HS := Lib.hid hstep
  have HZ := Lib.hid hnil
  have HD := Lib.hid hdrop
  have HLR := Lib.hid hlr
  have HLA := Lib.hid hla
  clear hbd hcu hcv hfirst hstep hnil hdrop hlr hla
  go_loopw [5, 6] (fun o i wr => ∃ (k : Nat) (a c : Int) (xs : List Int), i = .int .i64 k ∧ 1 ≤ k ∧ k ≤ N + 1 ∧ xs.length ≤ k ∧ wr.ownsRow w1.heap.size 3 1 o xs.length (vInts xs) ∧ Below w1.heap.size w1 wr ∧ Hid (k ≤ N → L[k - 1]? = some a) ∧ Hid (k ≤ N → 2 ≤ k → L[k - 2]? = some c) ∧ Hid (xs ++ brks k a c ((runes s).drop k) = T)) (fun _ i _ => N + 1 - (intOf i).toNat)
  case atStart =>
    by_cases h0 : 0 < N
    · have h1 : 0 < L.length := by rw [HLR.out]; exact h0
      refine ⟨1, L[0]'h1, 0, [], rfl, by omega, by omega, by simp, World.ownsRow_nil _ _ _ _, Below.refl _ _, by simp [Hid, h1], fun _ h => by omega, (HF.out _ (List.getElem?_eq_getElem h1)).symm⟩
    · refine ⟨1, 0, 0, [], rfl, by omega, by omega, by simp, World.ownsRow_nil _ _ _ _, Below.refl _ _, fun h => by omega, fun h => by omega, ?_⟩
      unfold Hid
      rw [HD.out 1 (by omega), HZ.out (by omega)]
      rfl
  case round =>
    obtain ⟨k, a, c, xs, rfl, hk1, hk, hxs, ho, hbw, H1, H2, H⟩ := hrel
    by_cases hlt : k < N
    · have hkL : k < L.length := by rw [HLR.out]; exact hlt
      have hkA : k < A.length := by rw [HLA.out]; exact hlt
      obtain ⟨g, og, rfl, hg, hc⟩ := HU.out (by omega)
      obtain ⟨g2, o2, rfl, hg2, hc2⟩ := HV.out (by omega)
      have e1 := H1.out (by omega)
      obtain ⟨q1, q2⟩ := List.getElem?_eq_some_iff.1 e1
      have ra := HB.out (k - 1) q1
      rw [q2] at ra
      have rb := HB.out k hkL
      have ha := (hbw.cell (p := ⟨g, og + (k - 1), none⟩) hg).trans (hc (k - 1) (.int .i64 a) (by simp [vInts, e1]))
      have hb2 := (hbw.cell (p := ⟨g, og + k, none⟩) hg).trans (hc k (.int .i64 (L[k]'hkL)) (vInts_get L k hkL))
      have hc3 : Hid (2 ≤ k → wr.cell? ⟨g, og + (k - 2), none⟩ = some (.int .i64 c)) := fun h => (hbw.cell (p := ⟨g, og + (k - 2), none⟩) hg).trans (hc (k - 2) (.int .i64 c) (by simp [vInts, H2.out (by omega) h]))
      have hat := (hbw.cell (p := ⟨g2, o2 + k, none⟩) hg2).trans (hc2 k (.int .i64 (A[k]'hkA)) (vInts_get A k hkA))
      have hst := Lib.hid (HS.out k a c _ _ (List.getElem?_eq_getElem hkL) (List.getElem?_eq_getElem hkA))
      have hn1 : Hid (L[k + 1 - 1]? = some (L[k]'hkL)) := by simp [Hid, hkL]
      have hn2 : Hid (L[k + 1 - 2]? = some a) := by rw [Hid, ← e1]; congr 1
      have hbz := hbw.size
      generalize L[k]'hkL = b at *
      generalize A[k]'hkA = p at *
      clear hc hc2 e1 q2
      have hi : (k : Int) < (N : Int) := by omega
      go_wp2_with fail
      refine (c_between g og N cu k a b c wr (by omega) hk1 hlt (by omega) ha hb2 hc3.out ra rb).mono ?_
      rintro e w2 ⟨rfl, hb3⟩
      have hat2 := (hb3.cell (p := ⟨g2, o2 + k, none⟩) (by show g2 < _; omega)).trans hat
      have ho2 := own_below ho hb3
      have hbw2 := hbw.trans (hb3.mono hbz)
      have hbz2 := hbw2.size
      clear ha hb2 hat
      go_wp2_with (at_builtin; refine wp_push rfl _ _ _ rfl w1.heap.size 3 Try.underlying28 inf_int rfl (by decide) w2 u5 xs.length (vInts xs) [.int .i64 p] rfl rfl rfl ho2 rfl (one1 _) (by omega) (by omega) hbz2 ?_; intro v1 w3 hp1)
      all_goals
        go_roundw
        case rel =>
          first
          | refine ⟨k + 1, b, a, xs ++ [p], by go_num, by omega, by omega, by simp; omega, by simpa [vInts] using hp1.own, hp1.below hbw2 (Nat.le_refl _) hbz2, fun _ => hn1.out, fun _ _ => hn2.out, ?_⟩
          | refine ⟨k + 1, b, a, xs, by go_num, by omega, by omega, by omega, ho2, hbw2, fun _ => hn1.out, fun _ _ => hn2.out, ?_⟩
          have h2 := H.out
          rw [hst.out] at h2
          unfold Hid
          have hk0 : 0 < k := hk1
          rename_i hm
          simp_all
        case measure => simp [intOf]; omega
    · have hi : ¬ (k : Int) < (N : Int) := by omega
      go_wp2_with fail
      go_ret
      have e : xs = T := by have := H.out; rw [HD.out k (by omega), brks_nil] at this; simpa using this
      subst e
      have hown := own_mono ho hb.size
      rw [HT.out] at hown
      exact ⟨u5, rfl, hown, hb.trans (hbw.mono hb.size)⟩

set_option maxHeartbeats 1000000 in
theorem c_sameInts (u v : Value) (xs ys : List Int) (l1 l2 n m : Nat) (w : World) (hu : RdS w l1 1 u n (vInts xs)) (hv : RdS w l2 1 v m (vInts ys)) (hn : n ≤ 100000) (hm : m ≤ 100000) : Calls Try.prog 29 #[u, v] w fun e w' => e = .returned (.bool (decide (xs = ys))) ∧ ∃ k, w' = w.drewN k := by
  obtain ⟨hl, A, c, rfl, hnc, hcell⟩ := hu
  obtain ⟨hl2, A2, c2, rfl, hnc2, hcell2⟩ := hv
  have hl' : xs.length = n := by simpa [vInts] using hl
  have hl2' : ys.length = m := by simpa [vInts] using hl2
  have HN := Lib.hid hl'
  have HM := Lib.hid hl2'
  have HC := Lib.hid hcell
  have HC2 := Lib.hid hcell2
  clear hcell hl hl' hcell2 hl2 hl2'
  go_enter Try.func29, Try.ntmps29
  by_cases hnm : n = m
  · subst hnm
    go_wp2_with fail
    go_loopw [5] (fun i wr => ∃ (k d : Nat), k ≤ n ∧ wr = w.drewN d ∧ i = .int .i64 k ∧ Hid (xs.take k = ys.take k)) (fun i _ => n - (intOf i).toNat)
    case atStart => exact ⟨0, 0, by omega, rfl, rfl, by simp [Hid]⟩
    case round =>
      obtain ⟨k, d, hk, rfl, rfl, H⟩ := hrel
      by_cases hlt : k < n
      · have hkL : k < xs.length := by rw [HN.out]; exact hlt
        have hkM : k < ys.length := by rw [HM.out]; exact hlt
        obtain ⟨g, o, rfl, hg, hc⟩ := HC.out (by omega)
        obtain ⟨g2, o2, rfl, hg2, hc2⟩ := HC2.out (by omega)
        have hcx := hc k (.int .i64 (xs[k]'hkL)) (vInts_get xs k hkL)
        have hcy := hc2 k (.int .i64 (ys[k]'hkM)) (vInts_get ys k hkM)
        have hst : Hid (xs.take (k + 1) = xs.take k ++ [xs[k]'hkL]) := List.take_succ_eq_append_getElem hkL
        have hst2 : Hid (ys.take (k + 1) = ys.take k ++ [ys[k]'hkM]) := List.take_succ_eq_append_getElem hkM
        have hne : Hid (xs[k]'hkL ≠ ys[k]'hkM → xs ≠ ys) := fun h e => h (by simp [e])
        clear hc hc2
        generalize xs[k]'hkL = x at *
        generalize ys[k]'hkM = y at *
        have hi : (k : Int) < (n : Int) := by omega
        go_wp2_with fail
        go_quiet (fail)
        go_wp2_with fail
        · go_ret
          refine ⟨ret_bool ?_, _, World.drewN_drewN ..⟩
          have := hne.out
          simp_all
        · go_roundw
          case rel =>
            refine ⟨k + 1, _, by omega, by first | rfl | exact World.drewN_drewN .., by go_num, ?_⟩
            have h1 := hst.out
            have h2 := hst2.out
            have h3 := H.out
            unfold Hid
            rw [h1, h2, h3]
            simp_all
          case measure => simp [intOf]; omega
      · have hi : ¬ (k : Int) < (n : Int) := by omega
        go_wp2_with fail
        go_ret
        refine ⟨ret_bool ?_, _, rfl⟩
        have h2 := H.out
        rw [List.take_of_length_le (by rw [HN.out]; omega), List.take_of_length_le (by rw [HM.out]; omega)] at h2
        simp [h2]
  · have hi : ¬ (n : Int) = (m : Int) := by omega
    go_wp2_with fail
    go_ret
    refine ⟨ret_bool ?_, 0, rfl⟩
    have : ¬ xs = ys := fun e => hnm (by rw [← HN.out, ← HM.out, e])
    simp [this]
theorem brks_ab : brks 0 0 0 (runes { data := #[97, 32, 98] }) = [2] := by decide +kernel

set_option maxHeartbeats 2000000 in
theorem W_inkBreaks (s : ByteArray) (w : World) (hs : s.size ≤ maxLen) : Calls Try.prog 7 #[.string s] w fun e w' => e = .returned (.bool true) ∧ Below w.heap.size w w' := by
  go_enter Try.func7, Try.ntmps7
  go_wp2_with fail
  refine (c_Breaks _ _ (by decide)).mono ?_; rintro e w1 ⟨u, rfl, hu, hb1⟩
  rw [brks_ab] at hu
  have hr := RdS.of_own hu
  clear hu
  have z1 := hb1.size
  go_wp2_with fail
  refine (c_sameInts _ _ [2] [2] _ _ 1 1 _ ((hr.below (Below.refl _ _)).below' (bl_alloc (Below.refl _ _) _) (Nat.le_refl _)) (RdS.lit w1 [.int .i64 2] 3 1 rfl) (by omega) (by omega)).mono ?_
  rintro e w2 ⟨rfl, d, rfl⟩
  have hb2 : Below w.heap.size w ((w1.alloc (.cells #[.int .i64 2] 3)).drewN d) := bl_drewN (bl_alloc hb1 _) _
  by_cases h : s.size ≤ 3000
  · go_wp2_with fail
    refine (c_Breaks _ _ (by omega)).mono ?_; rintro e w3 ⟨u3, rfl, hu3, hb3⟩
    have hr3 := RdS.of_own hu3
    clear hu3
    have e3 := hb2.trans (hb3.mono hb2.size)
    go_wp2_with fail
    refine (c_rBreaks _ _ (by omega)).mono ?_; rintro e w4 ⟨u4, rfl, hu4, hb4⟩
    have hr4 := RdS.of_own hu4
    clear hu4
    have e4 := e3.trans (hb4.mono e3.size)
    have hle : (runes s).length ≤ s.size := runes_len s _ _
    have hlb := brks_len 0 0 0 (runes s)
    go_wp2_with fail
    refine (c_sameInts _ _ _ _ _ _ _ _ _ (hr3.below hb4) hr4 (by omega) (by omega)).mono ?_
    rintro e w5 ⟨rfl, d5, rfl⟩
    go_wp2_with fail
    go_ret
    exact ⟨ret_bool (by simp), bl_drewN e4 _⟩
  · go_wp2_with fail
    go_ret
    exact ⟨rfl, hb2⟩
end Go.Proofs.Ytnjckpgacbibhaa
