/- sheets: the token at a place: the document's -/
import Derived.Test.YtmhejppfjngbhaaDoorYm
namespace Go.Proofs.YtmhejppfjngbhaaDoor
set_option linter.unusedVariables false
set_option linter.unusedSimpArgs false
open Go.RowKit Go.Cas

theorem fin_ro {r : Nat} {w w1 : World} {t t5 : Tk} {a0 a1 a2 a3 a4 : Value} (HBK : Hid (Bk w1 r 47 #[a0, a1, a2, a3, a4])) (HBB : Hid (Below w.heap.size w w1)) (HR : Hid (r = w.heap.size)) (HF : Hid (t = t5)) {fn : Func} {a : Act} {v0 v1 v2 v3 v4 : Value}
    (hr : fn.results = #[.cell 4 47]) (ht : a.tmps[4]?.getD undef = .pointer (some ⟨r, 0, none⟩)) (hd : a.defers = []) (h0 : v0 = .string (kdS t5.k)) (h1 : v1 = .string t5.t) (h2 : v2 = .string t5.u) (h3 : v3 = .int .i64 (t5.a : Int)) (h4 : v4 = .int .i64 (t5.b : Int)) :
    bodyPost Tryd.prog fn (fun e w' => e = .returned (rkv t) ∧ Below w.heap.size w w') .ret a (((((w1.setCell ⟨r, 0, none⟩ v0).setCell ⟨r, 1, none⟩ v1).setCell ⟨r, 2, none⟩ v2).setCell ⟨r, 3, none⟩ v3).setCell ⟨r, 4, none⟩ v4) := by
  refine bodyPost_ret (res_rk hr ht (bk_set5 HBK.out _ _ _ _ _)) hd ?_
  rw [HF.out]
  subst h0 h1 h2 h3 h4
  exact ⟨rfl, bl_set5 HBB.out (by rw [HR.out]; exact Nat.le_refl _) _ _ _ _ _⟩
set_option maxHeartbeats 16000000 in
set_option maxRecDepth 100000 in
theorem c_rOne (s : ByteArray) (i : Nat) (w : World) (hi : i < s.size) (hs : s.size ≤ 1000000000) : Calls Tryd.prog 23 #[.string s, .int .i64 (i : Int)] w fun e w' => e = .returned (rkv (tokA s i)) ∧ Below w.heap.size w w' := by
  obtain ⟨r, hr⟩ : ∃ r, r = w.heap.size := ⟨_, rfl⟩
  obtain ⟨wa, hwa⟩ : ∃ wa, wa = w.alloc (.cells #[.string ⟨#[]⟩, .string ⟨#[]⟩, .string ⟨#[]⟩, .int .i64 0, .int .i64 0] 47) := ⟨_, rfl⟩
  have hbl : Below w.heap.size w wa := by rw [hwa]; exact bl_alloc (Below.refl _ _) _
  have hb7 : Bk wa r 47 #[.string ⟨#[]⟩, .string ⟨#[]⟩, .string ⟨#[]⟩, .int .i64 0, .int .i64 0] := by
    rw [hwa, hr]; show (w.heap.push _)[w.heap.size]? = _; simp
  have HBK := Lib.hid hb7
  have HBL := Lib.hid hbl
  have HWA := Lib.hid hwa
  have HR := Lib.hid hr
  have c0 := hb7.cell 0
  have c1 := hb7.cell 1
  have c2 := hb7.cell 2
  have c3 := hb7.cell 3
  have c4 := hb7.cell 4
  have f0 := hb7.free 0
  have f1 := hb7.free 1
  have f2 := hb7.free 2
  have f3 := hb7.free 3
  have f4 := hb7.free 4
  have hl7 := hb7.lt
  obtain ⟨t, ht⟩ : ∃ t, t = tokA s i := ⟨_, rfl⟩
  obtain ⟨n, hn⟩ : ∃ n, n = nuE s i := ⟨_, rfl⟩
  obtain ⟨m, hm⟩ : ∃ m, m = nmE s i := ⟨_, rfl⟩
  obtain ⟨u, hu⟩ : ∃ u, u = nmE s n := ⟨_, rfl⟩
  obtain ⟨g, hg⟩ : ∃ g, g = nmE s (i + 1) := ⟨_, rfl⟩
  have hn1 : i ≤ n ∧ n ≤ s.size := by rw [hn]; exact nuE_le s i (by omega)
  have hm1 : i ≤ m ∧ m ≤ s.size := by rw [hm]; exact nmE_le s i (by omega)
  have hu1 : n ≤ u ∧ u ≤ s.size := by rw [hu]; exact nmE_le s n hn1.2
  have hg1 : i + 1 ≤ g ∧ g ≤ s.size := by rw [hg]; exact nmE_le s (i + 1) (by omega)
  have HB := Lib.hid (c_rBlank s[i] wa)
  have HNU := Lib.hid (c_rNumber s i wa (by omega) (by omega))
  have HNM := Lib.hid (c_rName s i wa (by omega) (by omega))
  have HNN := Lib.hid (c_rName s n wa (by omega) (by omega))
  have HNG := Lib.hid (c_rName s (i + 1) wa (by omega) (by omega))
  have HAN := Lib.hid (c_at s n wa (by omega))
  have HAM := Lib.hid (c_at s m wa (by omega))
  rw [show ((i + 1 : Nat) : Int) = (i : Int) + 1 by omega] at HNG
  rw [← hn] at HNU
  rw [← hm] at HNM
  rw [← hu] at HNN
  rw [← hg] at HNG
  have hT : tokA s i = (if blC s[i] = true then ⟨0, ⟨#[32]⟩, ByteArray.empty, i, runE blC s i⟩
  else if s[i] = 34 ∨ s[i] = 39 then strT s i
  else if i < n then
    (if n < u then ⟨5, s.extract i n ++ small (s.extract n u), small (s.extract n u), i, u⟩
     else if bt s n = 37 then ⟨4, s.extract i (n + 1), ByteArray.empty, i, n + 1⟩
     else ⟨3, s.extract i n, ByteArray.empty, i, n⟩)
  else if i < m then
    (if bt s m = 40 then ⟨7, s.extract i (m + 1), ByteArray.empty, i, m + 1⟩ else ⟨6, s.extract i m, ByteArray.empty, i, m⟩)
  else if s[i] = 35 ∧ mrC (bt s (i + 1)) = true then ⟨8, s.extract i (runE mrC s (i + 1)), ByteArray.empty, i, runE mrC s (i + 1)⟩
  else if s[i] = 64 ∧ i + 1 < g then ⟨9, s.extract i g, ByteArray.empty, i, g⟩
  else ⟨10, s.extract i (i + 1), ByteArray.empty, i, i + 1⟩) := by
    rw [hu, hn, hm, hg]; unfold tokA; rw [bt_eq hi]
  rw [← ht] at hT ⊢
  clear hu hn hm hg ht hwa hbl hr hb7
  obtain ⟨hn1, hn2⟩ := hn1
  obtain ⟨hm1, hm2⟩ := hm1
  obtain ⟨hu1, hu2⟩ := hu1
  obtain ⟨hg1, hg2⟩ := hg1
  obtain ⟨d, hd⟩ : ∃ d, d = n - i := ⟨_, rfl⟩
  obtain ⟨dm, hdm⟩ : ∃ d, d = m - i := ⟨_, rfl⟩
  obtain ⟨du, hdu⟩ : ∃ d, d = u - n := ⟨_, rfl⟩
  obtain ⟨dg, hdg⟩ : ∃ d, d = g - (i + 1) := ⟨_, rfl⟩
  rw [← hd] at HNU
  rw [← hdm] at HNM
  rw [← hdu] at HNN
  rw [← hdg] at HNG
  have idI : (i : Int) + (d : Int) = (n : Int) := by omega
  have idmI : (i : Int) + (dm : Int) = (m : Int) := by omega
  have nduI : (n : Int) + (du : Int) = (u : Int) := by omega
  have idgI : (i : Int) + 1 + (dg : Int) = (g : Int) := by omega
  clear hd hdm hdu hdg
  have hiI : (i : Int) < (s.size : Int) := by omega
  have h0I : 0 ≤ (i : Int) := by omega
  have hsI : (s.size : Int) ≤ 1000000000 := by omega
  by_cases hb : blC s[i] = true
  · rw [if_pos hb] at hT
    have HF := Lib.hid hT
    rw [hb] at HB
    have q34 : ¬ (s[i].toNat : Int) = 34 := u8ne (b := 34) (fun e => by rw [e] at hb; exact absurd hb (by decide))
    have q39 : ¬ (s[i].toNat : Int) = 39 := u8ne (b := 39) (fun e => by rw [e] at hb; exact absurd hb (by decide))
    have b34 : ((s[i].toNat : Int) == 34) = false := beq_eq_false_iff_ne.2 q34
    have b39 : ((s[i].toNat : Int) == 39) = false := beq_eq_false_iff_ne.2 q39
    clear hT hb
    go_enter Tryd.func23, Tryd.ntmps23
    go_upto_region 1 with fail
    rw [← HWA.out, ← HR.out]
    go_wp2_with (go_at_call 39; (with_reducible refine (HB.out).mono ?_); rintro e w' ⟨rfl, rfl⟩)
    go_loopw [7] (fun v wr => ∃ (k : Nat), i ≤ k ∧ k ≤ s.size ∧ v = .int .i64 (k : Int) ∧ Hid (∀ q, i ≤ q → q < k → blC (bt s q) = true) ∧ wa = wr) (fun v _ => s.size - (intOf v).toNat)
    case atStart => exact ⟨i, by omega, by omega, rfl, fun q h1 h2 => by omega, rfl⟩
    case round =>
      obtain ⟨k, hik, hk, rfl, HA, rfl⟩ := hrel
      by_cases hlt : k < s.size
      · have hki : (k : Int) < (s.size : Int) := by omega
        have hk0 : 0 ≤ (k : Int) := by omega
        have HD := Lib.hid (c_rBlank s[k] wa)
        by_cases hd : blC s[k] = true
        · rw [hd] at HD
          go_wp2_with (go_at_call 39; (with_reducible refine (HD.out).mono ?_); rintro e w' ⟨rfl, rfl⟩)
          go_roundw
          case rel => exact ⟨k + 1, by omega, by omega, by go_num, fun q h1 h2 => by
            by_cases e : q = k
            · subst e; rw [bt_eq hlt]; exact hd
            · exact HA.out q h1 (by omega), by first | rfl | trivial⟩
          case measure => simp [intOf]; omega
        · have HE : Hid (t = ⟨0, ⟨#[32]⟩, ByteArray.empty, i, k⟩) := by
            unfold Hid; rw [HF.out, runE_eq hik hk HA.out (fun _ => by rw [bt_eq hlt]; simpa using hd)]
          rw [Bool.not_eq_true _ |>.mp hd] at HD
          go_wp2_with (go_at_call 39; (with_reducible refine (HD.out).mono ?_); rintro e w' ⟨rfl, rfl⟩)
          exact fin_ro HBK HBL HR HE rfl rfl rfl rfl rfl rfl rfl rfl
      · obtain rfl : k = s.size := by omega
        have hki : ¬ (s.size : Int) < (s.size : Int) := by omega
        have HE : Hid (t = ⟨0, ⟨#[32]⟩, ByteArray.empty, i, s.size⟩) := by
          unfold Hid; rw [HF.out, runE_eq hik hk HA.out (fun e => by omega)]
        go_wp2_with fail
        exact fin_ro HBK HBL HR HE rfl rfl rfl rfl rfl rfl rfl rfl
  · rw [if_neg hb] at hT
    rw [Bool.not_eq_true] at hb
    rw [hb] at HB
    clear hb
    by_cases hq : s[i] = 34 ∨ s[i] = 39
    · rw [if_pos hq] at hT
      have HF := Lib.hid hT
      have HS : Hid (Calls Tryd.prog 38 #[.string s, .int .i64 (i : Int)] wa fun e w' => e = .returned (.agg #[.string (kdS (strT s i).k), .string (strT s i).t, .string (strT s i).u, .int .i64 ((strT s i).a : Int), .int .i64 ((strT s i).b : Int)]) ∧ Below wa.heap.size wa w') := c_rString s i wa hi hs
      clear hT c0 c1 c2 c3 c4 f0 f1 f2 f3 f4 hl7
      generalize strT s i = t5 at HS HF
      rcases hq with hq | hq
      · have hq2 : (s[i].toNat : Int) = 34 := by rw [hq]; rfl
        clear hq
        go_enter Tryd.func23, Tryd.ntmps23
        go_upto_region 1 with fail
        rw [← HWA.out, ← HR.out]
        go_wp2_with (go_at_call 38; (with_reducible refine (HS.out).mono ?_); rintro e w6 ⟨rfl, hb6⟩; have hb7 := Bk.below HBK.out hb6 HBK.out.lt; have c0 := hb7.cell 0; have c1 := hb7.cell 1; have c2 := hb7.cell 2; have c3 := hb7.cell 3; have c4 := hb7.cell 4; have f0 := hb7.free 0; have f1 := hb7.free 1; have f2 := hb7.free 2; have f3 := hb7.free 3; have f4 := hb7.free 4; have hl7 := hb7.lt; have HB7 := Lib.hid (HBL.out.trans (hb6.mono HBL.out.size)); have HB8 := Lib.hid hb7; clear hb6 hb7)
        exact fin_ro HB8 HB7 HR HF rfl rfl rfl rfl rfl rfl rfl rfl
      · have hq2 : (s[i].toNat : Int) = 39 := by rw [hq]; rfl
        clear hq
        go_enter Tryd.func23, Tryd.ntmps23
        go_upto_region 1 with fail
        rw [← HWA.out, ← HR.out]
        go_wp2_with (go_at_call 38; (with_reducible refine (HS.out).mono ?_); rintro e w6 ⟨rfl, hb6⟩; have hb7 := Bk.below HBK.out hb6 HBK.out.lt; have c0 := hb7.cell 0; have c1 := hb7.cell 1; have c2 := hb7.cell 2; have c3 := hb7.cell 3; have c4 := hb7.cell 4; have f0 := hb7.free 0; have f1 := hb7.free 1; have f2 := hb7.free 2; have f3 := hb7.free 3; have f4 := hb7.free 4; have hl7 := hb7.lt; have HB7 := Lib.hid (HBL.out.trans (hb6.mono HBL.out.size)); have HB8 := Lib.hid hb7; clear hb6 hb7)
        exact fin_ro HB8 HB7 HR HF rfl rfl rfl rfl rfl rfl rfl rfl
    · rw [if_neg hq] at hT
      have q34 : ¬ (s[i].toNat : Int) = 34 := u8ne (b := 34) (fun e => hq (.inl e))
      have q39 : ¬ (s[i].toNat : Int) = 39 := u8ne (b := 39) (fun e => hq (.inr e))
      have b34 : ((s[i].toNat : Int) == 34) = false := beq_eq_false_iff_ne.2 q34
      have b39 : ((s[i].toNat : Int) == 39) = false := beq_eq_false_iff_ne.2 q39
      clear hq
      by_cases hn : i < n
      · rw [if_pos hn] at hT
        have hnI : 0 < (d : Int) := by omega
        have hn0 : 0 ≤ (n : Int) := by omega
        have hinI : (i : Int) ≤ (n : Int) := by omega
        have hnsI : (n : Int) ≤ (s.size : Int) := by omega
        by_cases hu : n < u
        · rw [if_pos hu] at hT
          have HF := Lib.hid hT
          have huI : 0 < (du : Int) := by omega
          have hnuI : (n : Int) ≤ (u : Int) := by omega
          have husI : (u : Int) ≤ (s.size : Int) := by omega
          have HS := Lib.hid (c_rSmall (s.extract n u) wa (by rw [ByteArray.size_extract]; omega))
          have hzz : (s.extract i n).size + (small (s.extract n u)).size ≤ 2000000000 := by
            rw [small_size, ByteArray.size_extract, ByteArray.size_extract]; omega
          clear hT c0 c1 c2 c3 c4 f0 f1 f2 f3 f4 hl7
          generalize small (s.extract n u) = su at *
          go_enter Tryd.func23, Tryd.ntmps23
          go_upto_region 1 with fail
          rw [← HWA.out, ← HR.out]
          go_wp2_with (first
            | (go_at_call 39; (with_reducible refine (HB.out).mono ?_); rintro e w' ⟨rfl, rfl⟩)
            | (go_at_call 40; (with_reducible refine (HNU.out).mono ?_); rintro e w' ⟨rfl, rfl⟩)
            | (go_at_call 21; first | ((with_reducible refine (HAN.out).mono ?_); rintro e w' ⟨rfl, rfl⟩) | ((with_reducible refine (HAM.out).mono ?_); rintro e w' ⟨rfl, rfl⟩))
            | (go_at_call 41; first | ((with_reducible refine (HNM.out).mono ?_); rintro e w' ⟨rfl, rfl⟩) | ((with_reducible refine (HNN.out).mono ?_); rintro e w' ⟨rfl, rfl⟩) | ((with_reducible refine (HNG.out).mono ?_); rintro e w' ⟨rfl, rfl⟩))
            | (go_at_call 25; (with_reducible refine (HS.out).mono ?_); rintro e w6 ⟨rfl, hb6⟩; have hb7 := Bk.below HBK.out hb6 HBK.out.lt; have c0 := hb7.cell 0; have c1 := hb7.cell 1; have c2 := hb7.cell 2; have c3 := hb7.cell 3; have c4 := hb7.cell 4; have f0 := hb7.free 0; have f1 := hb7.free 1; have f2 := hb7.free 2; have f3 := hb7.free 3; have f4 := hb7.free 4; have hl7 := hb7.lt; have HB7 := Lib.hid (HBL.out.trans (hb6.mono HBL.out.size)); have HB8 := Lib.hid hb7; clear hb6 hb7))
          exact fin_ro HB8 HB7 HR HF rfl rfl rfl rfl rfl rfl rfl rfl
        · rw [if_neg hu] at hT
          have huI : (du : Int) = 0 := by omega
          have hu0 : du = 0 := by omega
          by_cases h37 : bt s n = 37
          · rw [if_pos h37] at hT
            have HF := Lib.hid hT
            have hns := z0 (s := s) (j := n) (by rw [h37]; decide)
            have hnlt : (n : Int) < (s.size : Int) := by omega
            have hn1I : (n : Int) + 1 ≤ (s.size : Int) := by omega
            have hin1 : (i : Int) ≤ (n : Int) + 1 := by omega
            rw [h37] at HAN
            clear hT h37
            go_enter Tryd.func23, Tryd.ntmps23
            go_upto_region 1 with fail
            rw [← HWA.out, ← HR.out]
            go_wp2_with (first
              | (go_at_call 39; (with_reducible refine (HB.out).mono ?_); rintro e w' ⟨rfl, rfl⟩)
              | (go_at_call 40; (with_reducible refine (HNU.out).mono ?_); rintro e w' ⟨rfl, rfl⟩)
              | (go_at_call 21; first | ((with_reducible refine (HAN.out).mono ?_); rintro e w' ⟨rfl, rfl⟩) | ((with_reducible refine (HAM.out).mono ?_); rintro e w' ⟨rfl, rfl⟩))
              | (go_at_call 41; first | ((with_reducible refine (HNM.out).mono ?_); rintro e w' ⟨rfl, rfl⟩) | ((with_reducible refine (HNN.out).mono ?_); rintro e w' ⟨rfl, rfl⟩) | ((with_reducible refine (HNG.out).mono ?_); rintro e w' ⟨rfl, rfl⟩)))
            exact fin_ro HBK HBL HR HF rfl rfl rfl rfl rfl rfl rfl rfl
          · rw [if_neg h37] at hT
            have HF := Lib.hid hT
            have h37I := u8ne (b := 37) h37
            have h37b : (((bt s n).toNat : Int) == 37) = false := beq_eq_false_iff_ne.2 h37I
            clear hT h37
            go_enter Tryd.func23, Tryd.ntmps23
            go_upto_region 1 with fail
            rw [← HWA.out, ← HR.out]
            go_wp2_with (first
              | (go_at_call 39; (with_reducible refine (HB.out).mono ?_); rintro e w' ⟨rfl, rfl⟩)
              | (go_at_call 40; (with_reducible refine (HNU.out).mono ?_); rintro e w' ⟨rfl, rfl⟩)
              | (go_at_call 21; first | ((with_reducible refine (HAN.out).mono ?_); rintro e w' ⟨rfl, rfl⟩) | ((with_reducible refine (HAM.out).mono ?_); rintro e w' ⟨rfl, rfl⟩))
              | (go_at_call 41; first | ((with_reducible refine (HNM.out).mono ?_); rintro e w' ⟨rfl, rfl⟩) | ((with_reducible refine (HNN.out).mono ?_); rintro e w' ⟨rfl, rfl⟩) | ((with_reducible refine (HNG.out).mono ?_); rintro e w' ⟨rfl, rfl⟩)))
            exact fin_ro HBK HBL HR HF rfl rfl rfl rfl rfl rfl rfl rfl
      · rw [if_neg hn] at hT
        have hnI : (d : Int) = 0 := by omega
        have hnd : d = 0 := by omega
        by_cases hm : i < m
        · rw [if_pos hm] at hT
          have hmI : 0 < (dm : Int) := by omega
          have hm0 : 0 ≤ (m : Int) := by omega
          have himI : (i : Int) ≤ (m : Int) := by omega
          have hmsI : (m : Int) ≤ (s.size : Int) := by omega
          by_cases h40 : bt s m = 40
          · rw [if_pos h40] at hT
            have HF := Lib.hid hT
            have hms := z0 (s := s) (j := m) (by rw [h40]; decide)
            have hmlt : (m : Int) < (s.size : Int) := by omega
            have hm1I : (m : Int) + 1 ≤ (s.size : Int) := by omega
            have him1 : (i : Int) ≤ (m : Int) + 1 := by omega
            rw [h40] at HAM
            clear hT h40
            go_enter Tryd.func23, Tryd.ntmps23
            go_upto_region 1 with fail
            rw [← HWA.out, ← HR.out]
            go_wp2_with (first
              | (go_at_call 39; (with_reducible refine (HB.out).mono ?_); rintro e w' ⟨rfl, rfl⟩)
              | (go_at_call 40; (with_reducible refine (HNU.out).mono ?_); rintro e w' ⟨rfl, rfl⟩)
              | (go_at_call 21; first | ((with_reducible refine (HAN.out).mono ?_); rintro e w' ⟨rfl, rfl⟩) | ((with_reducible refine (HAM.out).mono ?_); rintro e w' ⟨rfl, rfl⟩))
              | (go_at_call 41; first | ((with_reducible refine (HNM.out).mono ?_); rintro e w' ⟨rfl, rfl⟩) | ((with_reducible refine (HNN.out).mono ?_); rintro e w' ⟨rfl, rfl⟩) | ((with_reducible refine (HNG.out).mono ?_); rintro e w' ⟨rfl, rfl⟩)))
            exact fin_ro HBK HBL HR HF rfl rfl rfl rfl rfl rfl rfl rfl
          · rw [if_neg h40] at hT
            have HF := Lib.hid hT
            have h40I := u8ne (b := 40) h40
            have h40b : (((bt s m).toNat : Int) == 40) = false := beq_eq_false_iff_ne.2 h40I
            clear hT h40
            go_enter Tryd.func23, Tryd.ntmps23
            go_upto_region 1 with fail
            rw [← HWA.out, ← HR.out]
            go_wp2_with (first
              | (go_at_call 39; (with_reducible refine (HB.out).mono ?_); rintro e w' ⟨rfl, rfl⟩)
              | (go_at_call 40; (with_reducible refine (HNU.out).mono ?_); rintro e w' ⟨rfl, rfl⟩)
              | (go_at_call 21; first | ((with_reducible refine (HAN.out).mono ?_); rintro e w' ⟨rfl, rfl⟩) | ((with_reducible refine (HAM.out).mono ?_); rintro e w' ⟨rfl, rfl⟩))
              | (go_at_call 41; first | ((with_reducible refine (HNM.out).mono ?_); rintro e w' ⟨rfl, rfl⟩) | ((with_reducible refine (HNN.out).mono ?_); rintro e w' ⟨rfl, rfl⟩) | ((with_reducible refine (HNG.out).mono ?_); rintro e w' ⟨rfl, rfl⟩)))
            exact fin_ro HBK HBL HR HF rfl rfl rfl rfl rfl rfl rfl rfl
        · rw [if_neg hm] at hT
          have hmI : (dm : Int) = 0 := by omega
          have hmd : dm = 0 := by omega
          have hi1I : (i : Int) + 1 ≤ (s.size : Int) := by omega
          have hii1 : (i : Int) ≤ (i : Int) + 1 := by omega
          by_cases h35 : s[i] = 35
          · have h35I : (s[i].toNat : Int) = 35 := by rw [h35]; rfl
            rw [h35I] at HB
            rw [if_neg (c := s[i] = 64 ∧ i + 1 < g) (fun e => absurd (h35.symm.trans e.1) (by decide))] at hT
            have hR : (mrC (bt s (i + 1)) = true → i + 1 < runE mrC s (i + 1)) ∧ (¬ mrC (bt s (i + 1)) = true → runE mrC s (i + 1) = i + 1) := by
              constructor
              · intro h
                exact runE_gt (z0 (fun e => by rw [e] at h; exact absurd h (by decide))) h
              · intro h
                by_cases e : i + 1 < s.size
                · rw [runE_step e, if_neg h]
                · exact runE_out _ (by omega)
            have HF : Hid (t = if i + 1 < runE mrC s (i + 1) then ⟨8, s.extract i (runE mrC s (i + 1)), ByteArray.empty, i, runE mrC s (i + 1)⟩ else ⟨10, s.extract i (i + 1), ByteArray.empty, i, i + 1⟩) := by
              unfold Hid
              rw [hT]
              by_cases h : mrC (bt s (i + 1)) = true
              · rw [if_pos ⟨h35, h⟩, if_pos (hR.1 h)]
              · rw [if_neg (fun e => h e.2), if_neg (by rw [hR.2 h]; omega)]
            clear hT h35 b34 b39 hR
            go_enter Tryd.func23, Tryd.ntmps23
            go_upto_region 1 with fail
            rw [← HWA.out, ← HR.out]
            go_wp2_with (first
              | (go_at_call 39; (with_reducible refine (HB.out).mono ?_); rintro e w' ⟨rfl, rfl⟩)
              | (go_at_call 40; (with_reducible refine (HNU.out).mono ?_); rintro e w' ⟨rfl, rfl⟩)
              | (go_at_call 21; first | ((with_reducible refine (HAN.out).mono ?_); rintro e w' ⟨rfl, rfl⟩) | ((with_reducible refine (HAM.out).mono ?_); rintro e w' ⟨rfl, rfl⟩))
              | (go_at_call 41; first | ((with_reducible refine (HNM.out).mono ?_); rintro e w' ⟨rfl, rfl⟩) | ((with_reducible refine (HNN.out).mono ?_); rintro e w' ⟨rfl, rfl⟩) | ((with_reducible refine (HNG.out).mono ?_); rintro e w' ⟨rfl, rfl⟩)))
            go_loopw [8] (fun v wr => ∃ (z : Nat), 1 ≤ z ∧ i + z ≤ s.size ∧ v = .int .i64 (z : Int) ∧ Hid (∀ q, i + 1 ≤ q → q < i + z → mrC (bt s q) = true) ∧ wa = wr) (fun v _ => s.size - (intOf v).toNat)
            case atStart => exact ⟨1, by omega, by omega, by go_num, fun q h1 h2 => by omega, rfl⟩
            case round =>
              obtain ⟨z, hz1, hik, rfl, HA, rfl⟩ := hrel
              obtain ⟨k, hkd⟩ : ∃ k, k = i + z := ⟨_, rfl⟩
              have izI : (i : Int) + (z : Int) = (k : Int) := by omega
              have hikI : (i : Int) ≤ (k : Int) := by omega
              have hksI : (k : Int) ≤ (s.size : Int) := by omega
              have hk0 : 0 ≤ (k : Int) := by omega
              rw [← hkd] at HA hik
              clear hkd
              have HRUN : Hid ((k < s.size → mrC (bt s k) = false) → t = if 1 < z then ⟨8, s.extract i k, ByteArray.empty, i, k⟩ else ⟨10, s.extract i (i + 1), ByteArray.empty, i, i + 1⟩) := by
                intro h
                rw [HF.out, runE_eq (by omega) hik HA.out h]
                by_cases e : 1 < z
                · rw [if_pos e, if_pos (by omega)]
                · rw [if_neg e, if_neg (by omega)]
              by_cases hlt : k < s.size
              · have hki : (k : Int) < (s.size : Int) := by omega
                have HD := Lib.hid (c_rIn s[k] wa)
                by_cases hd : mrC s[k] = true
                · rw [hd] at HD
                  clear HRUN
                  go_wp2_with (go_at_call 42; (with_reducible refine (HD.out).mono ?_); rintro e w' ⟨rfl, rfl⟩)
                  go_roundw
                  case rel => exact ⟨z + 1, by omega, by omega, by go_num, fun q h1 h2 => by
                    by_cases e : q = k
                    · subst e; rw [bt_eq hlt]; exact hd
                    · exact HA.out q h1 (by omega), by first | rfl | trivial⟩
                  case measure => simp [intOf]; omega
                · have hE := HRUN.out (fun _ => by rw [bt_eq hlt]; simpa using hd)
                  rw [Bool.not_eq_true _ |>.mp hd] at HD
                  by_cases e : 1 < z
                  · rw [if_pos e] at hE
                    have HE := Lib.hid hE
                    have eI : 1 < (z : Int) := by omega
                    clear hE HRUN
                    go_wp2_with (go_at_call 42; (with_reducible refine (HD.out).mono ?_); rintro e w' ⟨rfl, rfl⟩)
                    exact fin_ro HBK HBL HR HE rfl rfl rfl rfl rfl rfl rfl rfl
                  · rw [if_neg e] at hE
                    have HE := Lib.hid hE
                    have eI : ¬ 1 < (z : Int) := by omega
                    clear hE HRUN
                    go_wp2_with (go_at_call 42; (with_reducible refine (HD.out).mono ?_); rintro e w' ⟨rfl, rfl⟩)
                    exact fin_ro HBK HBL HR HE rfl rfl rfl rfl rfl rfl rfl rfl
              · have hki : ¬ (k : Int) < (s.size : Int) := by omega
                have hE := HRUN.out (fun e => absurd e hlt)
                by_cases e : 1 < z
                · rw [if_pos e] at hE
                  have HE := Lib.hid hE
                  have eI : 1 < (z : Int) := by omega
                  clear hE HRUN
                  go_wp2_with fail
                  exact fin_ro HBK HBL HR HE rfl rfl rfl rfl rfl rfl rfl rfl
                · rw [if_neg e] at hE
                  have HE := Lib.hid hE
                  have eI : ¬ 1 < (z : Int) := by omega
                  clear hE HRUN
                  go_wp2_with fail
                  exact fin_ro HBK HBL HR HE rfl rfl rfl rfl rfl rfl rfl rfl
          · rw [if_neg (fun e => h35 e.1)] at hT
            have h35I := u8ne (b := 35) h35
            have h35b : ((s[i].toNat : Int) == 35) = false := beq_eq_false_iff_ne.2 h35I
            by_cases h64 : s[i] = 64
            · have h64I : (s[i].toNat : Int) = 64 := by rw [h64]; rfl
              rw [h64I] at HB
              by_cases hg : i + 1 < g
              · rw [if_pos ⟨h64, hg⟩] at hT
                have HF := Lib.hid hT
                have hgI : 0 < (dg : Int) := by omega
                have hg0 : 0 ≤ (g : Int) := by omega
                have higI : (i : Int) ≤ (g : Int) := by omega
                have hgsI : (g : Int) ≤ (s.size : Int) := by omega
                clear hT h64 h35 b34 b39 h35b
                go_enter Tryd.func23, Tryd.ntmps23
                go_upto_region 1 with fail
                rw [← HWA.out, ← HR.out]
                go_wp2_with (first
                  | (go_at_call 39; (with_reducible refine (HB.out).mono ?_); rintro e w' ⟨rfl, rfl⟩)
                  | (go_at_call 40; (with_reducible refine (HNU.out).mono ?_); rintro e w' ⟨rfl, rfl⟩)
                  | (go_at_call 21; first | ((with_reducible refine (HAN.out).mono ?_); rintro e w' ⟨rfl, rfl⟩) | ((with_reducible refine (HAM.out).mono ?_); rintro e w' ⟨rfl, rfl⟩))
                  | (go_at_call 41; first | ((with_reducible refine (HNM.out).mono ?_); rintro e w' ⟨rfl, rfl⟩) | ((with_reducible refine (HNN.out).mono ?_); rintro e w' ⟨rfl, rfl⟩) | ((with_reducible refine (HNG.out).mono ?_); rintro e w' ⟨rfl, rfl⟩)))
                exact fin_ro HBK HBL HR HF rfl rfl rfl rfl rfl rfl rfl rfl
              · rw [if_neg (fun e => hg e.2)] at hT
                have HF := Lib.hid hT
                have hgI : (dg : Int) = 0 := by omega
                have hg0 : dg = 0 := by omega
                clear hT h64 h35 b34 b39 h35b
                go_enter Tryd.func23, Tryd.ntmps23
                go_upto_region 1 with fail
                rw [← HWA.out, ← HR.out]
                go_wp2_with (first
                  | (go_at_call 39; (with_reducible refine (HB.out).mono ?_); rintro e w' ⟨rfl, rfl⟩)
                  | (go_at_call 40; (with_reducible refine (HNU.out).mono ?_); rintro e w' ⟨rfl, rfl⟩)
                  | (go_at_call 21; first | ((with_reducible refine (HAN.out).mono ?_); rintro e w' ⟨rfl, rfl⟩) | ((with_reducible refine (HAM.out).mono ?_); rintro e w' ⟨rfl, rfl⟩))
                  | (go_at_call 41; first | ((with_reducible refine (HNM.out).mono ?_); rintro e w' ⟨rfl, rfl⟩) | ((with_reducible refine (HNN.out).mono ?_); rintro e w' ⟨rfl, rfl⟩) | ((with_reducible refine (HNG.out).mono ?_); rintro e w' ⟨rfl, rfl⟩)))
                exact fin_ro HBK HBL HR HF rfl rfl rfl rfl rfl rfl rfl rfl
            · rw [if_neg (fun e => h64 e.1)] at hT
              have HF := Lib.hid hT
              have h64I := u8ne (b := 64) h64
              have h64b : ((s[i].toNat : Int) == 64) = false := beq_eq_false_iff_ne.2 h64I
              clear hT h64 h35
              go_enter Tryd.func23, Tryd.ntmps23
              go_upto_region 1 with fail
              rw [← HWA.out, ← HR.out]
              go_wp2_with (first
                | (go_at_call 39; (with_reducible refine (HB.out).mono ?_); rintro e w' ⟨rfl, rfl⟩)
                | (go_at_call 40; (with_reducible refine (HNU.out).mono ?_); rintro e w' ⟨rfl, rfl⟩)
                | (go_at_call 21; first | ((with_reducible refine (HAN.out).mono ?_); rintro e w' ⟨rfl, rfl⟩) | ((with_reducible refine (HAM.out).mono ?_); rintro e w' ⟨rfl, rfl⟩))
                | (go_at_call 41; first | ((with_reducible refine (HNM.out).mono ?_); rintro e w' ⟨rfl, rfl⟩) | ((with_reducible refine (HNN.out).mono ?_); rintro e w' ⟨rfl, rfl⟩) | ((with_reducible refine (HNG.out).mono ?_); rintro e w' ⟨rfl, rfl⟩)))
              exact fin_ro HBK HBL HR HF rfl rfl rfl rfl rfl rfl rfl rfl
end Go.Proofs.YtmhejppfjngbhaaDoor
