/- sheets: the tokens of a text: the document's -/
import Derived.Test.YtmhejppfjngbhaaDoorYp
namespace Go.Proofs.YtmhejppfjngbhaaDoor
set_option linter.unusedVariables false
set_option linter.unusedSimpArgs false
open Go.RowKit Go.Cas

abbrev tR : TypeId := 47
theorem inf_rk : (Tryd.prog.info? tR).map (fun i => (i.zero, i.size, i.bytes)) = some (some (.agg #[.string ⟨#[]⟩, .string ⟨#[]⟩, .string ⟨#[]⟩, .int .i64 0, .int .i64 0]), 5, 64) := by kernel_rfl
theorem rkc_len (t : Tk) : (rkc t).length = 5 := rfl
theorem kdS_bl (k : Nat) : ((kdS k).toList == [98, 108, 97, 110, 107]) = decide (k = 0) := by
  by_cases h : k < 11
  · have : ∀ k : Fin 11, ((kdS k).data.toList == [98, 108, 97, 110, 107]) = decide (k.val = 0) := by decide
    have := this ⟨k, h⟩
    rw [ByteArray.toList_eq]
    exact this
  · have e : kdS k = ⟨#[115, 105, 103, 110]⟩ := by
      unfold kdS
      split <;> first | omega | rfl
    rw [e, ByteArray.toList_eq, decide_eq_false (by omega)]; rfl
theorem fnd_cm {s : ByteArray} {k : Nat} : (0 ≤ ixC s (k + 2) → fndV s (k + 2) + 2 = (cmE s k : Int) ∧ 0 ≤ fndV s (k + 2)) ∧ (¬ 0 ≤ ixC s (k + 2) → fndV s (k + 2) = -1 ∧ cmE s k = s.size) := by
  constructor
  · intro h
    have e : cmE s k = k + 2 + (ixC s (k + 2)).toNat + 2 := by unfold cmE; exact if_pos h
    unfold fndV
    rw [if_pos h, e]; omega
  · intro h
    have e : cmE s k = s.size := by unfold cmE; exact if_neg h
    unfold fndV
    rw [if_neg h]; exact ⟨rfl, e⟩
set_option maxHeartbeats 16000000 in
set_option maxRecDepth 100000 in
theorem c_rTokens (s : ByteArray) (w : World) (hs : s.size ≤ 1000000000) : Calls Tryd.prog 11 #[.string s] w fun e w' => ∃ v, e = .returned v ∧ w'.ownsRow w.heap.size tR 5 v (toks s).length (rws rkc (toks s)) ∧ (toks s).length ≤ s.size ∧ Below w.heap.size w w' := by
  have hsI : (s.size : Int) ≤ 1000000000 := by omega
  go_enter Tryd.func11, Tryd.ntmps11
  go_wp2_with fail
  go_loopw [3, 4] (fun u v wr => ∃ (k : Nat) (o : List Tk), v = .int .i64 (k : Int) ∧ k ≤ s.size ∧ o.length ≤ k ∧ Hid (∃ f, s.size - k < f ∧ toks s = tokF f s k o) ∧ (o = [] → u = .slice none 0 0) ∧ Hid (wr.ownsRow w.heap.size tR 5 u o.length (rws rkc o) ∧ Below w.heap.size w wr)) (fun _ v _ => s.size - (intOf v).toNat)
  case atStart => exact ⟨0, [], rfl, by omega, by simp, ⟨s.size + 1, by omega, rfl⟩, fun _ => rfl, World.ownsRow_nil _ _ _ _, Below.refl _ _⟩
  case round =>
    obtain ⟨k, o, rfl, hk, hok, HTK, hu, HOW⟩ := hrel
    have hwz := HOW.out.2.size
    by_cases hlt : k < s.size
    · have hki : (k : Int) < (s.size : Int) := by omega
      have hk0 : 0 ≤ (k : Int) := by omega
      have hkS : (k : Int) ≤ (s.size : Int) := by omega
      have HA0 := Lib.hid (c_at s k wr (by omega))
      have HA1 := Lib.hid (c_at s (k + 1) wr (by omega))
      rw [show ((k + 1 : Nat) : Int) = (k : Int) + 1 by omega] at HA1
      by_cases hc : bt s k = 47 ∧ bt s (k + 1) = 42
      · have h2 := z0 (s := s) (j := k + 1) (by rw [hc.2]; decide)
        rw [hc.1] at HA0
        rw [hc.2] at HA1
        have hcb := cmE_b (s := s) (i := k) (by omega)
        have HN : Hid (∃ f, s.size - cmE s k < f ∧ toks s = tokF f s (cmE s k) o) := by
          obtain ⟨f, h3, h4⟩ := HTK.out
          cases f with
          | zero => omega
          | succ f => exact ⟨f, by omega, h4.trans (tokF_cm hlt hc)⟩
        have HC := Lib.hid (c_rFind s (k + 2) wr (by omega) hs)
        rw [show ((k + 2 : Nat) : Int) = (k : Int) + 2 by omega] at HC
        have hk2 : (k : Int) + 2 ≤ (s.size : Int) := by omega
        have hk20 : 0 ≤ (k : Int) + 2 := by omega
        have hF := fnd_cm (s := s) (k := k)
        by_cases h0 : 0 ≤ ixC s (k + 2)
        · obtain ⟨hF1, hF2⟩ := hF.1 h0
          generalize fndV s (k + 2) = x at *
          generalize cmE s k = j at *
          have hx0 : ¬ x < 0 := by omega
          have hxs : x ≤ 1000000000 := by omega
          clear hc h2 hF h0
          go_wp2_with (first
            | (go_at_call 21; first | ((with_reducible refine (HA0.out).mono ?_); rintro e w' ⟨rfl, rfl⟩) | ((with_reducible refine (HA1.out).mono ?_); rintro e w' ⟨rfl, rfl⟩))
            | (go_at_call 22; refine (HC.out).mono ?_; rintro e w2 ⟨rfl, rfl⟩))
          go_roundw
          case rel => exact ⟨j, o, rfl, by omega, by omega, HN.out, hu, HOW.out.1, HOW.out.2⟩
          case measure => simp [intOf]; omega
        · obtain ⟨hF1, hF2⟩ := hF.2 h0
          rw [hF1] at HC
          rw [hF2] at HN
          have HE : Hid (toks s = o) := by
            obtain ⟨f, _, h4⟩ := HN.out
            exact h4.trans (tokF_end (by omega))
          clear hc h2 hF h0 hF1 hF2 HN
          go_wp2_with (first
            | (go_at_call 21; first | ((with_reducible refine (HA0.out).mono ?_); rintro e w' ⟨rfl, rfl⟩) | ((with_reducible refine (HA1.out).mono ?_); rintro e w' ⟨rfl, rfl⟩))
            | (go_at_call 22; refine (HC.out).mono ?_; rintro e w2 ⟨rfl, rfl⟩))
          go_ret
          rw [HE.out]
          exact ⟨_, rfl, HOW.out.1, by omega, HOW.out.2⟩
      · have hcs : ¬ bt s k = 47 ∨ (bt s k = 47 ∧ ¬ bt s (k + 1) = 42) := by
          by_cases h : bt s k = 47
          · exact .inr ⟨h, fun e => hc ⟨h, e⟩⟩
          · exact .inl h
        obtain ⟨t, ht⟩ : ∃ t, t = tokA s k := ⟨_, rfl⟩
        have htb := tokA_b s k hlt
        rw [← ht] at htb
        have HS : Hid (Calls Tryd.prog 23 #[.string s, .int .i64 (k : Int)] wr fun e w' => e = .returned (.agg #[.string (kdS t.k), .string t.t, .string t.u, .int .i64 (t.a : Int), .int .i64 (t.b : Int)]) ∧ Below wr.heap.size wr w') := by
          rw [ht]; exact c_rOne s k wr hlt hs
        have HN : Hid (∃ f, s.size - t.b < f ∧ toks s = tokF f s t.b (addT o t)) := by
          obtain ⟨f, h3, h4⟩ := HTK.out
          cases f with
          | zero => omega
          | succ f => exact ⟨f, by omega, by rw [h4, tokF_tk hlt hc, ← ht]⟩
        clear hc ht
        have HKT := Lib.hid (kdS_bl t.k)
        rcases hcs with h47 | ⟨h47, h42⟩
        · have n47 := u8ne (b := 47) h47
          have nb47 : (((bt s k).toNat : Int) == 47) = false := beq_eq_false_iff_ne.2 n47
          clear h47
          go_upto_region 10 with (first
            | (go_at_call 21; first | ((with_reducible refine (HA0.out).mono ?_); rintro e w' ⟨rfl, rfl⟩) | ((with_reducible refine (HA1.out).mono ?_); rintro e w' ⟨rfl, rfl⟩))
            | (go_at_call 23; refine (HS.out).mono ?_; rintro e w2 ⟨rfl, hb2⟩; have HB2 := Lib.hid hb2; clear hb2))
          obtain ⟨r, hr⟩ : ∃ r, r = w2.heap.size := ⟨_, rfl⟩
          obtain ⟨W, hW⟩ : ∃ W, W = w2.alloc (.cells #[.string (kdS t.k), .string t.t, .string t.u, .int .i64 (t.a : Int), .int .i64 (t.b : Int)] tR) := ⟨_, rfl⟩
          rw [← hW, ← hr]
          have hbW : Below wr.heap.size wr W := by rw [hW]; exact bl_alloc HB2.out _
          have hb7 : Bk W r tR #[.string (kdS t.k), .string t.t, .string t.u, .int .i64 (t.a : Int), .int .i64 (t.b : Int)] := by
            rw [hW, hr]; show (w2.heap.push _)[w2.heap.size]? = _; simp
          have c0 := hb7.cell 0
          have c1 := hb7.cell 1
          have c2 := hb7.cell 2
          have c3 := hb7.cell 3
          have c4 := hb7.cell 4
          have f0 := hb7.free 0
          have f1 := hb7.free 1
          have f2 := hb7.free 2
          have f3 := hb7.free 3
          have f4 := hb7.free 4
          have hl7 := hb7.lt
          have HB2W : Hid (Below w.heap.size w W) := HOW.out.2.trans (hbW.mono hwz)
          have hBW : w.heap.size ≤ W.heap.size := HB2W.out.size
          have HOW2 : Hid (W.ownsRow w.heap.size tR 5 u3 o.length (rws rkc o)) := own_keep HOW.out.1 fun j hj => hbW.block j (own_lt HOW.out.1 hj).2
          clear hW hr hb7 hbW HA0 HA1 HS HTK HOW HB2
          rcases List.eq_nil_or_concat o with ho | ⟨o', z, ho⟩
          · subst ho
            have hu3 := hu rfl
            subst hu3
            by_cases hk : t.k = 0
            · have hkI : ((kdS t.k).toList == [98, 108, 97, 110, 107]) = true := by rw [HKT.out]; exact decide_eq_true hk
              clear hk
              go_wp2_with (at_builtin; refine wp_push rfl _ _ 33 rfl w.heap.size tR Tryd.underlying33 inf_rk rfl (by decide) W (.slice none 0 0) 0 [] (rkc t) rfl rfl rfl HOW2.out rfl (by simp [Value.oneCell', rkc]) (by omega) (by omega) hBW ?_; intro v4 w4 hpush; have HPU := Lib.hid hpush; clear hpush)
              go_roundw
              case rel => exact ⟨t.b, addT [] t, rfl, by omega, by have := addT_len ([]) t; omega, HN.out, fun e => absurd e (by rw [addT_nil]; simp), by rw [addT_nil]; rw [rws_one rkc_len]; exact HPU.out.own, HPU.out.below HB2W.out (Nat.le_refl _) hBW⟩
              case measure => simp [intOf]; omega
            · have hkI : ((kdS t.k).toList == [98, 108, 97, 110, 107]) = false := by rw [HKT.out]; exact decide_eq_false hk
              go_wp2_with (at_builtin; refine wp_push rfl _ _ 33 rfl w.heap.size tR Tryd.underlying33 inf_rk rfl (by decide) W (.slice none 0 0) 0 [] (rkc t) rfl rfl rfl HOW2.out rfl (by simp [Value.oneCell', rkc]) (by omega) (by omega) hBW ?_; intro v4 w4 hpush; have HPU := Lib.hid hpush; clear hpush)
              go_roundw
              case rel => exact ⟨t.b, addT [] t, rfl, by omega, by have := addT_len ([]) t; omega, HN.out, fun e => absurd e (by rw [addT_nil]; simp), by rw [addT_nil]; rw [rws_one rkc_len]; exact HPU.out.own, HPU.out.below HB2W.out (Nat.le_refl _) hBW⟩
              case measure => simp [intOf]; omega
          · rw [List.concat_eq_append] at ho
            subst ho
            clear hu
            obtain ⟨q, hq⟩ : ∃ q, q = o'.length := ⟨_, rfl⟩
            have hon : (o' ++ [z]).length = q + 1 := by rw [hq]; simp
            have HON := Lib.hid hon
            have hown := HOW2.out
            rw [hon] at hown hok
            obtain ⟨g, cp, he, hg0, hgl⟩ := hown.form (by omega)
            subst he
            have HOW3 := Lib.hid hown
            have hcell : ∀ j, j < 5 → W.cell? ⟨g, q * 5 + j, none⟩ = (rkc z)[j]? := fun j hj => by
              have h1 : ((o' ++ [z])[q]? : Option Tk) = some z := by rw [hq]; simp
              have h2 := rws_get rkc_len h1 hj
              have h3 : ∃ v, (rkc z)[j]? = some v := ⟨(rkc z)[j]'hj, List.getElem?_eq_getElem hj⟩
              obtain ⟨v, hv⟩ := h3
              rw [hv] at h2 ⊢
              have := hown.cells (g := g) rfl _ _ h2
              have e : (⟨g, 0, none⟩ : Addr).add (q * 5 + j) = ⟨g, q * 5 + j, none⟩ := by
                unfold Addr.add; split
                · rename_i h; rw [h]
                · simp
              rw [← e]; exact this
            have d0 : W.cell? ⟨g, q * 5, none⟩ = some (.string (kdS z.k)) := hcell 0 (by decide)
            have d4 : W.cell? ⟨g, q * 5 + 4, none⟩ = some (.int .i64 (z.b : Int)) := hcell 4 (by decide)
            have e4 := own_free hown (q * 5 + 4)
            have hqI : (q : Int) + 1 - 1 = (q : Int) := by omega
            have HQ := Lib.hid hq.symm
            clear hown HOW2 hon hcell hq
            have hq5 : q ≤ 1000000000 := by omega
            by_cases hk : t.k = 0
            · have hkI : ((kdS t.k).toList == [98, 108, 97, 110, 107]) = true := by rw [HKT.out]; exact decide_eq_true hk
              by_cases hzk : z.k = 0
              · have hzI : ((kdS z.k).toList == [98, 108, 97, 110, 107]) = true := by rw [kdS_bl]; exact decide_eq_true hzk
                have HADD := Lib.hid (addT_bl (o := o') (z := z) hk hzk)
                clear hk hzk
                go_wp2_with fail
                go_roundw
                case rel =>
                  have hq2 := HQ.out
                  have h1 := own_setN HOW3.out (q * 5 + 4) (.int .i64 (t.b : Int))
                  rw [← hq2, rws_set rkc_len o' z 4 (by decide), hq2] at h1
                  exact ⟨t.b, addT (o' ++ [z]) t, rfl, by omega, by have := addT_len (o' ++ [z]) t; rw [List.length_append, List.length_singleton] at this; omega, HN.out, fun e => absurd e (by rw [HADD.out]; simp), by rw [HADD.out, List.length_append, List.length_singleton, HQ.out, rws_app rkc_len, rws_one rkc_len]; exact h1, (HB2W.out).setCell (p := ⟨g, q * 5 + 4, none⟩) hg0 _⟩
                case measure => simp [intOf]; omega
              · have hzI : ((kdS z.k).toList == [98, 108, 97, 110, 107]) = false := by rw [kdS_bl]; exact decide_eq_false hzk
                have HADD := Lib.hid (addT_no (o := o') (z := z) (t := t) (fun e => hzk e.2))
                clear hk hzk
                go_wp2_with (at_builtin; refine wp_push rfl _ _ 33 rfl w.heap.size tR Tryd.underlying33 inf_rk rfl (by decide) W (.slice (some ⟨g, 0, none⟩) (q + 1) cp) (q + 1) (rws rkc (o' ++ [z])) (rkc t) rfl rfl rfl HOW3.out rfl (by simp [Value.oneCell', rkc]) (by omega) (by omega) hBW ?_; intro v4 w4 hpush; have HPU := Lib.hid hpush; clear hpush)
                go_roundw
                case rel => exact ⟨t.b, addT (o' ++ [z]) t, rfl, by omega, by have := addT_len (o' ++ [z]) t; rw [List.length_append, List.length_singleton] at this; have hq2 := HQ.out; omega, HN.out, fun e => absurd e (by rw [HADD.out]; simp), by rw [HADD.out, List.length_append, List.length_append, List.length_singleton, List.length_singleton, HQ.out, rws_app rkc_len, rws_one rkc_len]; exact HPU.out.own, HPU.out.below HB2W.out (Nat.le_refl _) hBW⟩
                case measure => simp [intOf]; omega
            · have hkI : ((kdS t.k).toList == [98, 108, 97, 110, 107]) = false := by rw [HKT.out]; exact decide_eq_false hk
              have HADD := Lib.hid (addT_no (o := o') (z := z) (t := t) (fun e => hk e.1))
              go_wp2_with (at_builtin; refine wp_push rfl _ _ 33 rfl w.heap.size tR Tryd.underlying33 inf_rk rfl (by decide) W (.slice (some ⟨g, 0, none⟩) (q + 1) cp) (q + 1) (rws rkc (o' ++ [z])) (rkc t) rfl rfl rfl HOW3.out rfl (by simp [Value.oneCell', rkc]) (by omega) (by omega) hBW ?_; intro v4 w4 hpush; have HPU := Lib.hid hpush; clear hpush)
              go_roundw
              case rel => exact ⟨t.b, addT (o' ++ [z]) t, rfl, by omega, by have := addT_len (o' ++ [z]) t; rw [List.length_append, List.length_singleton] at this; have hq2 := HQ.out; omega, HN.out, fun e => absurd e (by rw [HADD.out]; simp), by rw [HADD.out, List.length_append, List.length_append, List.length_singleton, List.length_singleton, HQ.out, rws_app rkc_len, rws_one rkc_len]; exact HPU.out.own, HPU.out.below HB2W.out (Nat.le_refl _) hBW⟩
              case measure => simp [intOf]; omega
        · rw [h47] at HA0
          have n42 := u8ne (b := 42) h42
          have nb42 : (((bt s (k + 1)).toNat : Int) == 42) = false := beq_eq_false_iff_ne.2 n42
          clear h47 h42
          go_upto_region 10 with (first
            | (go_at_call 21; first | ((with_reducible refine (HA0.out).mono ?_); rintro e w' ⟨rfl, rfl⟩) | ((with_reducible refine (HA1.out).mono ?_); rintro e w' ⟨rfl, rfl⟩))
            | (go_at_call 23; refine (HS.out).mono ?_; rintro e w2 ⟨rfl, hb2⟩; have HB2 := Lib.hid hb2; clear hb2))
          obtain ⟨r, hr⟩ : ∃ r, r = w2.heap.size := ⟨_, rfl⟩
          obtain ⟨W, hW⟩ : ∃ W, W = w2.alloc (.cells #[.string (kdS t.k), .string t.t, .string t.u, .int .i64 (t.a : Int), .int .i64 (t.b : Int)] tR) := ⟨_, rfl⟩
          rw [← hW, ← hr]
          have hbW : Below wr.heap.size wr W := by rw [hW]; exact bl_alloc HB2.out _
          have hb7 : Bk W r tR #[.string (kdS t.k), .string t.t, .string t.u, .int .i64 (t.a : Int), .int .i64 (t.b : Int)] := by
            rw [hW, hr]; show (w2.heap.push _)[w2.heap.size]? = _; simp
          have c0 := hb7.cell 0
          have c1 := hb7.cell 1
          have c2 := hb7.cell 2
          have c3 := hb7.cell 3
          have c4 := hb7.cell 4
          have f0 := hb7.free 0
          have f1 := hb7.free 1
          have f2 := hb7.free 2
          have f3 := hb7.free 3
          have f4 := hb7.free 4
          have hl7 := hb7.lt
          have HB2W : Hid (Below w.heap.size w W) := HOW.out.2.trans (hbW.mono hwz)
          have hBW : w.heap.size ≤ W.heap.size := HB2W.out.size
          have HOW2 : Hid (W.ownsRow w.heap.size tR 5 u3 o.length (rws rkc o)) := own_keep HOW.out.1 fun j hj => hbW.block j (own_lt HOW.out.1 hj).2
          clear hW hr hb7 hbW HA0 HA1 HS HTK HOW HB2
          rcases List.eq_nil_or_concat o with ho | ⟨o', z, ho⟩
          · subst ho
            have hu3 := hu rfl
            subst hu3
            by_cases hk : t.k = 0
            · have hkI : ((kdS t.k).toList == [98, 108, 97, 110, 107]) = true := by rw [HKT.out]; exact decide_eq_true hk
              clear hk
              go_wp2_with (at_builtin; refine wp_push rfl _ _ 33 rfl w.heap.size tR Tryd.underlying33 inf_rk rfl (by decide) W (.slice none 0 0) 0 [] (rkc t) rfl rfl rfl HOW2.out rfl (by simp [Value.oneCell', rkc]) (by omega) (by omega) hBW ?_; intro v4 w4 hpush; have HPU := Lib.hid hpush; clear hpush)
              go_roundw
              case rel => exact ⟨t.b, addT [] t, rfl, by omega, by have := addT_len ([]) t; omega, HN.out, fun e => absurd e (by rw [addT_nil]; simp), by rw [addT_nil]; rw [rws_one rkc_len]; exact HPU.out.own, HPU.out.below HB2W.out (Nat.le_refl _) hBW⟩
              case measure => simp [intOf]; omega
            · have hkI : ((kdS t.k).toList == [98, 108, 97, 110, 107]) = false := by rw [HKT.out]; exact decide_eq_false hk
              go_wp2_with (at_builtin; refine wp_push rfl _ _ 33 rfl w.heap.size tR Tryd.underlying33 inf_rk rfl (by decide) W (.slice none 0 0) 0 [] (rkc t) rfl rfl rfl HOW2.out rfl (by simp [Value.oneCell', rkc]) (by omega) (by omega) hBW ?_; intro v4 w4 hpush; have HPU := Lib.hid hpush; clear hpush)
              go_roundw
              case rel => exact ⟨t.b, addT [] t, rfl, by omega, by have := addT_len ([]) t; omega, HN.out, fun e => absurd e (by rw [addT_nil]; simp), by rw [addT_nil]; rw [rws_one rkc_len]; exact HPU.out.own, HPU.out.below HB2W.out (Nat.le_refl _) hBW⟩
              case measure => simp [intOf]; omega
          · rw [List.concat_eq_append] at ho
            subst ho
            clear hu
            obtain ⟨q, hq⟩ : ∃ q, q = o'.length := ⟨_, rfl⟩
            have hon : (o' ++ [z]).length = q + 1 := by rw [hq]; simp
            have HON := Lib.hid hon
            have hown := HOW2.out
            rw [hon] at hown hok
            obtain ⟨g, cp, he, hg0, hgl⟩ := hown.form (by omega)
            subst he
            have HOW3 := Lib.hid hown
            have hcell : ∀ j, j < 5 → W.cell? ⟨g, q * 5 + j, none⟩ = (rkc z)[j]? := fun j hj => by
              have h1 : ((o' ++ [z])[q]? : Option Tk) = some z := by rw [hq]; simp
              have h2 := rws_get rkc_len h1 hj
              have h3 : ∃ v, (rkc z)[j]? = some v := ⟨(rkc z)[j]'hj, List.getElem?_eq_getElem hj⟩
              obtain ⟨v, hv⟩ := h3
              rw [hv] at h2 ⊢
              have := hown.cells (g := g) rfl _ _ h2
              have e : (⟨g, 0, none⟩ : Addr).add (q * 5 + j) = ⟨g, q * 5 + j, none⟩ := by
                unfold Addr.add; split
                · rename_i h; rw [h]
                · simp
              rw [← e]; exact this
            have d0 : W.cell? ⟨g, q * 5, none⟩ = some (.string (kdS z.k)) := hcell 0 (by decide)
            have d4 : W.cell? ⟨g, q * 5 + 4, none⟩ = some (.int .i64 (z.b : Int)) := hcell 4 (by decide)
            have e4 := own_free hown (q * 5 + 4)
            have hqI : (q : Int) + 1 - 1 = (q : Int) := by omega
            have HQ := Lib.hid hq.symm
            clear hown HOW2 hon hcell hq
            have hq5 : q ≤ 1000000000 := by omega
            by_cases hk : t.k = 0
            · have hkI : ((kdS t.k).toList == [98, 108, 97, 110, 107]) = true := by rw [HKT.out]; exact decide_eq_true hk
              by_cases hzk : z.k = 0
              · have hzI : ((kdS z.k).toList == [98, 108, 97, 110, 107]) = true := by rw [kdS_bl]; exact decide_eq_true hzk
                have HADD := Lib.hid (addT_bl (o := o') (z := z) hk hzk)
                clear hk hzk
                go_wp2_with fail
                go_roundw
                case rel =>
                  have hq2 := HQ.out
                  have h1 := own_setN HOW3.out (q * 5 + 4) (.int .i64 (t.b : Int))
                  rw [← hq2, rws_set rkc_len o' z 4 (by decide), hq2] at h1
                  exact ⟨t.b, addT (o' ++ [z]) t, rfl, by omega, by have := addT_len (o' ++ [z]) t; rw [List.length_append, List.length_singleton] at this; omega, HN.out, fun e => absurd e (by rw [HADD.out]; simp), by rw [HADD.out, List.length_append, List.length_singleton, HQ.out, rws_app rkc_len, rws_one rkc_len]; exact h1, (HB2W.out).setCell (p := ⟨g, q * 5 + 4, none⟩) hg0 _⟩
                case measure => simp [intOf]; omega
              · have hzI : ((kdS z.k).toList == [98, 108, 97, 110, 107]) = false := by rw [kdS_bl]; exact decide_eq_false hzk
                have HADD := Lib.hid (addT_no (o := o') (z := z) (t := t) (fun e => hzk e.2))
                clear hk hzk
                go_wp2_with (at_builtin; refine wp_push rfl _ _ 33 rfl w.heap.size tR Tryd.underlying33 inf_rk rfl (by decide) W (.slice (some ⟨g, 0, none⟩) (q + 1) cp) (q + 1) (rws rkc (o' ++ [z])) (rkc t) rfl rfl rfl HOW3.out rfl (by simp [Value.oneCell', rkc]) (by omega) (by omega) hBW ?_; intro v4 w4 hpush; have HPU := Lib.hid hpush; clear hpush)
                go_roundw
                case rel => exact ⟨t.b, addT (o' ++ [z]) t, rfl, by omega, by have := addT_len (o' ++ [z]) t; rw [List.length_append, List.length_singleton] at this; have hq2 := HQ.out; omega, HN.out, fun e => absurd e (by rw [HADD.out]; simp), by rw [HADD.out, List.length_append, List.length_append, List.length_singleton, List.length_singleton, HQ.out, rws_app rkc_len, rws_one rkc_len]; exact HPU.out.own, HPU.out.below HB2W.out (Nat.le_refl _) hBW⟩
                case measure => simp [intOf]; omega
            · have hkI : ((kdS t.k).toList == [98, 108, 97, 110, 107]) = false := by rw [HKT.out]; exact decide_eq_false hk
              have HADD := Lib.hid (addT_no (o := o') (z := z) (t := t) (fun e => hk e.1))
              go_wp2_with (at_builtin; refine wp_push rfl _ _ 33 rfl w.heap.size tR Tryd.underlying33 inf_rk rfl (by decide) W (.slice (some ⟨g, 0, none⟩) (q + 1) cp) (q + 1) (rws rkc (o' ++ [z])) (rkc t) rfl rfl rfl HOW3.out rfl (by simp [Value.oneCell', rkc]) (by omega) (by omega) hBW ?_; intro v4 w4 hpush; have HPU := Lib.hid hpush; clear hpush)
              go_roundw
              case rel => exact ⟨t.b, addT (o' ++ [z]) t, rfl, by omega, by have := addT_len (o' ++ [z]) t; rw [List.length_append, List.length_singleton] at this; have hq2 := HQ.out; omega, HN.out, fun e => absurd e (by rw [HADD.out]; simp), by rw [HADD.out, List.length_append, List.length_append, List.length_singleton, List.length_singleton, HQ.out, rws_app rkc_len, rws_one rkc_len]; exact HPU.out.own, HPU.out.below HB2W.out (Nat.le_refl _) hBW⟩
              case measure => simp [intOf]; omega
    · have hki : ¬ (k : Int) < (s.size : Int) := by omega
      have HE : Hid (toks s = o) := by
        obtain ⟨f, _, h4⟩ := HTK.out
        exact h4.trans (tokF_end hlt)
      clear HTK
      go_wp2_with fail
      go_ret
      rw [HE.out]
      exact ⟨_, rfl, HOW.out.1, by omega, HOW.out.2⟩
end Go.Proofs.YtmhejppfjngbhaaDoor
