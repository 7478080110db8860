/- sheets: the tokens of a text: the program's -/
import Derived.Test.YtmhejppfjngbhaaDoorYo
namespace Go.Proofs.YtmhejppfjngbhaaDoor
set_option linter.unusedVariables false
set_option linter.unusedSimpArgs false
open Go.RowKit Go.Cas

abbrev tK : TypeId := 27
theorem inf_tk : (Tryd.prog.info? tK).map (fun i => (i.zero, i.size, i.bytes)) = some (some (.agg #[.int .i64 0, .string ⟨#[]⟩, .string ⟨#[]⟩, .int .i64 0, .int .i64 0]), 5, 56) := by kernel_rfl
theorem tkc_len (t : Tk) : (tkc t).length = 5 := rfl
theorem c_pref (s : ByteArray) (i : Nat) (w : World) : Calls Tryd.prog 15 #[.string (s.extract i s.size), .string (ByteArray.mk #[47, 42])] w fun e w' => e = .returned (.bool (decide (bt s i = 47 ∧ bt s (i + 1) = 42))) ∧ w = w' := by
  have := Tryd.strings_HasPrefix (s.extract i s.size) (ByteArray.mk #[47, 42]) w
  rw [show (ByteArray.mk #[47, 42]).data.toList = [47, 42] from rfl, hp2 (by decide) (by decide)] at this
  exact this.mono fun _ _ h => ⟨h.1, h.2.symm⟩
theorem c_cut2 (s : ByteArray) (i : Nat) (w : World) (hm : MxC w) (hi : i + 2 ≤ s.size) (hs : s.size ≤ 1000000000) : Calls Tryd.prog 16 #[.string (s.extract (i + 2) s.size), .string (ByteArray.mk #[42, 47])] w fun e w' => ∃ b r f, e = .returned (.tuple #[.string b, .string r, f]) ∧ (s.size : Int) - (r.size : Int) = (cmE s i : Int) ∧ ∃ n, w' = w.drewN n := by
  obtain ⟨m, hm⟩ := hm
  refine (Tryd.strings_Cut (s.extract (i + 2) s.size) (ByteArray.mk #[42, 47]) m w (by rw [ByteArray.size_extract]; omega) hm).mono ?_
  rintro e w' ⟨rfl, h⟩
  refine ⟨_, _, _, rfl, ?_, h⟩
  rw [show (ByteArray.mk #[42, 47]).data.toList = [42, 47] from rfl, ext_list]
  have hsz : ∀ l : List UInt8, (⟨l.toArray⟩ : ByteArray).size = l.length := ba_size
  unfold Lib.cut cmE
  split
  · rename_i h0
    have h1 := ix2 _ h0
    rw [List.length_drop, show s.data.toList.length = s.size from rfl] at h1
    obtain ⟨q, hq⟩ : ∃ q, q = (Lib.index (s.data.toList.drop (i + 2)) [42, 47]).toNat := ⟨_, rfl⟩
    rw [← hq] at h1 ⊢
    have e := hsz ((s.data.toList.drop (i + 2)).drop (q + 2))
    rw [List.length_drop, List.length_drop, show s.data.toList.length = s.size from rfl] at e
    show (s.size : Int) - ((ByteArray.size ⟨(List.drop (q + 2) (List.drop (i + 2) s.data.toList)).toArray⟩ : Nat) : Int) = _
    rw [e]
    omega
  · show (s.size : Int) - ((ByteArray.size ⟨#[]⟩ : Nat) : Int) = _
    rw [show ByteArray.size ⟨#[]⟩ = 0 from rfl]; omega
set_option maxHeartbeats 16000000 in
set_option maxRecDepth 100000 in
theorem c_Tokens (s : ByteArray) (w : World) (hm : MxC w) (hs : s.size ≤ 1000000000) : Calls Tryd.prog 7 #[.string s] w fun e w' => ∃ v, e = .returned v ∧ w'.ownsRow w.heap.size tK 5 v (toks s).length (rws tkc (toks s)) ∧ (toks s).length ≤ s.size ∧ Below w.heap.size w w' := by
  have hz := hm.lt
  have HM := Lib.hid hm
  have hsI : (s.size : Int) ≤ 1000000000 := by omega
  clear hm
  go_enter Tryd.func7, Tryd.ntmps7
  go_wp2_with fail
  go_loopw [3, 4] (fun u v wr => ∃ (k : Nat) (o : List Tk), v = .int .i64 (k : Int) ∧ k ≤ s.size ∧ o.length ≤ k ∧ Hid (∃ f, s.size - k < f ∧ toks s = tokF f s k o) ∧ (o = [] → u = .slice none 0 0) ∧ Hid (wr.ownsRow w.heap.size tK 5 u o.length (rws tkc o) ∧ Below w.heap.size w wr)) (fun _ v _ => s.size - (intOf v).toNat)
  case atStart => exact ⟨0, [], rfl, by omega, by simp, ⟨s.size + 1, by omega, rfl⟩, fun _ => rfl, World.ownsRow_nil _ _ _ _, Below.refl _ _⟩
  case round =>
    obtain ⟨k, o, rfl, hk, hok, HTK, hu, HOW⟩ := hrel
    have hwz := HOW.out.2.size
    by_cases hlt : k < s.size
    · have hki : (k : Int) < (s.size : Int) := by omega
      have hk0 : 0 ≤ (k : Int) := by omega
      have hkS : (k : Int) ≤ (s.size : Int) := by omega
      have HP := Lib.hid (c_pref s k wr)
      by_cases hc : bt s k = 47 ∧ bt s (k + 1) = 42
      · have h2 := z0 (s := s) (j := k + 1) (by rw [hc.2]; decide)
        rw [decide_eq_true hc] at HP
        have hcb := cmE_b (s := s) (i := k) (by omega)
        have HN : Hid (∃ f, s.size - cmE s k < f ∧ toks s = tokF f s (cmE s k) o) := by
          obtain ⟨f, h3, h4⟩ := HTK.out
          cases f with
          | zero => omega
          | succ f => exact ⟨f, by omega, h4.trans (tokF_cm hlt hc)⟩
        have HC := Lib.hid (c_cut2 s k wr (HM.out.below HOW.out.2 hz) (by omega) hs)
        have hk2 : (k : Int) + 2 ≤ (s.size : Int) := by omega
        have hk20 : 0 ≤ (k : Int) + 2 := by omega
        generalize cmE s k = j at *
        clear hc h2
        go_upto_region 6 with (first
          | (go_at_call 15; refine (HP.out).mono ?_; rintro e w' ⟨rfl, rfl⟩)
          | (go_at_call 16; refine (HC.out).mono ?_; rintro e w2 ⟨b, rr, f, rfl, hbr, nn, rfl⟩))
        have hrz : (rr.size : Int) ≤ (s.size : Int) := by omega
        go_wp2_with fail
        go_roundw
        case rel => exact ⟨j, o, rfl, by omega, by omega, HN.out, hu, HOW.out.1, bl_drewN HOW.out.2 _⟩
        case measure => simp [intOf]; omega
      · rw [decide_eq_false hc] at HP
        obtain ⟨t, ht⟩ : ∃ t, t = tokA s k := ⟨_, rfl⟩
        have htb := tokA_b s k hlt
        rw [← ht] at htb
        have HS : Hid (Calls Tryd.prog 17 #[.string s, .int .i64 (k : Int)] wr fun e w' => e = .returned (.agg #[.int .i64 (t.k : Int), .string t.t, .string t.u, .int .i64 (t.a : Int), .int .i64 (t.b : Int)]) ∧ Below wr.heap.size wr w') := by
          rw [ht]; exact c_scan s k wr hlt hs
        have HN : Hid (∃ f, s.size - t.b < f ∧ toks s = tokF f s t.b (addT o t)) := by
          obtain ⟨f, h3, h4⟩ := HTK.out
          cases f with
          | zero => omega
          | succ f => exact ⟨f, by omega, by rw [h4, tokF_tk hlt hc, ← ht]⟩
        clear hc ht
        go_upto_region 8 with (first
          | (go_at_call 15; refine (HP.out).mono ?_; rintro e w' ⟨rfl, rfl⟩)
          | (go_at_call 17; refine (HS.out).mono ?_; rintro e w2 ⟨rfl, hb2⟩; have HB2 := Lib.hid hb2; clear hb2))
        obtain ⟨r, hr⟩ : ∃ r, r = w2.heap.size := ⟨_, rfl⟩
        obtain ⟨W, hW⟩ : ∃ W, W = w2.alloc (.cells #[.int .i64 (t.k : Int), .string t.t, .string t.u, .int .i64 (t.a : Int), .int .i64 (t.b : Int)] tK) := ⟨_, rfl⟩
        rw [← hW, ← hr]
        have hbW : Below wr.heap.size wr W := by rw [hW]; exact bl_alloc HB2.out _
        have hb7 : Bk W r tK #[.int .i64 (t.k : Int), .string t.t, .string t.u, .int .i64 (t.a : Int), .int .i64 (t.b : Int)] := by
          rw [hW, hr]; show (w2.heap.push _)[w2.heap.size]? = _; simp
        have c0 := hb7.cell 0
        have c1 := hb7.cell 1
        have c2 := hb7.cell 2
        have c3 := hb7.cell 3
        have c4 := hb7.cell 4
        have f0 := hb7.free 0
        have f1 := hb7.free 1
        have f2 := hb7.free 2
        have f3 := hb7.free 3
        have f4 := hb7.free 4
        have hl7 := hb7.lt
        have HB2W : Hid (Below w.heap.size w W) := HOW.out.2.trans (hbW.mono hwz)
        have hBW : w.heap.size ≤ W.heap.size := HB2W.out.size
        have HOW2 : Hid (W.ownsRow w.heap.size tK 5 u3 o.length (rws tkc o)) := own_keep HOW.out.1 fun j hj => hbW.block j (own_lt HOW.out.1 hj).2
        clear hW hr hb7 hbW HP HS HTK HOW HB2
        rcases List.eq_nil_or_concat o with ho | ⟨o', z, ho⟩
        · subst ho
          have hu3 := hu rfl
          subst hu3
          have HKT := Lib.hid (show (t.k : Int) = (t.k : Int) from rfl)
          by_cases hk : t.k = 0
          · have hkI : (t.k : Int) = 0 := by omega
            go_wp2_with (at_builtin; refine wp_push rfl _ _ 23 rfl w.heap.size tK Tryd.underlying23 inf_tk rfl (by decide) W (.slice none 0 0) 0 [] [.int .i64 0, .string t.t, .string t.u, .int .i64 (t.a : Int), .int .i64 (t.b : Int)] rfl rfl rfl HOW2.out rfl (by simp [Value.oneCell']) (by omega) (by omega) hBW ?_; intro v4 w4 hpush; have HPU := Lib.hid hpush; clear hpush)
            go_roundw
            case rel => exact ⟨t.b, addT [] t, rfl, by omega, by have := addT_len ([]) t; omega, HN.out, fun e => absurd e (by rw [addT_nil]; simp), by rw [addT_nil]; rw [rws_one tkc_len, show tkc t = [.int .i64 0, .string t.t, .string t.u, .int .i64 (t.a : Int), .int .i64 (t.b : Int)] by unfold tkc; rw [hkI]]; exact HPU.out.own, HPU.out.below HB2W.out (Nat.le_refl _) hBW⟩
            case measure => simp [intOf]; omega
          · have hkI : ¬ (t.k : Int) = 0 := by omega
            have hkb : ((t.k : Int) == 0) = false := beq_eq_false_iff_ne.2 hkI
            go_wp2_with (at_builtin; refine wp_push rfl _ _ 23 rfl w.heap.size tK Tryd.underlying23 inf_tk rfl (by decide) W (.slice none 0 0) 0 [] (tkc t) rfl rfl rfl HOW2.out rfl (by simp [Value.oneCell', tkc]) (by omega) (by omega) hBW ?_; intro v4 w4 hpush; have HPU := Lib.hid hpush; clear hpush)
            go_roundw
            case rel => exact ⟨t.b, addT [] t, rfl, by omega, by have := addT_len ([]) t; omega, HN.out, fun e => absurd e (by rw [addT_nil]; simp), by rw [addT_nil]; rw [rws_one tkc_len]; exact HPU.out.own, HPU.out.below HB2W.out (Nat.le_refl _) hBW⟩
            case measure => simp [intOf]; omega
        · rw [List.concat_eq_append] at ho
          subst ho
          clear hu
          obtain ⟨q, hq⟩ : ∃ q, q = o'.length := ⟨_, rfl⟩
          have hon : (o' ++ [z]).length = q + 1 := by rw [hq]; simp
          have HON := Lib.hid hon
          have hown := HOW2.out
          rw [hon] at hown hok
          obtain ⟨g, cp, he, hg0, hgl⟩ := hown.form (by omega)
          subst he
          have HOW3 := Lib.hid hown
          have hcell : ∀ j, j < 5 → W.cell? ⟨g, q * 5 + j, none⟩ = (tkc z)[j]? := fun j hj => by
            have h1 : ((o' ++ [z])[q]? : Option Tk) = some z := by rw [hq]; simp
            have h2 := rws_get tkc_len h1 hj
            have h3 : ∃ v, (tkc z)[j]? = some v := ⟨(tkc z)[j]'hj, List.getElem?_eq_getElem hj⟩
            obtain ⟨v, hv⟩ := h3
            rw [hv] at h2 ⊢
            have := hown.cells (g := g) rfl _ _ h2
            have e : (⟨g, 0, none⟩ : Addr).add (q * 5 + j) = ⟨g, q * 5 + j, none⟩ := by
              unfold Addr.add; split
              · rename_i h; rw [h]
              · simp
            rw [← e]; exact this
          have d0 : W.cell? ⟨g, q * 5, none⟩ = some (.int .i64 (z.k : Int)) := hcell 0 (by decide)
          have d4 : W.cell? ⟨g, q * 5 + 4, none⟩ = some (.int .i64 (z.b : Int)) := hcell 4 (by decide)
          have e4 := own_free hown (q * 5 + 4)
          have hqI : (q : Int) + 1 - 1 = (q : Int) := by omega
          have HQ := Lib.hid hq.symm
          clear hown HOW2 hon hcell hq
          have hq5 : q ≤ 1000000000 := by omega
          by_cases hk : t.k = 0
          · have hkI : (t.k : Int) = 0 := by omega
            by_cases hzk : z.k = 0
            · have hzI : (z.k : Int) = 0 := by omega
              have HADD := Lib.hid (addT_bl (o := o') (z := z) hk hzk)
              go_wp2_with fail
              go_roundw
              case rel =>
                have hq2 := HQ.out
                have h1 := own_setN HOW3.out (q * 5 + 4) (.int .i64 (t.b : Int))
                rw [← hq2, rws_set tkc_len o' z 4 (by decide), hq2] at h1
                exact ⟨t.b, addT (o' ++ [z]) t, rfl, by omega, by have := addT_len (o' ++ [z]) t; rw [List.length_append, List.length_singleton] at this; omega, HN.out, fun e => absurd e (by rw [HADD.out]; simp), by rw [HADD.out, List.length_append, List.length_singleton, HQ.out, rws_app tkc_len, rws_one tkc_len]; exact h1, (HB2W.out).setCell (p := ⟨g, q * 5 + 4, none⟩) hg0 _⟩
              case measure => simp [intOf]; omega
            · have hzI : ¬ (z.k : Int) = 0 := by omega
              have hzb : ((z.k : Int) == 0) = false := beq_eq_false_iff_ne.2 hzI
              have HADD := Lib.hid (addT_no (o := o') (z := z) (t := t) (fun e => hzk e.2))
              go_wp2_with (at_builtin; refine wp_push rfl _ _ 23 rfl w.heap.size tK Tryd.underlying23 inf_tk rfl (by decide) W (.slice (some ⟨g, 0, none⟩) (q + 1) cp) (q + 1) (rws tkc (o' ++ [z])) [.int .i64 0, .string t.t, .string t.u, .int .i64 (t.a : Int), .int .i64 (t.b : Int)] rfl rfl rfl HOW3.out rfl (by simp [Value.oneCell']) (by omega) (by omega) hBW ?_; intro v4 w4 hpush; have HPU := Lib.hid hpush; clear hpush)
              go_roundw
              case rel => exact ⟨t.b, addT (o' ++ [z]) t, rfl, by omega, by have := addT_len (o' ++ [z]) t; rw [List.length_append, List.length_singleton] at this; have hq2 := HQ.out; omega, HN.out, fun e => absurd e (by rw [HADD.out]; simp), by rw [HADD.out, List.length_append, List.length_append, List.length_singleton, List.length_singleton, HQ.out, rws_app tkc_len, rws_one tkc_len]; rw [show tkc t = [.int .i64 0, .string t.t, .string t.u, .int .i64 (t.a : Int), .int .i64 (t.b : Int)] by unfold tkc; rw [hkI]]; exact HPU.out.own, HPU.out.below HB2W.out (Nat.le_refl _) hBW⟩
              case measure => simp [intOf]; omega
          · have hkI : ¬ (t.k : Int) = 0 := by omega
            have hkb : ((t.k : Int) == 0) = false := beq_eq_false_iff_ne.2 hkI
            have HADD := Lib.hid (addT_no (o := o') (z := z) (t := t) (fun e => hk e.1))
            go_wp2_with (at_builtin; refine wp_push rfl _ _ 23 rfl w.heap.size tK Tryd.underlying23 inf_tk rfl (by decide) W (.slice (some ⟨g, 0, none⟩) (q + 1) cp) (q + 1) (rws tkc (o' ++ [z])) (tkc t) rfl rfl rfl HOW3.out rfl (by simp [Value.oneCell', tkc]) (by omega) (by omega) hBW ?_; intro v4 w4 hpush; have HPU := Lib.hid hpush; clear hpush)
            go_roundw
            case rel => exact ⟨t.b, addT (o' ++ [z]) t, rfl, by omega, by have := addT_len (o' ++ [z]) t; rw [List.length_append, List.length_singleton] at this; have hq2 := HQ.out; omega, HN.out, fun e => absurd e (by rw [HADD.out]; simp), by rw [HADD.out, List.length_append, List.length_append, List.length_singleton, List.length_singleton, HQ.out, rws_app tkc_len, rws_one tkc_len]; exact HPU.out.own, HPU.out.below HB2W.out (Nat.le_refl _) hBW⟩
            case measure => simp [intOf]; omega
    · have hki : ¬ (k : Int) < (s.size : Int) := by omega
      have HE : Hid (toks s = o) := by
        obtain ⟨f, _, h4⟩ := HTK.out
        exact h4.trans (tokF_end hlt)
      clear HTK
      go_wp2_with fail
      go_ret
      rw [HE.out]
      exact ⟨_, rfl, HOW.out.1, by omega, HOW.out.2⟩
end Go.Proofs.YtmhejppfjngbhaaDoor
