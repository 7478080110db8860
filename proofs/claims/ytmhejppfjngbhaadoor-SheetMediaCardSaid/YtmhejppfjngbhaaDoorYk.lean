/- sheets: a string's token: the program's -/
import Derived.Test.YtmhejppfjngbhaaDoorYj
import Derived.Handy
namespace Go.Proofs.YtmhejppfjngbhaaDoor
set_option linter.unusedVariables false
set_option linter.unusedSimpArgs false
open Go.RowKit Go.Cas

/-- a token's cells -/
def tkc (t : Tk) : List Value := [.int .i64 (t.k : Int), .string t.t, .string t.u, .int .i64 (t.a : Int), .int .i64 (t.b : Int)]
def tkv (t : Tk) : Value := .agg (tkc t).toArray
theorem strE_cons {s : ByteArray} {q : UInt8} {k : Nat} {o : List UInt8} (h : k < s.size) : strE q (s.data.toList.drop k) k o =
    (if s[k] = q then (o, 0, k + 1) else if s[k] = 10 then (o, 2, k) else if s[k] = 92 then (if k + 1 < s.size then strE q (s.data.toList.drop (k + 2)) (k + 2) (o ++ [bt s (k + 1)]) else (o, 1, k + 1)) else strE q (s.data.toList.drop (k + 1)) (k + 1) (o ++ [s[k]])) := by
  have hd : ∀ j (hj : j < s.size), s.data.toList.drop j = s[j] :: s.data.toList.drop (j + 1) := fun j hj => by
    rw [List.drop_eq_getElem_cons (by simpa using hj)]; rfl
  rw [hd k h]
  by_cases h2 : k + 1 < s.size
  · rw [hd (k + 1) h2, bt_eq h2]
    rw [strE]
    simp only [if_pos h2]
  · rw [List.drop_eq_nil_of_le (by simp; have : s.data.size = s.size := rfl; omega)]
    rw [strE]
    simp only [if_neg h2, strE]
theorem strE_nil {s : ByteArray} {q : UInt8} {o : List UInt8} : strE q (s.data.toList.drop s.size) s.size o = (o, 1, s.size) := by
  rw [List.drop_eq_nil_of_le (by simp)]; rfl
theorem u8ne {a b : UInt8} (h : ¬ a = b) : ¬ (a.toNat : Int) = (b.toNat : Int) := fun e => h (UInt8.toNat_inj.1 (by omega))
theorem strT_of {s : ByteArray} {i : Nat} {o : List UInt8} {n e : Nat} (h : strE (bt s i) (s.data.toList.drop (i + 1)) (i + 1) [] = (o, n, e)) : strT s i = (if n = 2 then ⟨2, ByteArray.empty, ByteArray.empty, i, e⟩ else ⟨1, ⟨(quo o).toArray⟩, ByteArray.empty, i, e⟩) := by
  unfold strT
  rw [h]
  by_cases h2 : n = 2
  · subst h2; rfl
  · rw [if_neg h2]
    split
    · rename_i he; injection he with _ he; injection he with he; exact absurd he h2
    · rename_i he; injection he with h3 he; injection he with _ he; subst h3; subst he; rfl
theorem res_tk {fn : Func} (h : fn.results = #[.cell 4 27]) {tmps : Array Value} {r : Nat} {W : World} {v0 v1 v2 v3 v4 : Value} (ht : tmps[4]?.getD undef = .pointer (some ⟨r, 0, none⟩)) (hb : Bk W r 27 #[v0, v1, v2, v3, v4]) :
    (results fn tmps).run Tryd.prog W = .ok (.agg #[v0, v1, v2, v3, v4]) W := by
  have c0 := hb.cell 0
  have c1 := hb.cell 1
  have c2 := hb.cell 2
  have c3 := hb.cell 3
  have c4 := hb.cell 4
  simp at c0 c1 c2 c3 c4
  simp [results, h, ht, go_sem, c0, c1, c2, c3, c4]
theorem bk_set5 {w : World} {r : Nat} {t : TypeId} {a0 a1 a2 a3 a4 : Value} (h : Bk w r t #[a0, a1, a2, a3, a4]) (v0 v1 v2 v3 v4 : Value) :
    Bk (((((w.setCell ⟨r, 0, none⟩ v0).setCell ⟨r, 1, none⟩ v1).setCell ⟨r, 2, none⟩ v2).setCell ⟨r, 3, none⟩ v3).setCell ⟨r, 4, none⟩ v4) r t #[v0, v1, v2, v3, v4] :=
  ((((h.set_ 0 v0).set_ 1 v1).set_ 2 v2).set_ 3 v3).set_ 4 v4
theorem bl_set5 {B r : Nat} {w0 w : World} (h : Below B w0 w) (hr : B ≤ r) (v0 v1 v2 v3 v4 : Value) :
    Below B w0 (((((w.setCell ⟨r, 0, none⟩ v0).setCell ⟨r, 1, none⟩ v1).setCell ⟨r, 2, none⟩ v2).setCell ⟨r, 3, none⟩ v3).setCell ⟨r, 4, none⟩ v4) :=
  ((((h.setCell (p := ⟨r, 0, none⟩) hr v0).setCell (p := ⟨r, 1, none⟩) hr v1).setCell (p := ⟨r, 2, none⟩) hr v2).setCell (p := ⟨r, 3, none⟩) hr v3).setCell (p := ⟨r, 4, none⟩) hr v4
set_option maxHeartbeats 8000000 in
set_option maxRecDepth 100000 in
theorem c_scanString (s : ByteArray) (i : Nat) (w : World) (hi : i < s.size) (hs : s.size ≤ 1000000000) : Calls Tryd.prog 30 #[.string s, .int .i64 (i : Int)] w fun e w' => e = .returned (tkv (strT s i)) ∧ Below w.heap.size w w' := by
  obtain ⟨q, hq⟩ : ∃ q, q = bt s i := ⟨_, rfl⟩
  have hqI : (s[i].toNat : Int) = (q.toNat : Int) := by rw [hq, bt_eq hi]
  obtain ⟨T, hT⟩ : ∃ T, T = strE q (s.data.toList.drop (i + 1)) (i + 1) [] := ⟨_, rfl⟩
  have HRES : Hid (∀ o n e, T = (o, n, e) → strT s i = (if n = 2 then ⟨2, ByteArray.empty, ByteArray.empty, i, e⟩ else ⟨1, ⟨(quo o).toArray⟩, ByteArray.empty, i, e⟩)) := fun o n e h => strT_of (by rw [← hq, ← hT, h])
  have HT := Lib.hid hT
  obtain ⟨B, hB⟩ : ∃ B, B = w.heap.size + 1 := ⟨_, rfl⟩
  obtain ⟨wa, hwa⟩ : ∃ wa, wa = w.alloc (.cells #[.int .i64 0, .string ⟨#[]⟩, .string ⟨#[]⟩, .int .i64 0, .int .i64 0] 27) := ⟨_, rfl⟩
  have hza : wa.heap.size = B := by rw [hwa, hB, World.size_alloc]
  have hbl : Below w.heap.size w wa := by rw [hwa]; exact bl_alloc (Below.refl _ _) _
  obtain ⟨w1, hw1⟩ : ∃ w1, w1 = wa.alloc (.cells #[.pointer none, .slice none 0 0] tB) := ⟨_, rfl⟩
  have hbi : BI B B [] w1 := by rw [hw1, ← hza]; exact BI.new wa
  have hb1 : Below B wa w1 := by rw [hw1, ← hza]; exact bl_alloc (Below.refl _ _) _
  have hbk : Bk wa w.heap.size 27 #[.int .i64 0, .string ⟨#[]⟩, .string ⟨#[]⟩, .int .i64 0, .int .i64 0] := by
    rw [hwa]; show (w.heap.push _)[w.heap.size]? = _; simp
  have HBK := Lib.hid hbk
  have HS0 : Hid (BI B B [] w1 ∧ Below B wa w1) := ⟨hbi, hb1⟩
  have HBL := Lib.hid hbl
  have HW1 := Lib.hid hw1
  have HWA := Lib.hid hwa
  have HB := Lib.hid hB
  have HZA := Lib.hid hza
  have hiI : (i : Int) < (s.size : Int) := by omega
  have h0I : 0 ≤ (i : Int) := by omega
  have hsI : (s.size : Int) ≤ 1000000000 := by omega
  clear hq hT hw1 hwa hbi hb1 hbk hbl hB hza
  go_enter Tryd.func30, Tryd.ntmps30
  go_upto_region 4 with fail
  rw [← HWA.out, ← HW1.out, ← HB.out]
  go_loopw [7] (fun v wr => ∃ (z : Nat) (o : List UInt8), v = .int .i64 (z : Int) ∧ z ≤ s.size + 1 ∧ o.length + 1 ≤ z ∧ Hid ((z ≤ s.size → T = strE q (s.data.toList.drop z) z o) ∧ (z = s.size + 1 → T = (o, 1, s.size))) ∧ Hid (BI B B o wr ∧ Below B wa wr)) (fun v _ => s.size + 1 - (intOf v).toNat)
  case atStart => exact ⟨i + 1, [], by go_num, by omega, by simp, ⟨fun _ => HT.out, fun e => by omega⟩, HS0.out⟩
  case round =>
    obtain ⟨k, o, rfl, hk, ho, HTT, HS⟩ := hrel
    obtain ⟨r, hr⟩ : ∃ r, r = w.heap.size := ⟨_, rfl⟩
    have hrB : r < B := by rw [hr, HB.out]; omega
    have HBR : Hid (Bk wr r 27 #[.int .i64 0, .string ⟨#[]⟩, .string ⟨#[]⟩, .int .i64 0, .int .i64 0]) := by
      unfold Hid; rw [hr] at hrB ⊢; exact Bk.below HBK.out HS.out.2 hrB
    have HR := Lib.hid hr
    have HRB := Lib.hid hrB
    have hz := HS.out.2.size
    have HBB : Hid (Below w.heap.size w wr) := HBL.out.trans (HS.out.2.mono (by rw [HB.out]; omega))
    rw [HZA.out] at hz
    have hST := Tryd.Builder_String_any B B o wr HS.out.1 hz
    rw [← hr]
    clear hr hrB
    by_cases hlt : k < s.size
    · have hki : (k : Int) < (s.size : Int) := by omega
      have HTC := (HTT.out.1 (by omega)).trans (strE_cons hlt)
      have HQ := Lib.hid (c_Quoted ⟨o.toArray⟩ )
      by_cases hq : s[k] = q
      · rw [if_pos hq] at HTC
        have HF := Lib.hid (HRES.out _ _ _ HTC)
        have hqq : (s[k].toNat : Int) = (q.toNat : Int) := by rw [hq]
        have HST := Lib.hid hST
        clear hq HTC hST
        go_upto_region 9 with fail
        go_wp2_with (first
          | (go_at_call 48; refine (HST.out).mono ?_; rintro e w5 ⟨rfl, hb5⟩; have HB5 := Lib.hid (HBR.out.below hb5 HRB.out); have HB6 := Lib.hid hb5; clear hb5)
          | (go_at_call 47; refine (HQ.out _ (by rw [ba_size]; omega)).mono ?_; rintro e w6 ⟨rfl, hb6⟩; have hb7 := Bk.below HB5.out hb6 HB5.out.lt; have c0 := hb7.cell 0; have c1 := hb7.cell 1; have c2 := hb7.cell 2; have c3 := hb7.cell 3; have c4 := hb7.cell 4; have f0 := hb7.free 0; have f1 := hb7.free 1; have f2 := hb7.free 2; have f3 := hb7.free 3; have f4 := hb7.free 4; have hl7 := hb7.lt; have HB7 := Lib.hid (HB6.out.trans (hb6.mono (Nat.le_trans hz HB6.out.size))); have HB8 := Lib.hid hb7; clear hb6 hb7))
        refine bodyPost_ret (res_tk rfl rfl (bk_set5 HB8.out _ _ _ _ _)) rfl ?_
        rw [HF.out]
        exact ⟨rfl, bl_set5 (HBB.out.trans (HB7.out.mono (by rw [HB.out]; omega))) (by rw [HR.out]; exact Nat.le_refl _) _ _ _ _ _⟩
      · rw [if_neg hq] at HTC
        have hqq : ¬ (s[k].toNat : Int) = (q.toNat : Int) := u8ne hq
        have nq : ((s[k].toNat : Int) == (q.toNat : Int)) = false := beq_eq_false_iff_ne.2 hqq
        clear hq hST
        by_cases h10 : s[k] = 10
        · rw [if_pos h10] at HTC
          have HF := Lib.hid (HRES.out _ _ _ HTC)
          have h10I : (s[k].toNat : Int) = 10 := by rw [h10]; rfl
          have n10 : ¬ (10 : Int) = (q.toNat : Int) := by rw [← h10I]; exact hqq
          have nb10 : ((10 : Int) == (q.toNat : Int)) = false := beq_eq_false_iff_ne.2 n10
          have hb7 := HBR.out
          have c0 := hb7.cell 0
          have c1 := hb7.cell 1
          have c2 := hb7.cell 2
          have c3 := hb7.cell 3
          have c4 := hb7.cell 4
          have f0 := hb7.free 0
          have f1 := hb7.free 1
          have f2 := hb7.free 2
          have f3 := hb7.free 3
          have f4 := hb7.free 4
          have hl7 := hb7.lt
          have HB8 := Lib.hid hb7
          clear h10 HTC hb7
          go_wp2_with fail
          refine bodyPost_ret (res_tk rfl rfl (bk_set5 HB8.out _ _ _ _ _)) rfl ?_
          rw [HF.out]
          exact ⟨rfl, bl_set5 HBB.out (by rw [HR.out]; exact Nat.le_refl _) _ _ _ _ _⟩
        · rw [if_neg h10] at HTC
          have n10 : ¬ (s[k].toNat : Int) = 10 := u8ne (b := 10) h10
          have nb10 : ((s[k].toNat : Int) == 10) = false := beq_eq_false_iff_ne.2 n10
          clear h10
          by_cases h92 : s[k] = 92
          · rw [if_pos h92] at HTC
            have h92I : (s[k].toNat : Int) = 92 := by rw [h92]; rfl
            have n92 : ¬ (92 : Int) = (q.toNat : Int) := by rw [← h92I]; exact hqq
            have nb92 : ((92 : Int) == (q.toNat : Int)) = false := beq_eq_false_iff_ne.2 n92
            clear h92
            by_cases hk1 : k + 1 < s.size
            · rw [if_pos hk1] at HTC
              have HTC2 := Lib.hid HTC
              have HWB := Lib.hid (c_WB HS.out.1 (bt s (k + 1)) (s[k + 1].toNat : Int) (by rw [bt_eq hk1]) (by omega) hz)
              have hk1I : (k : Int) + 1 < (s.size : Int) := by omega
              clear HTC
              go_wp2_with (go_at_call 49; refine (HWB.out).mono ?_; rintro e w4 ⟨⟨u4, rfl⟩, h4, hb4⟩; have H4 := Lib.hid h4; have HB4 := Lib.hid (HS.out.2.trans (hb4)); clear h4 hb4)
              go_roundw
              case rel => exact ⟨k + 2, o ++ [bt s (k + 1)], by go_num, by omega, by rw [List.length_append]; simp; omega, ⟨fun _ => HTC2.out, fun e => by omega⟩, H4.out.i, HB4.out⟩
              case measure => simp [intOf]; omega
            · rw [if_neg hk1] at HTC
              have HTC2 := Lib.hid HTC
              have hk1I : ¬ (k : Int) + 1 < (s.size : Int) := by omega
              clear HTC
              go_wp2_with fail
              go_roundw
              case rel => exact ⟨k + 2, o, by go_num, by omega, by omega, ⟨fun e => by omega, fun _ => by rw [HTC2.out, show k + 1 = s.size by omega]⟩, HS.out⟩
              case measure => simp [intOf]; omega
          · rw [if_neg h92] at HTC
            have n92 : ¬ (s[k].toNat : Int) = 92 := u8ne (b := 92) h92
            have nb92 : ((s[k].toNat : Int) == 92) = false := beq_eq_false_iff_ne.2 n92
            have HTC2 := Lib.hid HTC
            have HWB := Lib.hid (c_WB HS.out.1 s[k] (s[k].toNat : Int) rfl (by omega) hz)
            clear HTC h92
            go_wp2_with (go_at_call 49; refine (HWB.out).mono ?_; rintro e w4 ⟨⟨u4, rfl⟩, h4, hb4⟩; have H4 := Lib.hid h4; have HB4 := Lib.hid (HS.out.2.trans (hb4)); clear h4 hb4)
            go_roundw
            case rel => exact ⟨k + 1, o ++ [s[k]], by go_num, by omega, by rw [List.length_append]; simp; omega, ⟨fun _ => HTC2.out, fun e => by omega⟩, H4.out.i, HB4.out⟩
            case measure => simp [intOf]; omega
    · have hki : ¬ (k : Int) < (s.size : Int) := by omega
      have hTT : T = (o, 1, s.size) := by
        by_cases e : k = s.size + 1
        · exact HTT.out.2 e
        · rw [HTT.out.1 (by omega), show k = s.size by omega]; exact strE_nil
      have HF := Lib.hid (HRES.out _ _ _ hTT)
      have HQ := Lib.hid (c_Quoted ⟨o.toArray⟩ )
      have HST := Lib.hid hST
      have hoz : o.length ≤ 1000000000 := by
        omega
      clear hTT hST
      go_upto_region 16 with fail
      go_wp2_with (first
        | (go_at_call 48; refine (HST.out).mono ?_; rintro e w5 ⟨rfl, hb5⟩; have HB5 := Lib.hid (HBR.out.below hb5 HRB.out); have HB6 := Lib.hid hb5; clear hb5)
        | (go_at_call 47; refine (HQ.out _ (by rw [ba_size]; omega)).mono ?_; rintro e w6 ⟨rfl, hb6⟩; have hb7 := Bk.below HB5.out hb6 HB5.out.lt; have c0 := hb7.cell 0; have c1 := hb7.cell 1; have c2 := hb7.cell 2; have c3 := hb7.cell 3; have c4 := hb7.cell 4; have f0 := hb7.free 0; have f1 := hb7.free 1; have f2 := hb7.free 2; have f3 := hb7.free 3; have f4 := hb7.free 4; have hl7 := hb7.lt; have HB7 := Lib.hid (HB6.out.trans (hb6.mono (Nat.le_trans hz HB6.out.size))); have HB8 := Lib.hid hb7; clear hb6 hb7))
      refine bodyPost_ret (res_tk rfl rfl (bk_set5 HB8.out _ _ _ _ _)) rfl ?_
      rw [HF.out]
      exact ⟨rfl, bl_set5 (HBB.out.trans (HB7.out.mono (by rw [HB.out]; omega))) (by rw [HR.out]; exact Nat.le_refl _) _ _ _ _ _⟩
end Go.Proofs.YtmhejppfjngbhaaDoor
