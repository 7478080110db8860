/- sheets: a string's token: the document's -/
import Derived.Test.YtmhejppfjngbhaaDoorYk
namespace Go.Proofs.YtmhejppfjngbhaaDoor
set_option linter.unusedVariables false
set_option linter.unusedSimpArgs false
open Go.RowKit Go.Cas

/-- a token's kind by a word -/
def kdS : Nat → ByteArray
  | 0 => ⟨#[98, 108, 97, 110, 107]⟩
  | 1 => ⟨#[115, 116, 114, 105, 110, 103]⟩
  | 2 => ⟨#[98, 97, 100]⟩
  | 3 => ⟨#[110, 117, 109, 98, 101, 114]⟩
  | 4 => ⟨#[112, 97, 114, 116]⟩
  | 5 => ⟨#[100, 105, 109]⟩
  | 6 => ⟨#[110, 97, 109, 101]⟩
  | 7 => ⟨#[102, 117, 110, 99]⟩
  | 8 => ⟨#[104, 97, 115, 104]⟩
  | 9 => ⟨#[97, 116]⟩
  | _ => ⟨#[115, 105, 103, 110]⟩
/-- a token's cells: the document's -/
def rkc (t : Tk) : List Value := [.string (kdS t.k), .string t.t, .string t.u, .int .i64 (t.a : Int), .int .i64 (t.b : Int)]
def rkv (t : Tk) : Value := .agg (rkc t).toArray
theorem res_rk {fn : Func} (h : fn.results = #[.cell 4 47]) {tmps : Array Value} {r : Nat} {W : World} {v0 v1 v2 v3 v4 : Value} (ht : tmps[4]?.getD undef = .pointer (some ⟨r, 0, none⟩)) (hb : Bk W r 47 #[v0, v1, v2, v3, v4]) :
    (results fn tmps).run Tryd.prog W = .ok (.agg #[v0, v1, v2, v3, v4]) W := by
  have c0 := hb.cell 0
  have c1 := hb.cell 1
  have c2 := hb.cell 2
  have c3 := hb.cell 3
  have c4 := hb.cell 4
  simp at c0 c1 c2 c3 c4
  simp [results, h, ht, go_sem, c0, c1, c2, c3, c4]
theorem fin_rk {s : ByteArray} {i r : Nat} {w wr : World} {t5 : Tk} (HBK : Hid (Bk wr r 47 #[.string ⟨#[]⟩, .string ⟨#[]⟩, .string ⟨#[]⟩, .int .i64 0, .int .i64 0])) (HBB : Hid (Below w.heap.size w wr)) (HR : Hid (r = w.heap.size)) (HF : Hid (strT s i = t5)) (n : Nat) {fn : Func} {a : Act} {v0 v1 v2 v3 v4 : Value}
    (hr : fn.results = #[.cell 4 47]) (ht : a.tmps[4]?.getD undef = .pointer (some ⟨r, 0, none⟩)) (hd : a.defers = []) (h0 : v0 = .string (kdS t5.k)) (h1 : v1 = .string t5.t) (h2 : v2 = .string t5.u) (h34 : (v3, v4) = (.int .i64 (t5.a : Int), .int .i64 (t5.b : Int))) :
    bodyPost Tryd.prog fn (fun e w' => e = .returned (rkv (strT s i)) ∧ Below w.heap.size w w') .ret a ((((((wr.drewN n).setCell ⟨r, 0, none⟩ v0).setCell ⟨r, 1, none⟩ v1).setCell ⟨r, 2, none⟩ v2).setCell ⟨r, 3, none⟩ v3).setCell ⟨r, 4, none⟩ v4) := by
  injection h34 with h3 h4
  refine bodyPost_ret (res_rk hr ht (bk_set5 (HBK.out.drewN n) _ _ _ _ _)) hd ?_
  rw [HF.out]
  subst h0 h1 h2 h3 h4
  exact ⟨rfl, bl_set5 (bl_drewN HBB.out _) (by rw [HR.out]; exact Nat.le_refl _) _ _ _ _ _⟩
set_option maxHeartbeats 8000000 in
set_option maxRecDepth 100000 in
theorem c_rString (s : ByteArray) (i : Nat) (w : World) (hi : i < s.size) (hs : s.size ≤ 1000000000) : Calls Tryd.prog 38 #[.string s, .int .i64 (i : Int)] w fun e w' => e = .returned (rkv (strT s i)) ∧ Below w.heap.size w w' := by
  obtain ⟨q, hq⟩ : ∃ q, q = bt s i := ⟨_, rfl⟩
  have hqI : (s[i].toNat : Int) = (q.toNat : Int) := by rw [hq, bt_eq hi]
  obtain ⟨T, hT⟩ : ∃ T, T = strE q (s.data.toList.drop (i + 1)) (i + 1) [] := ⟨_, rfl⟩
  have HRES : Hid (∀ o n e, T = (o, n, e) → strT s i = (if n = 2 then ⟨2, ByteArray.empty, ByteArray.empty, i, e⟩ else ⟨1, ⟨(quo o).toArray⟩, ByteArray.empty, i, e⟩)) := fun o n e h => strT_of (by rw [← hq, ← hT, h])
  have HT := Lib.hid hT
  obtain ⟨r, hr⟩ : ∃ r, r = w.heap.size := ⟨_, rfl⟩
  obtain ⟨wa, hwa⟩ : ∃ wa, wa = w.alloc (.cells #[.string ⟨#[]⟩, .string ⟨#[]⟩, .string ⟨#[]⟩, .int .i64 0, .int .i64 0] 47) := ⟨_, rfl⟩
  have hbl : Below w.heap.size w wa := by rw [hwa]; exact bl_alloc (Below.refl _ _) _
  have hbk : Bk wa r 47 #[.string ⟨#[]⟩, .string ⟨#[]⟩, .string ⟨#[]⟩, .int .i64 0, .int .i64 0] := by
    rw [hwa, hr]; show (w.heap.push _)[w.heap.size]? = _; simp
  have HBK := Lib.hid hbk
  have HBL := Lib.hid hbl
  have HWA := Lib.hid hwa
  have HR := Lib.hid hr
  have hiI : (i : Int) < (s.size : Int) := by omega
  have h0I : 0 ≤ (i : Int) := by omega
  have hsI : (s.size : Int) ≤ 1000000000 := by omega
  clear hq hT hwa hbk hbl hr
  go_enter Tryd.func38, Tryd.ntmps38
  go_upto_region 3 with fail
  rw [← HWA.out, ← HR.out]
  go_loopw [5, 6] (fun u v wr => ∃ (z : Nat) (o : List UInt8), v = .int .i64 (z : Int) ∧ u = .string ⟨o.toArray⟩ ∧ z ≤ s.size ∧ o.length + 1 ≤ z ∧ Hid (T = strE q (s.data.toList.drop z) z o) ∧ Hid (Bk wr r 47 #[.string ⟨#[]⟩, .string ⟨#[]⟩, .string ⟨#[]⟩, .int .i64 0, .int .i64 0] ∧ Below w.heap.size w wr)) (fun _ v _ => s.size + 1 - (intOf v).toNat)
  case atStart => exact ⟨i + 1, [], by go_num, rfl, by omega, by simp, HT.out, HBK.out, HBL.out⟩
  case round =>
    obtain ⟨k, o, rfl, rfl, hk, ho, HTT, HWR⟩ := hrel
    have HQ := Lib.hid (fun x => c_rQuote ⟨o.toArray⟩ x (by rw [ba_size]; omega))
    obtain ⟨O, hO⟩ : ∃ O : ByteArray, O = ⟨o.toArray⟩ := ⟨_, rfl⟩
    have hOz : O.size + 1 ≤ k := by rw [hO, ba_size]; omega
    rw [show (⟨o.toArray⟩ : ByteArray).data.toList = o by simp] at HQ
    rw [← hO] at HQ ⊢
    have HO := Lib.hid hO
    have hb7 := HWR.out.1
    have c0 := hb7.cell 0
    have c1 := hb7.cell 1
    have c2 := hb7.cell 2
    have c3 := hb7.cell 3
    have c4 := hb7.cell 4
    have f0 := hb7.free 0
    have f1 := hb7.free 1
    have f2 := hb7.free 2
    have f3 := hb7.free 3
    have f4 := hb7.free 4
    have hl7 := hb7.lt
    have HBK := Lib.hid hb7
    have HBB := Lib.hid HWR.out.2
    clear hO hb7 HWR
    by_cases hlt : k < s.size
    · have hki : (k : Int) < (s.size : Int) := by omega
      have hk0 : 0 ≤ (k : Int) := by omega
      have HTC := HTT.out.trans (strE_cons hlt)
      by_cases hq : s[k] = q
      · rw [if_pos hq] at HTC
        have HF := Lib.hid (HRES.out _ _ _ HTC)
        have hqq : (s[k].toNat : Int) = (q.toNat : Int) := by rw [hq]
        clear hq HTC
        go_wp2_with fail
        go_quiet (fail)
        go_wp2_with fail
        go_quiet (fail)
        go_wp2_with (go_at_call 56; refine (HQ.out _).mono ?_; rintro e w6 ⟨rfl, rfl⟩)
        first
          | exact fin_rk HBK HBB HR HF _ rfl rfl rfl rfl rfl rfl rfl
          | trace_state
      · rw [if_neg hq] at HTC
        have hqq : ¬ (s[k].toNat : Int) = (q.toNat : Int) := u8ne hq
        have nq0 : ((s[k].toNat : Int) == (q.toNat : Int)) = false := beq_eq_false_iff_ne.2 hqq
        have nq1 : ((s[k].toNat : Int) != (q.toNat : Int)) = true := by rw [bne, nq0]; rfl
        clear hq
        by_cases h10 : s[k] = 10
        · rw [if_pos h10] at HTC
          have HF := Lib.hid (HRES.out _ _ _ HTC)
          have h10I : (s[k].toNat : Int) = 10 := by rw [h10]; rfl
          have n10 : ¬ (10 : Int) = (q.toNat : Int) := by rw [← h10I]; exact hqq
          have nb10 : ((10 : Int) == (q.toNat : Int)) = false := beq_eq_false_iff_ne.2 n10
          have nc10 : ((10 : Int) != (q.toNat : Int)) = true := by rw [bne, nb10]; rfl
          clear h10 HTC
          go_wp2_with fail
          go_quiet (fail)
          go_wp2_with fail
          go_quiet (fail)
          go_wp2_with fail
          first
            | exact fin_rk HBK HBB HR HF _ rfl rfl rfl rfl rfl rfl rfl
            | trace_state
        · rw [if_neg h10] at HTC
          have n10 : ¬ (s[k].toNat : Int) = 10 := u8ne (b := 10) h10
          have nb10 : ((s[k].toNat : Int) == 10) = false := beq_eq_false_iff_ne.2 n10
          have nc10 : ((s[k].toNat : Int) != 10) = true := by rw [bne, nb10]; rfl
          have hkk : (k : Int) ≤ (k : Int) + 1 := by omega
          have hki1 : (k : Int) + 1 ≤ (s.size : Int) := by omega
          clear h10
          by_cases h92 : s[k] = 92
          · rw [if_pos h92] at HTC
            have h92I : (s[k].toNat : Int) = 92 := by rw [h92]; rfl
            have n92 : ¬ (92 : Int) = (q.toNat : Int) := by rw [← h92I]; exact hqq
            have nb92 : ((92 : Int) == (q.toNat : Int)) = false := beq_eq_false_iff_ne.2 n92
            have nc92 : ((92 : Int) != (q.toNat : Int)) = true := by rw [bne, nb92]; rfl
            clear h92
            by_cases hk1 : k + 1 < s.size
            · rw [if_pos hk1] at HTC
              have HTC2 := Lib.hid HTC
              have HX : Hid (Value.string (O ++ s.extract (k + 1) (k + 1 + 1)) = .string ⟨(o ++ [bt s (k + 1)]).toArray⟩) := by
                unfold Hid
                rw [ext_one hk1, HO.out, bt_eq hk1]
                show Value.string ((⟨_⟩ : ByteArray) ++ ⟨[s[k + 1]].toArray⟩) = _
                rw [ba_app]
              have hk1I : (k : Int) + 1 < (s.size : Int) := by omega
              have hk1n : ¬ (k : Int) + 1 = (s.size : Int) := by omega
              have hk1b : ((k : Int) + 1 == (s.size : Int)) = false := beq_eq_false_iff_ne.2 hk1n
              have hk2 : (k : Int) + 1 + 1 ≤ (s.size : Int) := by omega
              have hkk2 : (k : Int) + 1 ≤ (k : Int) + 1 + 1 := by omega
              have hk00 : 0 ≤ (k : Int) + 1 := by omega
              clear HTC
              go_wp2_with fail
              go_quiet (fail)
              go_wp2_with fail
              go_roundw
              case rel => exact ⟨k + 2, o ++ [bt s (k + 1)], by go_num, HX.out, by omega, by rw [List.length_append]; simp; omega, HTC2.out, HBK.out.drewN _, bl_drewN HBB.out _⟩
              case measure => simp [intOf]; omega
            · rw [if_neg hk1] at HTC
              have HF := Lib.hid (HRES.out _ _ _ HTC)
              have hk1I : (k : Int) + 1 = (s.size : Int) := by omega
              have HF2 : Hid (strT s i = ⟨1, ⟨(quo o).toArray⟩, ByteArray.empty, i, s.size⟩) := by rw [Hid, HF.out, show k + 1 = s.size by omega]; rfl
              have hkn : ¬ (s.size : Int) < (s.size : Int) := by omega
              clear HTC HF
              go_wp2_with fail
              go_quiet (fail)
              go_wp2_with fail
              go_quiet (fail)
              go_wp2_with (go_at_call 56; refine (HQ.out _).mono ?_; rintro e w6 ⟨rfl, rfl⟩)
              first
                | exact fin_rk HBK HBB HR HF2 _ rfl rfl rfl rfl rfl rfl rfl
                | trace_state
          · rw [if_neg h92] at HTC
            have n92 : ¬ (s[k].toNat : Int) = 92 := u8ne (b := 92) h92
            have nb92 : ((s[k].toNat : Int) == 92) = false := beq_eq_false_iff_ne.2 n92
            have HTC2 := Lib.hid HTC
            have HX : Hid (Value.string (O ++ s.extract k (k + 1)) = .string ⟨(o ++ [s[k]]).toArray⟩) := by
              unfold Hid
              rw [ext_one hlt, HO.out]
              show Value.string ((⟨_⟩ : ByteArray) ++ ⟨[s[k]].toArray⟩) = _
              rw [ba_app]
            clear HTC h92
            go_wp2_with fail
            go_quiet (fail)
            go_wp2_with fail
            go_roundw
            case rel => exact ⟨k + 1, o ++ [s[k]], by go_num, HX.out, by omega, by rw [List.length_append]; simp; omega, HTC2.out, HBK.out.drewN _, bl_drewN HBB.out _⟩
            case measure => simp [intOf]; omega
    · obtain rfl : k = s.size := by omega
      have hki : ¬ (s.size : Int) < (s.size : Int) := by omega
      have hTT := HTT.out.trans strE_nil
      have HF := Lib.hid (HRES.out _ _ _ hTT)
      clear hTT
      go_wp2_with fail
      go_quiet (fail)
      go_wp2_with fail
      go_quiet (fail)
      go_wp2_with (go_at_call 56; refine (HQ.out _).mono ?_; rintro e w6 ⟨rfl, rfl⟩)
      first
        | exact fin_rk HBK HBB HR HF _ rfl rfl rfl rfl rfl rfl rfl
        | trace_state
end Go.Proofs.YtmhejppfjngbhaaDoor
