/- the document's turn of a node -/
import Derived.Test.YtimlmekgapdkiaaDoorFr
namespace Go.Proofs.YtimlmekgapdkiaaDoor
set_option linter.unusedVariables false
set_option linter.unusedSimpArgs false
open Go.RowKit Go.Cas

def tuP (p : Int × Bool) : Int := if p.2 then p.1 else -1
theorem tuN_eq (x : Nod) : tuN x = tuP (ixN x) := rfl
theorem fnd_some {l : List (ByteArray × ByteArray)} {s v : ByteArray} (h : atv l s = some v) : ∃ k : Nat, fnd l s = (k : Int) ∧ ∃ a, l[k]? = some (a, v) := by
  obtain ⟨k, h1, ⟨a, b⟩, h2, rfl⟩ := atv_hit l s v h
  exact ⟨k, h1, a, h2⟩
def TuRet (t : Int) (w : World) (e : Ending) (w' : World) : Prop := e = .returned (.int .i64 t) ∧ Below w.heap.size w w'
set_option maxRecDepth 100000 in
set_option maxHeartbeats 8000000 in
theorem c_turn {w : World} {B R L cap i : Nat} {τ : Nat → Nat} {M : List NV} {y : NV} (h : RT B R L cap 0 (.slice none 0 0) [] τ M w) (hM : M.length ≤ 400) (hy : M[i]? = some y) (hk : y.x.at_.length ≤ 1000000) (hv : ∀ nm v, atv y.x.at_ nm = some v → v.size ≤ 20000) :
    Calls Tryd.prog 78 #[.agg #[.slice (some ⟨L, 0, none⟩) M.length cap, .slice none 0 0], .int .i64 (i : Int)] w (TuRet (tuN y.x) w) := by
  obtain ⟨⟨a0, a1, a2⟩, a3, a4, a5⟩ := h.cell hy
  have hrL := h.ltL
  have hrd := RdS.of_own (h.at_ i y hy)
  have hiM := (List.getElem?_eq_some_iff.1 hy).1
  have hii : (i : Int) < (M.length : Int) := by omega
  obtain ⟨_, Aa, ca, hva, _, _⟩ := id hrd
  obtain ⟨_, Ak, ck, hvk, _, _⟩ := h.ki i y hy
  obtain ⟨nk, hnk⟩ : ∃ nk, nk = y.x.ki.length := ⟨_, rfl⟩
  rw [hvk, ← hnk] at a5
  rw [hva] at a3 hrd
  obtain ⟨n, hn⟩ : ∃ n, n = M.length := ⟨_, rfl⟩
  rw [← hn] at hii hM hiM ⊢
  obtain ⟨x, hx⟩ : ∃ x, x = y.x := ⟨_, rfl⟩
  rw [← hx] at a0 a1 a2 a3 a4 hk hv hrd ⊢
  have HRD := Lib.hid hrd
  obtain ⟨na, hna⟩ : ∃ na, na = x.at_.length := ⟨_, rfl⟩
  rw [← hna] at a3 hk HRD
  have HV := Lib.hid hv
  clear h hy hn hx hv hva hvk hna hnk hrd
  go_enter Tryd.func78, Tryd.ntmps78
  go_upto_region 2 with fail
  obtain ⟨wb, hwb⟩ : ∃ wb, wb = w.alloc (.cells #[.slice (some ⟨L, 0, none⟩) n cap, .slice none 0 0] 36) := ⟨_, rfl⟩
  rw [← hwb]
  obtain ⟨wq, hwq⟩ : ∃ wq, wq = wb.alloc (.cells #[.int .i64 x.k, .string x.tag, .string x.txt, .slice Aa na ca, .int .i64 x.pa, .slice Ak nk ck] 105) := ⟨_, rfl⟩
  rw [← hwq]
  obtain ⟨gq, hgq⟩ : ∃ gq, gq = w.heap.size + 1 := ⟨_, rfl⟩
  rw [← hgq]
  have hbb : Below w.heap.size w wb := by rw [hwb]; exact bl_alloc (Below.refl _ _) _
  have hbq : Below w.heap.size w wq := by rw [hwq]; exact bl_alloc hbb _
  have hnd : Bk wq gq 105 #[.int .i64 x.k, .string x.tag, .string x.txt, .slice Aa na ca, .int .i64 x.pa, .slice Ak nk ck] := by rw [hwq]; exact bk_new' _ _ _ (by rw [hgq, hwb]; simp)
  have HBQ := Lib.hid hbq
  have n0 := hnd.cell 0
  have n1 := hnd.cell 1
  have n3 := hnd.cell 3
  have hgl := hnd.lt
  have HRQ : Hid (RdS wq w.heap.size 2 (.slice Aa na ca) na (atc x.at_)) := HRD.out.below hbq
  have hlim : w.heap.size ≤ wq.heap.size := hbq.size
  have HAT : Hid (∀ nm, Calls Tryd.prog 92 #[.slice Aa na ca, .string nm] wq fun e w' => e = .returned (.int .i64 (fnd x.at_ nm)) ∧ wq = w') := fun nm => c_rAt HRQ.out (by omega) hlim
  clear hwb hwq hgq hbb hbq hnd a0 a1 a2 a3 a4 a5 hrL hii hiM hM HRD
  by_cases h2 : x.k = 2
  case neg =>
    have HX : Hid (tuN x = -1) := by unfold Hid; rw [tuN_eq]; unfold ixN; rw [if_pos h2]; rfl
    have b2 : (x.k != 2) = true := by rw [bne_iff_ne]; exact h2
    obtain ⟨xk, hxk⟩ : ∃ xk, xk = x.k := ⟨_, rfl⟩
    rw [← hxk] at b2 h2 n0
    clear hxk
    go_wp2_with fail
    go_ret
    exact ⟨ret_int HX.out.symm, HBQ.out⟩
  rw [h2] at n0
  cases hdis : atv x.at_ bDis with
  | some dv =>
    have HX : Hid (tuN x = -1) := by unfold Hid; rw [tuN_eq]; unfold ixN; rw [if_neg (fun h => h h2), hdis]; rfl
    obtain ⟨kd, hkd, _⟩ := fnd_some hdis
    have HA := Lib.hid (HAT.out bDis)
    rw [hkd] at HA
    have h0 : 0 ≤ (kd : Int) := by omega
    clear h2 hdis hkd
    go_wp2_with (go_at_call 92; refine (HA.out).mono ?_; rintro e w' ⟨rfl, rfl⟩)
    go_ret
    exact ⟨ret_int HX.out.symm, HBQ.out⟩
  | none =>
    have HA := Lib.hid (HAT.out bDis)
    rw [atv_none _ _ hdis] at HA
    cases htab : atv x.at_ bTab with
    | none =>
      have HXN : Hid (tuN x = if x.tag = bBut ∨ x.tag = bInp ∨ x.tag = bSel then 0 else if x.tag = bA ∧ (atv x.at_ bHref).isSome = true then 0 else -1) := by
        unfold Hid; rw [tuN_eq]; unfold ixN; rw [if_neg (fun h => h h2), hdis, htab]
        show tuP (if x.tag = bBut ∨ x.tag = bInp ∨ x.tag = bSel then (0, true) else if x.tag = bA then (0, (atv x.at_ bHref).isSome) else (0, false)) = _
        split
        · rfl
        · split
          · rename_i h; cases (atv x.at_ bHref).isSome <;> simp [tuP, h]
          · rename_i h; simp [tuP, h]
      have HAB := Lib.hid (HAT.out bTab)
      rw [atv_none _ _ htab] at HAB
      have HHR : Hid (((atv x.at_ bHref).isSome = true ∧ ∃ k : Nat, fnd x.at_ bHref = (k : Int)) ∨ ((atv x.at_ bHref).isSome = false ∧ fnd x.at_ bHref = -1)) := by
        cases hh : atv x.at_ bHref with
        | none => exact .inr ⟨rfl, atv_none _ _ hh⟩
        | some v => obtain ⟨k, e, _⟩ := fnd_some hh; exact .inl ⟨rfl, k, e⟩
      have HAH := Lib.hid (HAT.out bHref)
      obtain ⟨fh, hfh⟩ : ∃ fh, fh = fnd x.at_ bHref := ⟨_, rfl⟩
      rw [← hfh] at HAH HHR
      obtain ⟨hr, hhr⟩ : ∃ hr, hr = (atv x.at_ bHref).isSome := ⟨_, rfl⟩
      rw [← hhr] at HXN HHR
      obtain ⟨tg, htg⟩ : ∃ tg, tg = x.tag := ⟨_, rfl⟩
      rw [← htg] at HXN n1
      clear h2 hdis htab HAT hfh hhr htg HV HRQ
      have t1 := tst_str tg bBut [98, 117, 116, 116, 111, 110] rfl
      have t2 := tst_str tg bInp [105, 110, 112, 117, 116] rfl
      have t3 := tst_str tg bSel [115, 101, 108, 101, 99, 116] rfl
      have t4 := tst_str tg bA [97] rfl
      by_cases c1 : tg = bBut
      · rw [decide_eq_true c1] at t1
        have HI : Hid (tuN x = 0) := by unfold Hid; rw [HXN.out, if_pos (.inl c1)]
        clear t2 t3 t4 c1 HXN
        go_wp2_with (first
          | (go_at_call 92; (with_reducible refine (HA.out).mono ?_); rintro e w' ⟨rfl, rfl⟩)
          | (go_at_call 92; (with_reducible refine (HAB.out).mono ?_); rintro e w' ⟨rfl, rfl⟩))
        go_ret
        exact ⟨ret_int HI.out.symm, HBQ.out⟩
      rw [decide_eq_false c1] at t1
      by_cases c2 : tg = bInp
      · rw [decide_eq_true c2] at t2
        have HI : Hid (tuN x = 0) := by unfold Hid; rw [HXN.out, if_pos (.inr (.inl c2))]
        clear t3 t4 c1 c2 HXN
        go_wp2_with (first
          | (go_at_call 92; (with_reducible refine (HA.out).mono ?_); rintro e w' ⟨rfl, rfl⟩)
          | (go_at_call 92; (with_reducible refine (HAB.out).mono ?_); rintro e w' ⟨rfl, rfl⟩))
        go_ret
        exact ⟨ret_int HI.out.symm, HBQ.out⟩
      rw [decide_eq_false c2] at t2
      by_cases c3 : tg = bSel
      · rw [decide_eq_true c3] at t3
        have HI : Hid (tuN x = 0) := by unfold Hid; rw [HXN.out, if_pos (.inr (.inr c3))]
        clear t4 c1 c2 c3 HXN
        go_wp2_with (first
          | (go_at_call 92; (with_reducible refine (HA.out).mono ?_); rintro e w' ⟨rfl, rfl⟩)
          | (go_at_call 92; (with_reducible refine (HAB.out).mono ?_); rintro e w' ⟨rfl, rfl⟩))
        go_ret
        exact ⟨ret_int HI.out.symm, HBQ.out⟩
      rw [decide_eq_false c3] at t3
      have hno : ¬ (tg = bBut ∨ tg = bInp ∨ tg = bSel) := fun h => h.elim c1 (fun h => h.elim c2 c3)
      by_cases c4 : tg = bA
      · rw [decide_eq_true c4] at t4
        rcases HHR.out with ⟨hr1, kh, hkh⟩ | ⟨hr1, hkh⟩
        · have HI : Hid (tuN x = 0) := by unfold Hid; rw [HXN.out, if_neg hno, if_pos ⟨c4, hr1⟩]
          have h0 : 0 ≤ (kh : Int) := by omega
          rw [hkh] at HAH
          clear c1 c2 c3 c4 hno HXN HHR hkh
          go_wp2_with (first
            | (go_at_call 92; (with_reducible refine (HA.out).mono ?_); rintro e w' ⟨rfl, rfl⟩)
            | (go_at_call 92; (with_reducible refine (HAB.out).mono ?_); rintro e w' ⟨rfl, rfl⟩)
            | (go_at_call 92; (with_reducible refine (HAH.out).mono ?_); rintro e w' ⟨rfl, rfl⟩))
          go_ret
          exact ⟨ret_int HI.out.symm, HBQ.out⟩
        · have HI : Hid (tuN x = -1) := by unfold Hid; rw [HXN.out, if_neg hno, if_neg (by rw [hr1]; simp)]
          rw [hkh] at HAH
          clear c1 c2 c3 c4 hno HXN HHR hkh
          go_wp2_with (first
            | (go_at_call 92; (with_reducible refine (HA.out).mono ?_); rintro e w' ⟨rfl, rfl⟩)
            | (go_at_call 92; (with_reducible refine (HAB.out).mono ?_); rintro e w' ⟨rfl, rfl⟩)
            | (go_at_call 92; (with_reducible refine (HAH.out).mono ?_); rintro e w' ⟨rfl, rfl⟩))
          go_ret
          exact ⟨ret_int HI.out.symm, HBQ.out⟩
      · rw [decide_eq_false c4] at t4
        have HI : Hid (tuN x = -1) := by unfold Hid; rw [HXN.out, if_neg hno, if_neg (fun h => c4 h.1)]
        clear c1 c2 c3 c4 hno HXN
        go_wp2_with (first
          | (go_at_call 92; (with_reducible refine (HA.out).mono ?_); rintro e w' ⟨rfl, rfl⟩)
          | (go_at_call 92; (with_reducible refine (HAB.out).mono ?_); rintro e w' ⟨rfl, rfl⟩))
        go_ret
        exact ⟨ret_int HI.out.symm, HBQ.out⟩
    | some s =>
      have HXS : Hid (tuN x = tuP (ixS s)) := by unfold Hid; rw [tuN_eq]; unfold ixN; rw [if_neg (fun h => h h2), hdis, htab]; rfl
      obtain ⟨kt, hkt, an, hat⟩ := fnd_some htab
      have HAB := Lib.hid (HAT.out bTab)
      rw [hkt] at HAB
      obtain ⟨g, o, hA, hg, hc⟩ := rd_at HRQ.out hat
      subst hA
      obtain ⟨_, c1⟩ := hc wq (Below.refl _ _)
      have hktn : (kt : Int) < (na : Int) := by
        have h1 := (List.getElem?_eq_some_iff.1 hat).1
        have h3 := HRQ.out.1
        rw [atc_len] at h3
        omega
      have hkt0 : ¬ (kt : Int) < 0 := by omega
      have hgq2 : g < wq.heap.size := Nat.lt_of_lt_of_le hg hlim
      have hsz : s.size ≤ 20000 := HV.out _ _ htab
      have hszi : (s.size : Int) ≤ 20000 := by omega
      clear h2 hdis htab HAT HV HRQ hat hkt hc n1
      go_upto_region 10 with (first
          | (go_at_call 92; (with_reducible refine (HA.out).mono ?_); rintro e w' ⟨rfl, rfl⟩)
          | (go_at_call 92; (with_reducible refine (HAB.out).mono ?_); rintro e w' ⟨rfl, rfl⟩))
      clear HA HAB n0 n3
      by_cases h0 : s.size = 0
      · have hse : s = ByteArray.empty := by
          rw [← ByteArray.size_eq_zero_iff]; exact h0
        subst hse
        have HI : Hid (tuN x = -1) := by unfold Hid; rw [HXS.out]; decide
        clear HXS h0 hsz hszi
        go_wp2_with fail
        go_ret
        exact ⟨ret_int HI.out.symm, HBQ.out⟩
      have hp : 0 < s.size := by omega
      have hpi : 0 < (s.size : Int) := by omega
      have HE : Hid (s.data.toList.head? = some s[0]) := by
        unfold Hid
        rw [List.head?_eq_getElem?, List.getElem?_eq_getElem (by simpa using hp)]; rfl
      have HNG : Hid (negL s.data.toList = decide (s[0].toNat = 45)) := by
        unfold Hid negL
        rw [HE.out, Bool.eq_iff_iff, decide_eq_true_eq, decide_eq_true_eq, Option.some.injEq]
        constructor
        · intro h; rw [h]; rfl
        · intro h; exact UInt8.toNat_inj.1 h
      go_cut [8] (fun v8 wx => v8 = .bool (negL s.data.toList) ∧ wx = wq)
      case first =>
        by_cases h45 : s[0].toNat = 45
        · have b45 : ((s[0].toNat : Int) == 45) = true := by rw [beq_iff_eq]; omega
          have b46 : (s[0].toNat : Int) = 45 := by omega
          go_wp2_with fail
          go_meet
          exact ⟨by rw [HNG.out, decide_eq_true h45], rfl⟩
        · have b45 : ((s[0].toNat : Int) == 45) = false := by rw [beq_eq_false_iff_ne]; omega
          have b46 : ¬ (s[0].toNat : Int) = 45 := by omega
          go_wp2_with fail
          go_meet
          exact ⟨by rw [HNG.out, decide_eq_false h45], rfl⟩
      case rest =>
        obtain ⟨rfl, hwc⟩ := hcut
        obtain rfl : wq = wc := hwc.symm
        obtain ⟨nb, hnb⟩ : ∃ nb, nb = negL s.data.toList := ⟨_, rfl⟩
        rw [← hnb]
        have HNB := Lib.hid hnb
        clear hnb
        go_upto_if 68 with fail
        go_cut [7, 8] (fun v7 v8 wx => ∃ t, v7 = .string t ∧ v8 = .bool nb ∧ Hid (ixS s = ixL nb t.data.toList) ∧ t.size ≤ 20000 ∧ Hid (Below w.heap.size w wx))
        case first =>
          cases nb
          · go_wp2_with fail
            go_meet
            refine ⟨s, rfl, rfl, ?_, hsz, HBQ.out⟩
            unfold ixS
            rw [← HNB.out]; rfl
          · have h1s : 1 ≤ s.size := hp
            have h1i : (1 : Int) ≤ (s.size : Int) := by omega
            go_wp2_with fail
            go_meet
            refine ⟨s.extract 1 s.size, rfl, rfl, ?_, by simp; omega, HBQ.out⟩
            unfold ixS
            rw [← HNB.out]
            simp only [Lib.extract_data, if_pos]
            unfold Hid
            congr 1
            simp
            exact (List.take_of_length_le (by simp)).symm
        case rest =>
          obtain ⟨t, rfl, rfl, HIX, ht20, HBw⟩ := hcut
          have hti : (t.size : Int) ≤ 20000 := by omega
          have htl : t.data.toList.length = t.size := by simp
          have HXT : Hid (tuN x = tuP (ixL nb t.data.toList)) := by unfold Hid; rw [HXS.out, HIX.out]
          clear HXS HIX HBQ HE HNG HNB hp hpi h0 hsz hszi
          by_cases c1 : t.size < 1
          · have c1i : (t.size : Int) < 1 := by omega
            have HI : Hid (tuN x = -1) := by unfold Hid; rw [HXT.out]; unfold ixL; rw [if_pos (.inl (by omega))]; rfl
            clear HXT htl
            go_wp2_with fail
            go_ret
            exact ⟨ret_int HI.out.symm, HBw.out⟩
          have c1i : ¬ (t.size : Int) < 1 := by omega
          by_cases c9 : 9 < t.size
          · have c9i : (9 : Int) < (t.size : Int) := by omega
            have HI : Hid (tuN x = -1) := by unfold Hid; rw [HXT.out]; unfold ixL; rw [if_pos (.inr (by omega))]; rfl
            clear HXT htl
            go_wp2_with fail
            go_ret
            exact ⟨ret_int HI.out.symm, HBw.out⟩
          have c9i : ¬ (9 : Int) < (t.size : Int) := by omega
          have HXT2 : Hid (tuN x = tuP (if t.data.toList.all digC then (numL t.data.toList, !nb || decide (numL t.data.toList = 0)) else (0, false))) := by
            unfold Hid; rw [HXT.out]; unfold ixL; rw [if_neg (by omega)]
          have hp1 : 1 ≤ t.size := by omega
          have h9 : t.size ≤ 9 := by omega
          have h9i : (t.size : Int) ≤ 9 := by omega
          clear HXT
          go_wp2_with fail
          clear c1 c9 c1i c9i
          go_loop [9, 10] (fun n j => ∃ k : Nat, k ≤ t.size ∧ n = .int .i64 (numL (t.data.toList.take k)) ∧ j = .int .i64 (k : Int) ∧ Hid ((t.data.toList.take k).all digC = true)) (fun _ j => t.size - (intOf j).toNat)
          case atStart => exact ⟨0, by omega, rfl, rfl, rfl⟩
          case round =>
            obtain ⟨k, hk, rfl, rfl, HAL⟩ := hrel
            by_cases hlt : k < t.size
            case neg =>
              obtain rfl : k = t.size := by omega
              have HT : Hid (t.data.toList.take t.size = t.data.toList) := by unfold Hid; rw [List.take_of_length_le (by omega)]
              have HI : Hid (tuN x = tuP (numL t.data.toList, !nb || decide (numL t.data.toList = 0))) := by
                unfold Hid; rw [HXT2.out]
                have := HAL.out
                rw [HT.out] at this
                rw [if_pos this]
              have hnl : 0 ≤ numL t.data.toList := by
                have := HAL.out
                rw [HT.out] at this
                exact (numL_bd _ _ rfl this).1
              rw [HT.out]
              obtain ⟨n, hn⟩ : ∃ n, n = numL t.data.toList := ⟨_, rfl⟩
              rw [← hn] at HI hnl ⊢
              clear hn HXT2 HAL HT htl
              cases nb
              · have HJ : Hid (tuN x = n) := by unfold Hid; rw [HI.out]; rfl
                go_wp2_with fail
                go_ret
                exact ⟨ret_int HJ.out.symm, HBw.out⟩
              · by_cases hn0 : 0 < n
                · have HJ : Hid (tuN x = -1) := by unfold Hid; rw [HI.out]; unfold tuP; rw [if_neg]; simp; omega
                  go_wp2_with fail
                  go_ret
                  exact ⟨ret_int HJ.out.symm, HBw.out⟩
                · have HJ : Hid (tuN x = n) := by unfold Hid; rw [HI.out]; unfold tuP; rw [if_pos]; simp; omega
                  go_wp2_with fail
                  go_ret
                  exact ⟨ret_int HJ.out.symm, HBw.out⟩
            case pos =>
              have hik : (k : Int) < (t.size : Int) := by omega
              have hts : t.data.toList.take (k + 1) = t.data.toList.take k ++ [t[k]] := by
                rw [List.take_succ_eq_append_getElem (by omega)]; rfl
              obtain ⟨hb1, hb2⟩ := numL_bd k (t.data.toList.take k) (by simp; omega) HAL.out
              have hb3 : numL (t.data.toList.take k) < 100000000 := Int.lt_of_lt_of_le hb2 (by
                have hq : ∀ m : Nat, m < 9 → (10 : Int) ^ m ≤ 100000000 := by decide
                exact hq k (by omega))
              have HNX : Hid (numL (t.data.toList.take (k + 1)) = numL (t.data.toList.take k) * 10 + ((t[k].toNat : Int) - 48)) := by
                unfold Hid; rw [hts, numL_snoc]
              have HAX : Hid (digC t[k] = true → (t.data.toList.take (k + 1)).all digC = true) := by
                intro h
                rw [hts, List.all_append, HAL.out]; simp [h]
              have HBX : Hid (digC t[k] = false → tuN x = -1) := by
                intro h
                rw [HXT2.out, if_neg]
                · rfl
                intro h2
                rw [List.all_eq_true] at h2
                have := h2 t[k] (by rw [show t[k] = t.data.toList[k]'(by omega) from rfl]; exact List.getElem_mem _)
                rw [h] at this; cases this
              obtain ⟨n, hn⟩ : ∃ n, n = numL (t.data.toList.take k) := ⟨_, rfl⟩
              rw [← hn] at hb1 hb3 HNX ⊢
              clear hb2 hn htl hts
              by_cases hd : 48 ≤ (t[k].toNat : Int) ∧ (t[k].toNat : Int) ≤ 57
              · have HD : Hid (digC t[k] = true) := by unfold Hid digC; simp only [Bool.and_eq_true, decide_eq_true_eq]; omega
                obtain ⟨d1, d2⟩ := hd
                have d3 : ¬ (t[k].toNat : Int) < 48 := by omega
                have d4 : ¬ (57 : Int) < (t[k].toNat : Int) := by omega
                go_wp2_with fail
                go_round
                case rel => exact ⟨k + 1, by omega, by rw [HNX.out], by go_num, HAX.out HD.out⟩
                case measure => simp [intOf]; omega
              · have HD : Hid (digC t[k] = false) := by unfold Hid digC; simp only [Bool.and_eq_false_iff, decide_eq_false_iff_not]; omega
                have HI : Hid (tuN x = -1) := HBX.out HD.out
                clear HXT2 HBX HNX HAX
                by_cases d1 : (t[k].toNat : Int) < 48
                · clear hd
                  go_wp2_with fail
                  go_ret
                  exact ⟨ret_int HI.out.symm, HBw.out⟩
                · have d3 : (57 : Int) < (t[k].toNat : Int) := by omega
                  clear hd
                  go_wp2_with fail
                  go_ret
                  exact ⟨ret_int HI.out.symm, HBw.out⟩
end Go.Proofs.YtimlmekgapdkiaaDoor
