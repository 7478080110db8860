/- sheets: thousandths: the document's -/
import Derived.Test.YtmhejppfjngbhaaDoorYv
namespace Go.Proofs.YtmhejppfjngbhaaDoor
set_option linter.unusedVariables false
set_option linter.unusedSimpArgs false
open Go.RowKit Go.Cas

theorem Num.bt0 {s : ByteArray} {sg W P : List UInt8} {dot : Bool} (h : Num s.data.toList sg W P dot) : (sg = [45] → bt s 0 = 45) ∧ (sg = [43] → bt s 0 = 43) ∧ (sg = [] → bt s 0 ≠ 43 ∧ bt s 0 ≠ 45) := by
  refine ⟨?_, ?_, ?_⟩
  · intro e; unfold bt; rw [h.eq, e]; rfl
  · intro e; unfold bt; rw [h.eq, e]; rfl
  · intro e
    unfold bt
    rw [h.eq, e, List.nil_append, List.getD_eq_getElem?_getD]
    cases hx : (W ++ (if dot = true then 46 :: P else []))[0]? with
    | none => simp
    | some c => exact h.head c hx
/-- a sum under way that is not kept beyond a bound -/
def capd (n X : Nat) : Prop := n ≤ X ∧ (n < 1099511627776 → n = X)
theorem capd_up {n X d : Nat} (h : capd n X) (hn : n < 1099511627776) : capd (n * 10 + d) (X * 10 + d) := by
  have := h.2 hn
  subst this
  exact ⟨Nat.le_refl _, fun _ => rfl⟩
theorem capd_same {n X X' : Nat} (h : capd n X) (hn : ¬ n < 1099511627776) (hx : X ≤ X') : capd n X' := ⟨Nat.le_trans h.1 hx, fun e => absurd e hn⟩
/-- where the document stands in a number's text -/
def RAt (W P : List UInt8) (dot : Bool) (i : Nat) (dg : Int) (X : List UInt8) : Prop :=
  (i ≤ W.length ∧ dg = -1 ∧ X = W.take i) ∨ (W.length < i ∧ dot = true ∧ dg = (i : Int) - (W.length : Int) - 1 ∧ X = W ++ P.take (i - W.length - 1))
def RSt (W P : List UInt8) (dot : Bool) (i : Nat) (c : UInt8) : Prop :=
  (i < W.length → (c.toNat : Int) = 48 + ((c.toNat - 48 : Nat) : Int) ∧ c.toNat - 48 ≤ 9 ∧ dvl (W.take (i + 1)) = dvl (W.take i) * 10 + (c.toNat - 48)) ∧ (i = W.length → c = 46 ∧ dot = true) ∧ (W.length < i → dot = true → (c.toNat : Int) = 48 + ((c.toNat - 48 : Nat) : Int) ∧ c.toNat - 48 ≤ 9 ∧ dvl (W ++ P.take (i + 1 - W.length - 1)) = dvl (W ++ P.take (i - W.length - 1)) * 10 + (c.toNat - 48))
/-- a step's digit: what stands behind it -/
theorem RSt.next {W P : List UInt8} {dot : Bool} {i : Nat} {c : UInt8} {dg : Int} {X : List UInt8} (h : RSt W P dot i c) (hx : RAt W P dot i dg X) (hne : i ≠ W.length) :
    ∃ X' dg', RAt W P dot (i + 1) dg' X' ∧ (c.toNat : Int) = 48 + ((c.toNat - 48 : Nat) : Int) ∧ c.toNat - 48 ≤ 9 ∧ dvl X' = dvl X * 10 + (c.toNat - 48) ∧ dg' = (if 0 ≤ dg then dg + 1 else dg) := by
  rcases hx with ⟨h1, h2, h3⟩ | ⟨h1, h2, h3, h4⟩
  · obtain ⟨g1, g2, g3⟩ := h.1 (by omega)
    exact ⟨W.take (i + 1), -1, .inl ⟨by omega, rfl, rfl⟩, g1, g2, by rw [h3]; exact g3, by rw [h2]; rfl⟩
  · obtain ⟨g1, g2, g3⟩ := h.2.2 h1 h2
    exact ⟨W ++ P.take (i + 1 - W.length - 1), dg + 1, .inr ⟨by omega, h2, by omega, rfl⟩, g1, g2, by rw [h4]; exact g3, by rw [if_pos (by omega)]⟩
set_option maxHeartbeats 16000000 in
set_option maxRecDepth 100000 in
theorem c_rThou {s : ByteArray} {sg W P : List UInt8} {dot : Bool} (h : Num s.data.toList sg W P dot) (w : World) (hs : s.size ≤ 1000000000) : Calls Tryd.prog 44 #[.string s] w fun e w' => e = thR (thouV (decide (sg = [45])) W P) ∧ w = w' := by
  obtain ⟨R, hR⟩ : ∃ R : List UInt8, R = W ++ (if dot = true then 46 :: P else []) := ⟨_, rfl⟩
  have hsl : s.size = sg.length + R.length := by
    have := congrArg List.length h.eq
    rw [show s.data.toList.length = s.size from rfl, List.length_append, ← hR] at this
    exact this
  have hRl : R.length = W.length + (if dot = true then 1 + P.length else 0) := by
    rw [hR, List.length_append]
    cases dot with
    | true => simp; omega
    | false => simp
  have hno := h.no
  have HSTEP : Hid (∀ i (hi : i < R.length), RSt W P dot i R[i]) := by
    intro i hi
    refine ⟨fun hw => ?_, fun hw => ?_, fun hw hd => ?_⟩
    · have e : R[i] = W[i] := by simp only [hR]; rw [List.getElem_append_left hw]
      rw [e]
      have := dgC_b (h.w W[i] (List.getElem_mem _))
      exact ⟨by omega, by omega, dvl_take hw⟩
    · have hd : dot = true := by
        cases dot with
        | true => rfl
        | false => simp at hRl; omega
      refine ⟨?_, hd⟩
      simp only [hR]
      subst hw
      rw [List.getElem_append_right (Nat.le_refl _)]
      simp [hd]
    · rw [hd, if_pos rfl] at hRl
      have hp : i - W.length - 1 < P.length := by omega
      have e : R[i] = P[i - W.length - 1] := by
        simp only [hR]
        rw [List.getElem_append_right (by omega)]
        simp only [hd, if_true]
        rw [List.getElem_cons, dif_neg (by omega)]
      rw [e]
      have := dgC_b (h.p P[i - W.length - 1] (List.getElem_mem _))
      refine ⟨by omega, by omega, ?_⟩
      rw [show i + 1 - W.length - 1 = (i - W.length - 1) + 1 by omega]
      exact dvl_takew hp
  have HEND : Hid (∀ X dg, RAt W P dot R.length dg X → X = W ++ P ∧ dg = (if dot = true then (P.length : Int) else -1)) := by
    intro X dg hx
    rcases hx with ⟨h1, h2, h3⟩ | ⟨h1, h2, h3, h4⟩
    · cases hd : dot with
      | true => rw [hd, if_pos rfl] at hRl; omega
      | false =>
        rw [hd] at hRl
        simp at hRl
        rw [h3, h2, hRl, hno hd]; simp
    · rw [h2, if_pos rfl] at hRl
      rw [h4, h3, h2, hRl]
      refine ⟨?_, ?_⟩
      · rw [List.take_of_length_le (by omega)]
      · rw [if_pos rfl]; omega
  have hPW : P.length ≤ 1000000000 ∧ W.length ≤ 1000000000 := by
    cases hd : dot with
    | true => rw [hd, if_pos rfl] at hRl; omega
    | false => rw [hd] at hRl; rw [hno hd]; simp at hRl ⊢; omega
  have h0 := Num.bt0 h
  have HA := Lib.hid (c_at s 0 w (by omega))
  rw [show ((0 : Nat) : Int) = 0 from rfl] at HA
  have hsR : ∃ S : ByteArray, S = ⟨R.toArray⟩ := ⟨_, rfl⟩
  obtain ⟨S, hS⟩ := hsR
  have hSz : S.size = R.length := by rw [hS, ba_size]
  have hs0 : sg = [] → s = S := fun e => by
    rw [hS]; apply ByteArray.ext; apply Array.ext'
    show s.data.toList = R.toArray.toList
    rw [h.eq, e, ← hR]; simp
  have hs1 : sg.length = 1 → s.extract 1 s.size = S := fun e => by
    rw [hS]; apply ByteArray.ext; apply Array.ext'
    rw [ext_list, h.eq, ← hR]
    match sg, e with
    | [a], _ => simp
  have HST : Hid (∀ i (hi : i < S.size), RSt W P dot i S[i]) := by
    intro i hi
    subst hS
    have hl : i < R.length := by rwa [ba_size] at hi
    rw [ba_get hi]
    exact HSTEP.out i hl
  rw [← hSz] at HEND
  have hSz2 : S.size ≤ 1000000000 := by omega
  have hsg := h.sg_
  have hxx : ∀ X, dvl X ≤ dvl X * 10 := fun X => by omega
  have HNOD := Lib.hid hno
  have HRL := Lib.hid hRl
  have hSR := Lib.hid hSz
  clear h hsl hRl hno HSTEP hR hS hSz
  obtain ⟨hP9, hW9⟩ := hPW
  rcases hsg with e | e | e
  · have n43 := u8ne (b := 43) (h0.2.2 e).1
    have n45 := u8ne (b := 45) (h0.2.2 e).2
    have b43 : (((bt s 0).toNat : Int) == 43) = false := beq_eq_false_iff_ne.2 n43
    have b45 : (((bt s 0).toNat : Int) == 45) = false := beq_eq_false_iff_ne.2 n45
    have hss := hs0 e
    rw [show decide (sg = [45]) = false by rw [e]; rfl]
    clear h0 hs0 hs1 e
    have HSS := Lib.hid hss
    clear hss
    go_enter Tryd.func44, Tryd.ntmps44
    go_upto_region 4 with (go_at_call 21; (with_reducible refine (HA.out).mono ?_); rintro e w' ⟨rfl, rfl⟩)
    rw [HSS.out]
    go_wp2_with fail
    go_loopw [5, 6, 7] (fun u v x wr => ∃ (i n : Nat) (dg : Int) (X : List UInt8), x = .int .i64 (i : Int) ∧ v = .int .i64 dg ∧ u = .int .i64 (n : Int) ∧ i ≤ S.size ∧ n ≤ 10995116277769 ∧ -1 ≤ dg ∧ dg ≤ 1000000000 ∧ Hid (RAt W P dot i dg X ∧ capd n (dvl X)) ∧ w = wr) (fun _ _ x _ => S.size - (intOf x).toNat)
    case atStart => exact ⟨0, 0, -1, [], rfl, rfl, rfl, by omega, by omega, by omega, by omega, ⟨.inl ⟨by omega, rfl, rfl⟩, ⟨by decide, fun _ => rfl⟩⟩, rfl⟩
    case round =>
      obtain ⟨i, n, dg, X, rfl, rfl, rfl, hi, hn, hd1, hd9, HX, rfl⟩ := hrel
      by_cases hlt : i < S.size
      · have hiI : (i : Int) < (S.size : Int) := by omega
        have hi0 : 0 ≤ (i : Int) := by omega
        have hst := HST.out i hlt
        by_cases hiw : i = W.length
        · obtain ⟨g1, g2⟩ := hst.2.1 hiw
          have g1I : (S[i].toNat : Int) = 46 := by rw [g1]; rfl
          have HN : Hid (RAt W P dot (i + 1) 0 X ∧ capd n (dvl X)) := by
            refine ⟨.inr ⟨by omega, g2, by omega, ?_⟩, HX.out.2⟩
            rcases HX.out.1 with ⟨_, _, h3⟩ | ⟨h1, _⟩
            · rw [h3, hiw, show W.length + 1 - W.length - 1 = 0 by omega]; simp
            · omega
          clear hst g1 g2 hiw
          go_wp2_with fail
          go_roundw
          case rel => exact ⟨i + 1, n, 0, X, by go_num, rfl, rfl, by omega, hn, by omega, by omega, HN.out, by first | rfl | trivial⟩
          case measure => simp [intOf]; omega
        · obtain ⟨X', dg', k1, k2, k3, k4, k5⟩ := hst.next HX.out.1 hiw
          have K1 := Lib.hid k1
          obtain ⟨d, hd⟩ : ∃ d, d = S[i].toNat - 48 := ⟨_, rfl⟩
          rw [← hd] at k2 k3 k4
          have k46 : ¬ (S[i].toNat : Int) = 46 := by omega
          have b46 : ((S[i].toNat : Int) == 46) = false := beq_eq_false_iff_ne.2 k46
          have hdg' : dg' ≤ 1000000000 := by
            rcases k1 with ⟨_, h2, _⟩ | ⟨h1, _, h3, _⟩ <;> omega
          have hdg1 : -1 ≤ dg' := by
            rw [k5]; split <;> omega
          have K5 := Lib.hid k5
          by_cases hc : n < 1099511627776
          · have hcI : (n : Int) < 1099511627776 := by omega
            have HC : Hid (capd (n * 10 + d) (dvl X')) := by rw [Hid, k4]; exact capd_up HX.out.2 hc
            by_cases h0 : 0 ≤ dg
            · have h9 : dg + 1 ≤ 1000000000 := by rw [if_pos h0] at k5; omega
              clear hst k1 k4 k5 hd hdg' hdg1 b46
              have b46 : ¬ (48 + (d : Int) = 46) := by omega
              have bb46 : ((48 + (d : Int)) == 46) = false := beq_eq_false_iff_ne.2 b46
              clear k46
              go_wp2_with fail
              go_roundw
              case rel => exact ⟨i + 1, n * 10 + d, dg + 1, X', by go_num, rfl, by congr 1; omega, by omega, by omega, by omega, by omega, ⟨by have := K1.out; rwa [K5.out, if_pos h0] at this, HC.out⟩, by first | rfl | trivial⟩
              case measure => simp [intOf]; omega
            · clear hst k1 k4 k5 hd hdg' hdg1 b46
              have b46 : ¬ (48 + (d : Int) = 46) := by omega
              have bb46 : ((48 + (d : Int)) == 46) = false := beq_eq_false_iff_ne.2 b46
              clear k46
              go_wp2_with fail
              go_roundw
              case rel => exact ⟨i + 1, n * 10 + d, dg, X', by go_num, rfl, by congr 1; omega, by omega, by omega, by omega, by omega, ⟨by have := K1.out; rwa [K5.out, if_neg h0] at this, HC.out⟩, by first | rfl | trivial⟩
              case measure => simp [intOf]; omega
          · have hcI : ¬ (n : Int) < 1099511627776 := by omega
            have HC : Hid (capd n (dvl X')) := capd_same HX.out.2 hc (by rw [k4]; have := hxx X; omega)
            by_cases h0 : 0 ≤ dg
            · have h9 : dg + 1 ≤ 1000000000 := by rw [if_pos h0] at k5; omega
              clear hst k1 k4 k5 hd hdg' hdg1 b46
              have b46 : ¬ (48 + (d : Int) = 46) := by omega
              have bb46 : ((48 + (d : Int)) == 46) = false := beq_eq_false_iff_ne.2 b46
              clear k46
              go_wp2_with fail
              go_roundw
              case rel => exact ⟨i + 1, n, dg + 1, X', by go_num, rfl, rfl, by omega, by omega, by omega, by omega, ⟨by have := K1.out; rwa [K5.out, if_pos h0] at this, HC.out⟩, by first | rfl | trivial⟩
              case measure => simp [intOf]; omega
            · clear hst k1 k4 k5 hd hdg' hdg1 b46
              have b46 : ¬ (48 + (d : Int) = 46) := by omega
              have bb46 : ((48 + (d : Int)) == 46) = false := beq_eq_false_iff_ne.2 b46
              clear k46
              go_wp2_with fail
              go_roundw
              case rel => exact ⟨i + 1, n, dg, X', by go_num, rfl, rfl, by omega, by omega, by omega, by omega, ⟨by have := K1.out; rwa [K5.out, if_neg h0] at this, HC.out⟩, by first | rfl | trivial⟩
              case measure => simp [intOf]; omega
      · obtain rfl : i = S.size := by omega
        have hiI : ¬ (S.size : Int) < (S.size : Int) := by omega
        obtain ⟨hX, hdg⟩ := HEND.out X dg HX.out.1
        have hcp := HX.out.2
        rw [hX] at hcp
        by_cases hP3 : 3 < P.length
        · have hdt : dot = true := by
            cases hd : dot with
            | true => rfl
            | false => rw [HNOD.out hd] at hP3; simp at hP3
          rw [hdt, if_pos rfl] at hdg
          have hd3 : 3 < dg := by omega
          have HR : Hid (thouV false W P = (0, false)) := thou_no1 hP3
          clear hdg hcp hX hdt
          go_wp2_with fail
          go_ret2
          rw [HR.out]
          exact ⟨rfl, rfl⟩
        · have hd3 : ¬ 3 < dg := by rw [hdg]; split <;> omega
          obtain ⟨j0, hj0⟩ : ∃ j0, j0 = P.length := ⟨_, rfl⟩
          have hjd : (dg < 0 ∧ j0 = 0) ∨ (¬ dg < 0 ∧ dg = (j0 : Int)) := by
            cases hd : dot with
            | true => rw [hd, if_pos rfl] at hdg; right; omega
            | false => rw [hd] at hdg; left; rw [hj0, HNOD.out hd]; simp at hdg ⊢; omega
          have HCP := Lib.hid hcp
          have HJQ := Lib.hid hj0
          have hj3 : j0 ≤ 3 := by omega
          rcases hjd with ⟨k1, k2⟩ | ⟨k1, k2⟩
          · subst k2
            clear hdg hcp hX
            go_wp2_with fail
            go_loopw [5, 6] (fun u v wr => ∃ (j m : Nat), v = .int .i64 (j : Int) ∧ u = .int .i64 (m : Int) ∧ 0 ≤ j ∧ j ≤ 3 ∧ m ≤ 10995116277769 ∧ Hid (capd m (dvl (W ++ P) * 10 ^ (j - 0))) ∧ w = wr) (fun _ v _ => 3 - (intOf v).toNat)
            case atStart => exact ⟨0, n, rfl, rfl, Nat.le_refl _, by omega, hn, by rw [Nat.sub_self, Nat.pow_zero, Nat.mul_one]; exact HCP.out, rfl⟩
            case round =>
              obtain ⟨j, m, rfl, rfl, hj0, hj, hm, HC, rfl⟩ := hrel
              have hpj : dvl (W ++ P) * 10 ^ (j + 1 - 0) = dvl (W ++ P) * 10 ^ (j - 0) * 10 := by
                rw [show j + 1 - 0 = (j - 0) + 1 by omega, Nat.pow_succ, Nat.mul_assoc]
              have HPJ := Lib.hid hpj
              clear hpj
              by_cases hlt : j < 3
              · have hjI : (j : Int) < 3 := by omega
                by_cases hc : m < 1099511627776
                · have hcI : (m : Int) < 1099511627776 := by omega
                  have HC2 : Hid (capd (m * 10) (dvl (W ++ P) * 10 ^ (j + 1 - 0))) := by rw [Hid, HPJ.out]; exact capd_up (d := 0) HC.out hc
                  clear hiI
                  go_wp2_with fail
                  go_roundw
                  case rel => exact ⟨j + 1, m * 10, by go_num, by congr 1, by omega, by omega, by omega, HC2.out, by first | rfl | trivial⟩
                  case measure => simp [intOf]; omega
                · have hcI : ¬ (m : Int) < 1099511627776 := by omega
                  have HC2 : Hid (capd m (dvl (W ++ P) * 10 ^ (j + 1 - 0))) := capd_same HC.out hc (by rw [HPJ.out]; omega)
                  clear hiI
                  go_wp2_with fail
                  go_roundw
                  case rel => exact ⟨j + 1, m, by go_num, rfl, by omega, by omega, by omega, HC2.out, by first | rfl | trivial⟩
                  case measure => simp [intOf]; omega
              · obtain rfl : j = 3 := by omega
                have HTV : Hid (thouV false W P = if 1000000000 < m then (0, false) else ((m : Int), true)) := by
                  have hc := HC.out
                  rw [show 3 - 0 = 3 - P.length by rw [← HJQ.out]] at hc
                  unfold Hid thouV
                  by_cases hg : 1000000000 < m
                  · rw [if_pos hg, if_pos (.inr (Nat.lt_of_lt_of_le hg hc.1))]
                  · have hmn := hc.2 (by omega)
                    rw [if_neg hg, ← hmn, if_neg (fun e => e.elim hP3 hg)]
                    rfl
                by_cases hg : 1000000000 < m
                · have hgI : 1000000000 < (m : Int) := by omega
                  have HR : Hid (thouV false W P = (0, false)) := by unfold Hid; rw [HTV.out, if_pos hg]
                  go_wp2_with fail
                  go_ret2
                  rw [HR.out]
                  exact ⟨rfl, rfl⟩
                · have hgI : ¬ 1000000000 < (m : Int) := by omega
                  have HR : Hid (thouV false W P = ((m : Int), true)) := by unfold Hid; rw [HTV.out, if_neg hg]
                  go_wp2_with fail
                  go_ret2
                  rw [HR.out]
                  exact ⟨rfl, rfl⟩
          · subst k2
            have k0 : ¬ (j0 : Int) < 0 := by omega
            clear hdg hcp hX hj0
            go_wp2_with fail
            go_loopw [5, 6] (fun u v wr => ∃ (j m : Nat), v = .int .i64 (j : Int) ∧ u = .int .i64 (m : Int) ∧ j0 ≤ j ∧ j ≤ 3 ∧ m ≤ 10995116277769 ∧ Hid (capd m (dvl (W ++ P) * 10 ^ (j - j0))) ∧ w = wr) (fun _ v _ => 3 - (intOf v).toNat)
            case atStart => exact ⟨j0, n, rfl, rfl, Nat.le_refl _, by omega, hn, by rw [Nat.sub_self, Nat.pow_zero, Nat.mul_one]; exact HCP.out, rfl⟩
            case round =>
              obtain ⟨j, m, rfl, rfl, hj0, hj, hm, HC, rfl⟩ := hrel
              have hpj : dvl (W ++ P) * 10 ^ (j + 1 - j0) = dvl (W ++ P) * 10 ^ (j - j0) * 10 := by
                rw [show j + 1 - j0 = (j - j0) + 1 by omega, Nat.pow_succ, Nat.mul_assoc]
              have HPJ := Lib.hid hpj
              clear hpj
              by_cases hlt : j < 3
              · have hjI : (j : Int) < 3 := by omega
                by_cases hc : m < 1099511627776
                · have hcI : (m : Int) < 1099511627776 := by omega
                  have HC2 : Hid (capd (m * 10) (dvl (W ++ P) * 10 ^ (j + 1 - j0))) := by rw [Hid, HPJ.out]; exact capd_up (d := 0) HC.out hc
                  clear hiI
                  go_wp2_with fail
                  go_roundw
                  case rel => exact ⟨j + 1, m * 10, by go_num, by congr 1, by omega, by omega, by omega, HC2.out, by first | rfl | trivial⟩
                  case measure => simp [intOf]; omega
                · have hcI : ¬ (m : Int) < 1099511627776 := by omega
                  have HC2 : Hid (capd m (dvl (W ++ P) * 10 ^ (j + 1 - j0))) := capd_same HC.out hc (by rw [HPJ.out]; omega)
                  clear hiI
                  go_wp2_with fail
                  go_roundw
                  case rel => exact ⟨j + 1, m, by go_num, rfl, by omega, by omega, by omega, HC2.out, by first | rfl | trivial⟩
                  case measure => simp [intOf]; omega
              · obtain rfl : j = 3 := by omega
                have HTV : Hid (thouV false W P = if 1000000000 < m then (0, false) else ((m : Int), true)) := by
                  have hc := HC.out
                  rw [show 3 - j0 = 3 - P.length by rw [HJQ.out]] at hc
                  unfold Hid thouV
                  by_cases hg : 1000000000 < m
                  · rw [if_pos hg, if_pos (.inr (Nat.lt_of_lt_of_le hg hc.1))]
                  · have hmn := hc.2 (by omega)
                    rw [if_neg hg, ← hmn, if_neg (fun e => e.elim hP3 hg)]
                    rfl
                by_cases hg : 1000000000 < m
                · have hgI : 1000000000 < (m : Int) := by omega
                  have HR : Hid (thouV false W P = (0, false)) := by unfold Hid; rw [HTV.out, if_pos hg]
                  go_wp2_with fail
                  go_ret2
                  rw [HR.out]
                  exact ⟨rfl, rfl⟩
                · have hgI : ¬ 1000000000 < (m : Int) := by omega
                  have HR : Hid (thouV false W P = ((m : Int), true)) := by unfold Hid; rw [HTV.out, if_neg hg]
                  go_wp2_with fail
                  go_ret2
                  rw [HR.out]
                  exact ⟨rfl, rfl⟩
  · rw [h0.2.1 e] at HA
    have hss := hs1 (by rw [e]; rfl)
    have h1z : (1 : Int) ≤ (s.size : Int) := by
      have : bt s 0 ≠ 0 := by rw [h0.2.1 e]; decide
      have := z0 this; omega
    rw [show decide (sg = [45]) = false by rw [e]; rfl]
    clear h0 hs0 hs1 e
    have HSS := Lib.hid hss
    clear hss
    go_enter Tryd.func44, Tryd.ntmps44
    go_upto_region 4 with (go_at_call 21; (with_reducible refine (HA.out).mono ?_); rintro e w' ⟨rfl, rfl⟩)
    rw [HSS.out]
    go_wp2_with fail
    go_loopw [5, 6, 7] (fun u v x wr => ∃ (i n : Nat) (dg : Int) (X : List UInt8), x = .int .i64 (i : Int) ∧ v = .int .i64 dg ∧ u = .int .i64 (n : Int) ∧ i ≤ S.size ∧ n ≤ 10995116277769 ∧ -1 ≤ dg ∧ dg ≤ 1000000000 ∧ Hid (RAt W P dot i dg X ∧ capd n (dvl X)) ∧ w = wr) (fun _ _ x _ => S.size - (intOf x).toNat)
    case atStart => exact ⟨0, 0, -1, [], rfl, rfl, rfl, by omega, by omega, by omega, by omega, ⟨.inl ⟨by omega, rfl, rfl⟩, ⟨by decide, fun _ => rfl⟩⟩, rfl⟩
    case round =>
      obtain ⟨i, n, dg, X, rfl, rfl, rfl, hi, hn, hd1, hd9, HX, rfl⟩ := hrel
      by_cases hlt : i < S.size
      · have hiI : (i : Int) < (S.size : Int) := by omega
        have hi0 : 0 ≤ (i : Int) := by omega
        have hst := HST.out i hlt
        by_cases hiw : i = W.length
        · obtain ⟨g1, g2⟩ := hst.2.1 hiw
          have g1I : (S[i].toNat : Int) = 46 := by rw [g1]; rfl
          have HN : Hid (RAt W P dot (i + 1) 0 X ∧ capd n (dvl X)) := by
            refine ⟨.inr ⟨by omega, g2, by omega, ?_⟩, HX.out.2⟩
            rcases HX.out.1 with ⟨_, _, h3⟩ | ⟨h1, _⟩
            · rw [h3, hiw, show W.length + 1 - W.length - 1 = 0 by omega]; simp
            · omega
          clear hst g1 g2 hiw
          go_wp2_with fail
          go_roundw
          case rel => exact ⟨i + 1, n, 0, X, by go_num, rfl, rfl, by omega, hn, by omega, by omega, HN.out, by first | rfl | trivial⟩
          case measure => simp [intOf]; omega
        · obtain ⟨X', dg', k1, k2, k3, k4, k5⟩ := hst.next HX.out.1 hiw
          have K1 := Lib.hid k1
          obtain ⟨d, hd⟩ : ∃ d, d = S[i].toNat - 48 := ⟨_, rfl⟩
          rw [← hd] at k2 k3 k4
          have k46 : ¬ (S[i].toNat : Int) = 46 := by omega
          have b46 : ((S[i].toNat : Int) == 46) = false := beq_eq_false_iff_ne.2 k46
          have hdg' : dg' ≤ 1000000000 := by
            rcases k1 with ⟨_, h2, _⟩ | ⟨h1, _, h3, _⟩ <;> omega
          have hdg1 : -1 ≤ dg' := by
            rw [k5]; split <;> omega
          have K5 := Lib.hid k5
          by_cases hc : n < 1099511627776
          · have hcI : (n : Int) < 1099511627776 := by omega
            have HC : Hid (capd (n * 10 + d) (dvl X')) := by rw [Hid, k4]; exact capd_up HX.out.2 hc
            by_cases h0 : 0 ≤ dg
            · have h9 : dg + 1 ≤ 1000000000 := by rw [if_pos h0] at k5; omega
              clear hst k1 k4 k5 hd hdg' hdg1 b46
              have b46 : ¬ (48 + (d : Int) = 46) := by omega
              have bb46 : ((48 + (d : Int)) == 46) = false := beq_eq_false_iff_ne.2 b46
              clear k46
              go_wp2_with fail
              go_roundw
              case rel => exact ⟨i + 1, n * 10 + d, dg + 1, X', by go_num, rfl, by congr 1; omega, by omega, by omega, by omega, by omega, ⟨by have := K1.out; rwa [K5.out, if_pos h0] at this, HC.out⟩, by first | rfl | trivial⟩
              case measure => simp [intOf]; omega
            · clear hst k1 k4 k5 hd hdg' hdg1 b46
              have b46 : ¬ (48 + (d : Int) = 46) := by omega
              have bb46 : ((48 + (d : Int)) == 46) = false := beq_eq_false_iff_ne.2 b46
              clear k46
              go_wp2_with fail
              go_roundw
              case rel => exact ⟨i + 1, n * 10 + d, dg, X', by go_num, rfl, by congr 1; omega, by omega, by omega, by omega, by omega, ⟨by have := K1.out; rwa [K5.out, if_neg h0] at this, HC.out⟩, by first | rfl | trivial⟩
              case measure => simp [intOf]; omega
          · have hcI : ¬ (n : Int) < 1099511627776 := by omega
            have HC : Hid (capd n (dvl X')) := capd_same HX.out.2 hc (by rw [k4]; have := hxx X; omega)
            by_cases h0 : 0 ≤ dg
            · have h9 : dg + 1 ≤ 1000000000 := by rw [if_pos h0] at k5; omega
              clear hst k1 k4 k5 hd hdg' hdg1 b46
              have b46 : ¬ (48 + (d : Int) = 46) := by omega
              have bb46 : ((48 + (d : Int)) == 46) = false := beq_eq_false_iff_ne.2 b46
              clear k46
              go_wp2_with fail
              go_roundw
              case rel => exact ⟨i + 1, n, dg + 1, X', by go_num, rfl, rfl, by omega, by omega, by omega, by omega, ⟨by have := K1.out; rwa [K5.out, if_pos h0] at this, HC.out⟩, by first | rfl | trivial⟩
              case measure => simp [intOf]; omega
            · clear hst k1 k4 k5 hd hdg' hdg1 b46
              have b46 : ¬ (48 + (d : Int) = 46) := by omega
              have bb46 : ((48 + (d : Int)) == 46) = false := beq_eq_false_iff_ne.2 b46
              clear k46
              go_wp2_with fail
              go_roundw
              case rel => exact ⟨i + 1, n, dg, X', by go_num, rfl, rfl, by omega, by omega, by omega, by omega, ⟨by have := K1.out; rwa [K5.out, if_neg h0] at this, HC.out⟩, by first | rfl | trivial⟩
              case measure => simp [intOf]; omega
      · obtain rfl : i = S.size := by omega
        have hiI : ¬ (S.size : Int) < (S.size : Int) := by omega
        obtain ⟨hX, hdg⟩ := HEND.out X dg HX.out.1
        have hcp := HX.out.2
        rw [hX] at hcp
        by_cases hP3 : 3 < P.length
        · have hdt : dot = true := by
            cases hd : dot with
            | true => rfl
            | false => rw [HNOD.out hd] at hP3; simp at hP3
          rw [hdt, if_pos rfl] at hdg
          have hd3 : 3 < dg := by omega
          have HR : Hid (thouV false W P = (0, false)) := thou_no1 hP3
          clear hdg hcp hX hdt
          go_wp2_with fail
          go_ret2
          rw [HR.out]
          exact ⟨rfl, rfl⟩
        · have hd3 : ¬ 3 < dg := by rw [hdg]; split <;> omega
          obtain ⟨j0, hj0⟩ : ∃ j0, j0 = P.length := ⟨_, rfl⟩
          have hjd : (dg < 0 ∧ j0 = 0) ∨ (¬ dg < 0 ∧ dg = (j0 : Int)) := by
            cases hd : dot with
            | true => rw [hd, if_pos rfl] at hdg; right; omega
            | false => rw [hd] at hdg; left; rw [hj0, HNOD.out hd]; simp at hdg ⊢; omega
          have HCP := Lib.hid hcp
          have HJQ := Lib.hid hj0
          have hj3 : j0 ≤ 3 := by omega
          rcases hjd with ⟨k1, k2⟩ | ⟨k1, k2⟩
          · subst k2
            clear hdg hcp hX
            go_wp2_with fail
            go_loopw [5, 6] (fun u v wr => ∃ (j m : Nat), v = .int .i64 (j : Int) ∧ u = .int .i64 (m : Int) ∧ 0 ≤ j ∧ j ≤ 3 ∧ m ≤ 10995116277769 ∧ Hid (capd m (dvl (W ++ P) * 10 ^ (j - 0))) ∧ w = wr) (fun _ v _ => 3 - (intOf v).toNat)
            case atStart => exact ⟨0, n, rfl, rfl, Nat.le_refl _, by omega, hn, by rw [Nat.sub_self, Nat.pow_zero, Nat.mul_one]; exact HCP.out, rfl⟩
            case round =>
              obtain ⟨j, m, rfl, rfl, hj0, hj, hm, HC, rfl⟩ := hrel
              have hpj : dvl (W ++ P) * 10 ^ (j + 1 - 0) = dvl (W ++ P) * 10 ^ (j - 0) * 10 := by
                rw [show j + 1 - 0 = (j - 0) + 1 by omega, Nat.pow_succ, Nat.mul_assoc]
              have HPJ := Lib.hid hpj
              clear hpj
              by_cases hlt : j < 3
              · have hjI : (j : Int) < 3 := by omega
                by_cases hc : m < 1099511627776
                · have hcI : (m : Int) < 1099511627776 := by omega
                  have HC2 : Hid (capd (m * 10) (dvl (W ++ P) * 10 ^ (j + 1 - 0))) := by rw [Hid, HPJ.out]; exact capd_up (d := 0) HC.out hc
                  clear hiI
                  go_wp2_with fail
                  go_roundw
                  case rel => exact ⟨j + 1, m * 10, by go_num, by congr 1, by omega, by omega, by omega, HC2.out, by first | rfl | trivial⟩
                  case measure => simp [intOf]; omega
                · have hcI : ¬ (m : Int) < 1099511627776 := by omega
                  have HC2 : Hid (capd m (dvl (W ++ P) * 10 ^ (j + 1 - 0))) := capd_same HC.out hc (by rw [HPJ.out]; omega)
                  clear hiI
                  go_wp2_with fail
                  go_roundw
                  case rel => exact ⟨j + 1, m, by go_num, rfl, by omega, by omega, by omega, HC2.out, by first | rfl | trivial⟩
                  case measure => simp [intOf]; omega
              · obtain rfl : j = 3 := by omega
                have HTV : Hid (thouV false W P = if 1000000000 < m then (0, false) else ((m : Int), true)) := by
                  have hc := HC.out
                  rw [show 3 - 0 = 3 - P.length by rw [← HJQ.out]] at hc
                  unfold Hid thouV
                  by_cases hg : 1000000000 < m
                  · rw [if_pos hg, if_pos (.inr (Nat.lt_of_lt_of_le hg hc.1))]
                  · have hmn := hc.2 (by omega)
                    rw [if_neg hg, ← hmn, if_neg (fun e => e.elim hP3 hg)]
                    rfl
                by_cases hg : 1000000000 < m
                · have hgI : 1000000000 < (m : Int) := by omega
                  have HR : Hid (thouV false W P = (0, false)) := by unfold Hid; rw [HTV.out, if_pos hg]
                  go_wp2_with fail
                  go_ret2
                  rw [HR.out]
                  exact ⟨rfl, rfl⟩
                · have hgI : ¬ 1000000000 < (m : Int) := by omega
                  have HR : Hid (thouV false W P = ((m : Int), true)) := by unfold Hid; rw [HTV.out, if_neg hg]
                  go_wp2_with fail
                  go_ret2
                  rw [HR.out]
                  exact ⟨rfl, rfl⟩
          · subst k2
            have k0 : ¬ (j0 : Int) < 0 := by omega
            clear hdg hcp hX hj0
            go_wp2_with fail
            go_loopw [5, 6] (fun u v wr => ∃ (j m : Nat), v = .int .i64 (j : Int) ∧ u = .int .i64 (m : Int) ∧ j0 ≤ j ∧ j ≤ 3 ∧ m ≤ 10995116277769 ∧ Hid (capd m (dvl (W ++ P) * 10 ^ (j - j0))) ∧ w = wr) (fun _ v _ => 3 - (intOf v).toNat)
            case atStart => exact ⟨j0, n, rfl, rfl, Nat.le_refl _, by omega, hn, by rw [Nat.sub_self, Nat.pow_zero, Nat.mul_one]; exact HCP.out, rfl⟩
            case round =>
              obtain ⟨j, m, rfl, rfl, hj0, hj, hm, HC, rfl⟩ := hrel
              have hpj : dvl (W ++ P) * 10 ^ (j + 1 - j0) = dvl (W ++ P) * 10 ^ (j - j0) * 10 := by
                rw [show j + 1 - j0 = (j - j0) + 1 by omega, Nat.pow_succ, Nat.mul_assoc]
              have HPJ := Lib.hid hpj
              clear hpj
              by_cases hlt : j < 3
              · have hjI : (j : Int) < 3 := by omega
                by_cases hc : m < 1099511627776
                · have hcI : (m : Int) < 1099511627776 := by omega
                  have HC2 : Hid (capd (m * 10) (dvl (W ++ P) * 10 ^ (j + 1 - j0))) := by rw [Hid, HPJ.out]; exact capd_up (d := 0) HC.out hc
                  clear hiI
                  go_wp2_with fail
                  go_roundw
                  case rel => exact ⟨j + 1, m * 10, by go_num, by congr 1, by omega, by omega, by omega, HC2.out, by first | rfl | trivial⟩
                  case measure => simp [intOf]; omega
                · have hcI : ¬ (m : Int) < 1099511627776 := by omega
                  have HC2 : Hid (capd m (dvl (W ++ P) * 10 ^ (j + 1 - j0))) := capd_same HC.out hc (by rw [HPJ.out]; omega)
                  clear hiI
                  go_wp2_with fail
                  go_roundw
                  case rel => exact ⟨j + 1, m, by go_num, rfl, by omega, by omega, by omega, HC2.out, by first | rfl | trivial⟩
                  case measure => simp [intOf]; omega
              · obtain rfl : j = 3 := by omega
                have HTV : Hid (thouV false W P = if 1000000000 < m then (0, false) else ((m : Int), true)) := by
                  have hc := HC.out
                  rw [show 3 - j0 = 3 - P.length by rw [HJQ.out]] at hc
                  unfold Hid thouV
                  by_cases hg : 1000000000 < m
                  · rw [if_pos hg, if_pos (.inr (Nat.lt_of_lt_of_le hg hc.1))]
                  · have hmn := hc.2 (by omega)
                    rw [if_neg hg, ← hmn, if_neg (fun e => e.elim hP3 hg)]
                    rfl
                by_cases hg : 1000000000 < m
                · have hgI : 1000000000 < (m : Int) := by omega
                  have HR : Hid (thouV false W P = (0, false)) := by unfold Hid; rw [HTV.out, if_pos hg]
                  go_wp2_with fail
                  go_ret2
                  rw [HR.out]
                  exact ⟨rfl, rfl⟩
                · have hgI : ¬ 1000000000 < (m : Int) := by omega
                  have HR : Hid (thouV false W P = ((m : Int), true)) := by unfold Hid; rw [HTV.out, if_neg hg]
                  go_wp2_with fail
                  go_ret2
                  rw [HR.out]
                  exact ⟨rfl, rfl⟩
  · rw [h0.1 e] at HA
    have hss := hs1 (by rw [e]; rfl)
    have h1z : (1 : Int) ≤ (s.size : Int) := by
      have : bt s 0 ≠ 0 := by rw [h0.1 e]; decide
      have := z0 this; omega
    rw [show decide (sg = [45]) = true by rw [e]; rfl]
    clear h0 hs0 hs1 e
    have HSS := Lib.hid hss
    clear hss
    go_enter Tryd.func44, Tryd.ntmps44
    go_upto_region 4 with (go_at_call 21; (with_reducible refine (HA.out).mono ?_); rintro e w' ⟨rfl, rfl⟩)
    rw [HSS.out]
    go_wp2_with fail
    go_loopw [5, 6, 7] (fun u v x wr => ∃ (i n : Nat) (dg : Int) (X : List UInt8), x = .int .i64 (i : Int) ∧ v = .int .i64 dg ∧ u = .int .i64 (n : Int) ∧ i ≤ S.size ∧ n ≤ 10995116277769 ∧ -1 ≤ dg ∧ dg ≤ 1000000000 ∧ Hid (RAt W P dot i dg X ∧ capd n (dvl X)) ∧ w = wr) (fun _ _ x _ => S.size - (intOf x).toNat)
    case atStart => exact ⟨0, 0, -1, [], rfl, rfl, rfl, by omega, by omega, by omega, by omega, ⟨.inl ⟨by omega, rfl, rfl⟩, ⟨by decide, fun _ => rfl⟩⟩, rfl⟩
    case round =>
      obtain ⟨i, n, dg, X, rfl, rfl, rfl, hi, hn, hd1, hd9, HX, rfl⟩ := hrel
      by_cases hlt : i < S.size
      · have hiI : (i : Int) < (S.size : Int) := by omega
        have hi0 : 0 ≤ (i : Int) := by omega
        have hst := HST.out i hlt
        by_cases hiw : i = W.length
        · obtain ⟨g1, g2⟩ := hst.2.1 hiw
          have g1I : (S[i].toNat : Int) = 46 := by rw [g1]; rfl
          have HN : Hid (RAt W P dot (i + 1) 0 X ∧ capd n (dvl X)) := by
            refine ⟨.inr ⟨by omega, g2, by omega, ?_⟩, HX.out.2⟩
            rcases HX.out.1 with ⟨_, _, h3⟩ | ⟨h1, _⟩
            · rw [h3, hiw, show W.length + 1 - W.length - 1 = 0 by omega]; simp
            · omega
          clear hst g1 g2 hiw
          go_wp2_with fail
          go_roundw
          case rel => exact ⟨i + 1, n, 0, X, by go_num, rfl, rfl, by omega, hn, by omega, by omega, HN.out, by first | rfl | trivial⟩
          case measure => simp [intOf]; omega
        · obtain ⟨X', dg', k1, k2, k3, k4, k5⟩ := hst.next HX.out.1 hiw
          have K1 := Lib.hid k1
          obtain ⟨d, hd⟩ : ∃ d, d = S[i].toNat - 48 := ⟨_, rfl⟩
          rw [← hd] at k2 k3 k4
          have k46 : ¬ (S[i].toNat : Int) = 46 := by omega
          have b46 : ((S[i].toNat : Int) == 46) = false := beq_eq_false_iff_ne.2 k46
          have hdg' : dg' ≤ 1000000000 := by
            rcases k1 with ⟨_, h2, _⟩ | ⟨h1, _, h3, _⟩ <;> omega
          have hdg1 : -1 ≤ dg' := by
            rw [k5]; split <;> omega
          have K5 := Lib.hid k5
          by_cases hc : n < 1099511627776
          · have hcI : (n : Int) < 1099511627776 := by omega
            have HC : Hid (capd (n * 10 + d) (dvl X')) := by rw [Hid, k4]; exact capd_up HX.out.2 hc
            by_cases h0 : 0 ≤ dg
            · have h9 : dg + 1 ≤ 1000000000 := by rw [if_pos h0] at k5; omega
              clear hst k1 k4 k5 hd hdg' hdg1 b46
              have b46 : ¬ (48 + (d : Int) = 46) := by omega
              have bb46 : ((48 + (d : Int)) == 46) = false := beq_eq_false_iff_ne.2 b46
              clear k46
              go_wp2_with fail
              go_roundw
              case rel => exact ⟨i + 1, n * 10 + d, dg + 1, X', by go_num, rfl, by congr 1; omega, by omega, by omega, by omega, by omega, ⟨by have := K1.out; rwa [K5.out, if_pos h0] at this, HC.out⟩, by first | rfl | trivial⟩
              case measure => simp [intOf]; omega
            · clear hst k1 k4 k5 hd hdg' hdg1 b46
              have b46 : ¬ (48 + (d : Int) = 46) := by omega
              have bb46 : ((48 + (d : Int)) == 46) = false := beq_eq_false_iff_ne.2 b46
              clear k46
              go_wp2_with fail
              go_roundw
              case rel => exact ⟨i + 1, n * 10 + d, dg, X', by go_num, rfl, by congr 1; omega, by omega, by omega, by omega, by omega, ⟨by have := K1.out; rwa [K5.out, if_neg h0] at this, HC.out⟩, by first | rfl | trivial⟩
              case measure => simp [intOf]; omega
          · have hcI : ¬ (n : Int) < 1099511627776 := by omega
            have HC : Hid (capd n (dvl X')) := capd_same HX.out.2 hc (by rw [k4]; have := hxx X; omega)
            by_cases h0 : 0 ≤ dg
            · have h9 : dg + 1 ≤ 1000000000 := by rw [if_pos h0] at k5; omega
              clear hst k1 k4 k5 hd hdg' hdg1 b46
              have b46 : ¬ (48 + (d : Int) = 46) := by omega
              have bb46 : ((48 + (d : Int)) == 46) = false := beq_eq_false_iff_ne.2 b46
              clear k46
              go_wp2_with fail
              go_roundw
              case rel => exact ⟨i + 1, n, dg + 1, X', by go_num, rfl, rfl, by omega, by omega, by omega, by omega, ⟨by have := K1.out; rwa [K5.out, if_pos h0] at this, HC.out⟩, by first | rfl | trivial⟩
              case measure => simp [intOf]; omega
            · clear hst k1 k4 k5 hd hdg' hdg1 b46
              have b46 : ¬ (48 + (d : Int) = 46) := by omega
              have bb46 : ((48 + (d : Int)) == 46) = false := beq_eq_false_iff_ne.2 b46
              clear k46
              go_wp2_with fail
              go_roundw
              case rel => exact ⟨i + 1, n, dg, X', by go_num, rfl, rfl, by omega, by omega, by omega, by omega, ⟨by have := K1.out; rwa [K5.out, if_neg h0] at this, HC.out⟩, by first | rfl | trivial⟩
              case measure => simp [intOf]; omega
      · obtain rfl : i = S.size := by omega
        have hiI : ¬ (S.size : Int) < (S.size : Int) := by omega
        obtain ⟨hX, hdg⟩ := HEND.out X dg HX.out.1
        have hcp := HX.out.2
        rw [hX] at hcp
        by_cases hP3 : 3 < P.length
        · have hdt : dot = true := by
            cases hd : dot with
            | true => rfl
            | false => rw [HNOD.out hd] at hP3; simp at hP3
          rw [hdt, if_pos rfl] at hdg
          have hd3 : 3 < dg := by omega
          have HR : Hid (thouV true W P = (0, false)) := thou_no1 hP3
          clear hdg hcp hX hdt
          go_wp2_with fail
          go_ret2
          rw [HR.out]
          exact ⟨rfl, rfl⟩
        · have hd3 : ¬ 3 < dg := by rw [hdg]; split <;> omega
          obtain ⟨j0, hj0⟩ : ∃ j0, j0 = P.length := ⟨_, rfl⟩
          have hjd : (dg < 0 ∧ j0 = 0) ∨ (¬ dg < 0 ∧ dg = (j0 : Int)) := by
            cases hd : dot with
            | true => rw [hd, if_pos rfl] at hdg; right; omega
            | false => rw [hd] at hdg; left; rw [hj0, HNOD.out hd]; simp at hdg ⊢; omega
          have HCP := Lib.hid hcp
          have HJQ := Lib.hid hj0
          have hj3 : j0 ≤ 3 := by omega
          rcases hjd with ⟨k1, k2⟩ | ⟨k1, k2⟩
          · subst k2
            clear hdg hcp hX
            go_wp2_with fail
            go_loopw [5, 6] (fun u v wr => ∃ (j m : Nat), v = .int .i64 (j : Int) ∧ u = .int .i64 (m : Int) ∧ 0 ≤ j ∧ j ≤ 3 ∧ m ≤ 10995116277769 ∧ Hid (capd m (dvl (W ++ P) * 10 ^ (j - 0))) ∧ w = wr) (fun _ v _ => 3 - (intOf v).toNat)
            case atStart => exact ⟨0, n, rfl, rfl, Nat.le_refl _, by omega, hn, by rw [Nat.sub_self, Nat.pow_zero, Nat.mul_one]; exact HCP.out, rfl⟩
            case round =>
              obtain ⟨j, m, rfl, rfl, hj0, hj, hm, HC, rfl⟩ := hrel
              have hpj : dvl (W ++ P) * 10 ^ (j + 1 - 0) = dvl (W ++ P) * 10 ^ (j - 0) * 10 := by
                rw [show j + 1 - 0 = (j - 0) + 1 by omega, Nat.pow_succ, Nat.mul_assoc]
              have HPJ := Lib.hid hpj
              clear hpj
              by_cases hlt : j < 3
              · have hjI : (j : Int) < 3 := by omega
                by_cases hc : m < 1099511627776
                · have hcI : (m : Int) < 1099511627776 := by omega
                  have HC2 : Hid (capd (m * 10) (dvl (W ++ P) * 10 ^ (j + 1 - 0))) := by rw [Hid, HPJ.out]; exact capd_up (d := 0) HC.out hc
                  clear hiI
                  go_wp2_with fail
                  go_roundw
                  case rel => exact ⟨j + 1, m * 10, by go_num, by congr 1, by omega, by omega, by omega, HC2.out, by first | rfl | trivial⟩
                  case measure => simp [intOf]; omega
                · have hcI : ¬ (m : Int) < 1099511627776 := by omega
                  have HC2 : Hid (capd m (dvl (W ++ P) * 10 ^ (j + 1 - 0))) := capd_same HC.out hc (by rw [HPJ.out]; omega)
                  clear hiI
                  go_wp2_with fail
                  go_roundw
                  case rel => exact ⟨j + 1, m, by go_num, rfl, by omega, by omega, by omega, HC2.out, by first | rfl | trivial⟩
                  case measure => simp [intOf]; omega
              · obtain rfl : j = 3 := by omega
                have HTV : Hid (thouV true W P = if 1000000000 < m then (0, false) else (-(m : Int), true)) := by
                  have hc := HC.out
                  rw [show 3 - 0 = 3 - P.length by rw [← HJQ.out]] at hc
                  unfold Hid thouV
                  by_cases hg : 1000000000 < m
                  · rw [if_pos hg, if_pos (.inr (Nat.lt_of_lt_of_le hg hc.1))]
                  · have hmn := hc.2 (by omega)
                    rw [if_neg hg, ← hmn, if_neg (fun e => e.elim hP3 hg)]
                    rfl
                by_cases hg : 1000000000 < m
                · have hgI : 1000000000 < (m : Int) := by omega
                  have HR : Hid (thouV true W P = (0, false)) := by unfold Hid; rw [HTV.out, if_pos hg]
                  go_wp2_with fail
                  go_ret2
                  rw [HR.out]
                  exact ⟨rfl, rfl⟩
                · have hgI : ¬ 1000000000 < (m : Int) := by omega
                  have HR : Hid (thouV true W P = (-(m : Int), true)) := by unfold Hid; rw [HTV.out, if_neg hg]
                  go_wp2_with fail
                  go_ret2
                  rw [HR.out]
                  exact ⟨rfl, rfl⟩
          · subst k2
            have k0 : ¬ (j0 : Int) < 0 := by omega
            clear hdg hcp hX hj0
            go_wp2_with fail
            go_loopw [5, 6] (fun u v wr => ∃ (j m : Nat), v = .int .i64 (j : Int) ∧ u = .int .i64 (m : Int) ∧ j0 ≤ j ∧ j ≤ 3 ∧ m ≤ 10995116277769 ∧ Hid (capd m (dvl (W ++ P) * 10 ^ (j - j0))) ∧ w = wr) (fun _ v _ => 3 - (intOf v).toNat)
            case atStart => exact ⟨j0, n, rfl, rfl, Nat.le_refl _, by omega, hn, by rw [Nat.sub_self, Nat.pow_zero, Nat.mul_one]; exact HCP.out, rfl⟩
            case round =>
              obtain ⟨j, m, rfl, rfl, hj0, hj, hm, HC, rfl⟩ := hrel
              have hpj : dvl (W ++ P) * 10 ^ (j + 1 - j0) = dvl (W ++ P) * 10 ^ (j - j0) * 10 := by
                rw [show j + 1 - j0 = (j - j0) + 1 by omega, Nat.pow_succ, Nat.mul_assoc]
              have HPJ := Lib.hid hpj
              clear hpj
              by_cases hlt : j < 3
              · have hjI : (j : Int) < 3 := by omega
                by_cases hc : m < 1099511627776
                · have hcI : (m : Int) < 1099511627776 := by omega
                  have HC2 : Hid (capd (m * 10) (dvl (W ++ P) * 10 ^ (j + 1 - j0))) := by rw [Hid, HPJ.out]; exact capd_up (d := 0) HC.out hc
                  clear hiI
                  go_wp2_with fail
                  go_roundw
                  case rel => exact ⟨j + 1, m * 10, by go_num, by congr 1, by omega, by omega, by omega, HC2.out, by first | rfl | trivial⟩
                  case measure => simp [intOf]; omega
                · have hcI : ¬ (m : Int) < 1099511627776 := by omega
                  have HC2 : Hid (capd m (dvl (W ++ P) * 10 ^ (j + 1 - j0))) := capd_same HC.out hc (by rw [HPJ.out]; omega)
                  clear hiI
                  go_wp2_with fail
                  go_roundw
                  case rel => exact ⟨j + 1, m, by go_num, rfl, by omega, by omega, by omega, HC2.out, by first | rfl | trivial⟩
                  case measure => simp [intOf]; omega
              · obtain rfl : j = 3 := by omega
                have HTV : Hid (thouV true W P = if 1000000000 < m then (0, false) else (-(m : Int), true)) := by
                  have hc := HC.out
                  rw [show 3 - j0 = 3 - P.length by rw [HJQ.out]] at hc
                  unfold Hid thouV
                  by_cases hg : 1000000000 < m
                  · rw [if_pos hg, if_pos (.inr (Nat.lt_of_lt_of_le hg hc.1))]
                  · have hmn := hc.2 (by omega)
                    rw [if_neg hg, ← hmn, if_neg (fun e => e.elim hP3 hg)]
                    rfl
                by_cases hg : 1000000000 < m
                · have hgI : 1000000000 < (m : Int) := by omega
                  have HR : Hid (thouV true W P = (0, false)) := by unfold Hid; rw [HTV.out, if_pos hg]
                  go_wp2_with fail
                  go_ret2
                  rw [HR.out]
                  exact ⟨rfl, rfl⟩
                · have hgI : ¬ 1000000000 < (m : Int) := by omega
                  have HR : Hid (thouV true W P = (-(m : Int), true)) := by unfold Hid; rw [HTV.out, if_neg hg]
                  go_wp2_with fail
                  go_ret2
                  rw [HR.out]
                  exact ⟨rfl, rfl⟩
end Go.Proofs.YtmhejppfjngbhaaDoor
