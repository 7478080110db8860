/- sheets: thousandths: the program's -/
import Derived.Test.YtmhejppfjngbhaaDoorYt
import Derived.Test.YtmhejppfjngbhaaDoorYu
import Derived.Shelf.Strings.SlTrimAscii
namespace Go.Proofs.YtmhejppfjngbhaaDoor
set_option linter.unusedVariables false
set_option linter.unusedSimpArgs false
open Go.RowKit Go.Cas

theorem dvl_zero (l : List UInt8) (k : Nat) : dvl (l ++ List.replicate k 48) = dvl l * 10 ^ k := by
  induction k with
  | zero => simp
  | succ k ih => rw [List.replicate_succ', ← List.append_assoc, dvl_snoc, ih, Nat.pow_succ, ← Nat.mul_assoc]; rfl
theorem dvl_take {l : List UInt8} {i : Nat} (h : i < l.length) : dvl (l.take (i + 1)) = dvl (l.take i) * 10 + (l[i].toNat - 48) := by
  rw [List.take_succ_eq_append_getElem h, dvl_snoc]
theorem dvl_takew {a l : List UInt8} {i : Nat} (h : i < l.length) : dvl (a ++ l.take (i + 1)) = dvl (a ++ l.take i) * 10 + (l[i].toNat - 48) := by
  rw [List.take_succ_eq_append_getElem h, ← List.append_assoc, dvl_snoc]
theorem ba_get {l : List UInt8} {i : Nat} (h : i < (⟨l.toArray⟩ : ByteArray).size) : (⟨l.toArray⟩ : ByteArray)[i] = l[i]'(by rwa [ba_size] at h) := by
  show l.toArray[i]'_ = _
  simp
theorem c_trimSg {s : ByteArray} {sg W P : List UInt8} {dot : Bool} (h : Num s.data.toList sg W P dot) (w : World) : Calls Tryd.prog 54 #[.string s, .string (ByteArray.mk #[43, 45])] w fun e w' => e = .returned (.string ⟨(W ++ (if dot = true then 46 :: P else [])).toArray⟩) ∧ Below w.heap.size w w' := by
  have h1 := Any.strings_TrimLeft_laid Tryd.lays161 (by kernel_rfl) s (ByteArray.mk #[43, 45]) w (by decide) (fun j b hb => by
    have hj : j < 2 := by have := (List.getElem?_eq_some_iff.1 hb).1; exact this
    rcases (by omega : j = 0 ∨ j = 1) with rfl | rfl
    · injection hb with hb; subst hb; decide
    · injection hb with hb; subst hb; decide)
  rw [show (ByteArray.mk #[43, 45]).data.toList = [43, 45] from rfl, h.trim] at h1
  exact h1
theorem c_cutDot {s : List UInt8} {sg W P : List UInt8} {dot : Bool} (h : Num s sg W P dot) (hs : s.length ≤ 1000000000) (w : World) (hm : MxC w) : Calls Tryd.prog 16 #[.string ⟨(W ++ (if dot = true then 46 :: P else [])).toArray⟩, .string (ByteArray.mk #[46])] w fun e w' => ∃ f, e = .returned (.tuple #[.string ⟨W.toArray⟩, .string ⟨P.toArray⟩, f]) ∧ ∃ n, w' = w.drewN n := by
  obtain ⟨m, hm⟩ := hm
  have hz : (W ++ (if dot = true then 46 :: P else [])).length ≤ s.length := by
    have e := congrArg List.length h.eq
    rw [List.length_append] at e
    omega
  have h1 := Tryd.strings_Cut ⟨(W ++ (if dot = true then 46 :: P else [])).toArray⟩ (ByteArray.mk #[46]) m w (by rw [ba_size]; omega) hm
  rw [show (ByteArray.mk #[46]).data.toList = [46] from rfl, show (⟨(W ++ (if dot = true then 46 :: P else [])).toArray⟩ : ByteArray).data.toList = W ++ (if dot = true then 46 :: P else []) by simp, h.cut.1, h.cut.2] at h1
  exact h1.mono fun e w' ⟨h2, h3⟩ => ⟨_, h2, h3⟩
theorem c_hpNeg {s : ByteArray} {sg W P : List UInt8} {dot : Bool} (h : Num s.data.toList sg W P dot) (w : World) : Calls Tryd.prog 15 #[.string s, .string (ByteArray.mk #[45])] w fun e w' => e = .returned (.bool (decide (sg = [45]))) ∧ w = w' := by
  have := Tryd.strings_HasPrefix s (ByteArray.mk #[45]) w
  rw [show (ByteArray.mk #[45]).data.toList = [45] from rfl, h.neg] at this
  exact this.mono fun _ _ h => ⟨h.1, h.2.symm⟩
theorem thou_no1 {ng : Bool} {W P : List UInt8} (h : 3 < P.length) : thouV ng W P = (0, false) := by unfold thouV; rw [if_pos (.inl h)]
theorem thou_no2 {ng : Bool} {W P : List UInt8} {i : Nat} (h : 10000000 < dvl (W.take i)) (hP : P.length ≤ 3) : thouV ng W P = (0, false) := by
  unfold thouV
  refine if_pos (.inr ?_)
  have h1 := dvl_ge (W.take i) (W.drop i)
  rw [List.take_append_drop] at h1
  have h2 := dvl_ge3 W P 3 hP
  omega
abbrev thR (x : Int × Bool) : Ending := .returned (.tuple #[.int .i64 x.1, .bool x.2])
set_option maxHeartbeats 8000000 in
set_option maxRecDepth 100000 in
theorem c_Thou {s : ByteArray} {sg W P : List UInt8} {dot : Bool} (h : Num s.data.toList sg W P dot) (w : World) (hm : MxC w) (hs : s.size ≤ 1000000000) : Calls Tryd.prog 35 #[.string s] w fun e w' => e = thR (thouV (decide (sg = [45])) W P) ∧ Below w.heap.size w w' := by
  have HP := Lib.hid (c_hpNeg h w)
  have HT := Lib.hid (c_trimSg h w)
  have HC := Lib.hid (c_cutDot h (by simpa using hs))
  have HMX := Lib.hid hm
  have hz0 := hm.lt
  have hWP : W.length + P.length ≤ 1000000000 + 1 := by
    have := congrArg List.length h.eq
    rw [show s.data.toList.length = s.size from rfl, List.length_append, List.length_append] at this
    cases hd : dot with
    | true => rw [hd, if_pos rfl, List.length_cons] at this; omega
    | false => rw [hd, if_neg (by simp)] at this; rw [h.no hd]; simp at this ⊢; omega
  have HW := Lib.hid h.w
  have HPD := Lib.hid h.p
  clear h hm
  generalize (decide (sg = [45])) = ng at *
  generalize (⟨(W ++ (if dot = true then 46 :: P else [])).toArray⟩ : ByteArray) = R at *
  obtain ⟨A, hA⟩ : ∃ A : ByteArray, A = ⟨W.toArray⟩ := ⟨_, rfl⟩
  obtain ⟨B, hB⟩ : ∃ B : ByteArray, B = ⟨P.toArray⟩ := ⟨_, rfl⟩
  rw [← hA, ← hB] at HC
  have hAz : A.size = W.length := by rw [hA, ba_size]
  have hBz : B.size = P.length := by rw [hB, ba_size]
  have HAG : Hid (∀ i (h : i < A.size), (A[i].toNat : Int) = 48 + ((A[i].toNat - 48 : Nat) : Int) ∧ A[i].toNat - 48 ≤ 9 ∧ dvl (W.take (i + 1)) = dvl (W.take i) * 10 + (A[i].toNat - 48)) := by
    intro i h
    subst hA
    have hl : i < W.length := by rwa [ba_size] at h
    rw [ba_get h]
    have := dgC_b (HW.out W[i] (List.getElem_mem _))
    exact ⟨by omega, by omega, dvl_take hl⟩
  obtain ⟨PP, hPP⟩ : ∃ PP, PP = P ++ List.replicate (3 - P.length) 48 := ⟨_, rfl⟩
  have HPP : Hid (∀ j, j < 3 → (∀ h : j < B.size, (B[j].toNat : Int) = 48 + ((B[j].toNat - 48 : Nat) : Int) ∧ B[j].toNat - 48 ≤ 9 ∧ dvl (W ++ PP.take (j + 1)) = dvl (W ++ PP.take j) * 10 + (B[j].toNat - 48)) ∧ (¬ j < B.size → dvl (W ++ PP.take (j + 1)) = dvl (W ++ PP.take j) * 10)) := by
    intro j hj
    have hl : j < PP.length := by rw [hPP, List.length_append, List.length_replicate]; omega
    have hs := dvl_takew (a := W) hl
    constructor
    · intro h
      subst hB
      have hl2 : j < P.length := by rwa [ba_size] at h
      have e : PP[j] = P[j] := by simp only [hPP]; rw [List.getElem_append_left hl2]
      rw [ba_get h]
      rw [e] at hs
      have := dgC_b (HPD.out P[j] (List.getElem_mem _))
      exact ⟨by omega, by omega, hs⟩
    · intro h
      rw [hBz] at h
      have e : PP[j] = 48 := by simp only [hPP]; rw [List.getElem_append_right (by omega), List.getElem_replicate]
      rw [e] at hs
      exact hs
  have HFIN : Hid (P.length ≤ 3 → dvl (W ++ PP.take 3) = dvl (W ++ P) * 10 ^ (3 - P.length)) := by
    intro h
    rw [List.take_of_length_le (by rw [hPP, List.length_append, List.length_replicate]; omega), hPP, ← List.append_assoc, dvl_zero]
  clear hPP
  have HAZ := Lib.hid hAz
  have HBZ := Lib.hid hBz
  have hAz2 : A.size ≤ 1000000001 := by omega
  have hBz2 : B.size ≤ 1000000001 := by omega
  clear hA hB hAz hBz hWP
  go_enter Tryd.func35, Tryd.ntmps35
  go_upto_region 4 with (first
    | (go_at_call 15; refine (HP.out).mono ?_; rintro e w' ⟨rfl, rfl⟩)
    | (go_at_call 54; refine (HT.out).mono ?_; rintro e w2 ⟨rfl, hb2⟩; have HB2 := Lib.hid hb2; clear hb2)
    | (go_at_call 16; refine (HC.out _ (HMX.out.below HB2.out hz0)).mono ?_; rintro e w3 ⟨f, rfl, nn, rfl⟩))
  have HB3 : Hid (Below w.heap.size w (w2.drewN nn)) := bl_drewN HB2.out _
  obtain ⟨w3, hw3⟩ : ∃ w3, w3 = w2.drewN nn := ⟨_, rfl⟩
  rw [← hw3] at HB3 ⊢
  clear hw3 HP HT HC
  by_cases hP3 : 3 < B.size
  · have hPI : (3 : Int) < (B.size : Int) := by omega
    have HR : Hid (thouV ng W P = (0, false)) := thou_no1 (by rw [← HBZ.out]; exact hP3)
    go_wp2_with fail
    go_ret2
    rw [HR.out]
    exact ⟨rfl, HB3.out⟩
  · have hPI : ¬ (3 : Int) < (B.size : Int) := by omega
    have HP3 := Lib.hid (show P.length ≤ 3 by rw [← HBZ.out]; omega)
    go_wp2_with fail
    go_loopw [8, 26] (fun u v wr => ∃ (i n : Nat), v = .int .i64 (i : Int) ∧ u = .int .i64 (n : Int) ∧ i ≤ A.size ∧ n ≤ 10000000 ∧ Hid (n = dvl (W.take i)) ∧ w3 = wr) (fun _ v _ => A.size - (intOf v).toNat)
    case atStart => exact ⟨0, 0, rfl, rfl, by omega, by omega, rfl, rfl⟩
    case round =>
      obtain ⟨i, n, rfl, rfl, hi, hn, HN, rfl⟩ := hrel
      by_cases hlt : i < A.size
      · have hiI : (i : Int) < (A.size : Int) := by omega
        have hi0 : 0 ≤ (i : Int) := by omega
        obtain ⟨g1, g2, g3⟩ := HAG.out i hlt
        obtain ⟨d, hd⟩ : ∃ d, d = A[i].toNat - 48 := ⟨_, rfl⟩
        rw [← hd] at g1 g2 g3
        obtain ⟨m, hm⟩ : ∃ m, m = n * 10 + d := ⟨_, rfl⟩
        have hmI : (n : Int) * 10 + (d : Int) = (m : Int) := by omega
        rw [← HN.out, ← hm] at g3
        have G3 := Lib.hid g3
        have hm9 : m ≤ 100000009 := by omega
        clear hd hm g3
        by_cases hb : 10000000 < m
        · have hbI : 10000000 < (m : Int) := by omega
          have HR : Hid (thouV ng W P = (0, false)) := thou_no2 (i := i + 1) (by rw [G3.out]; exact hb) HP3.out
          go_wp2_with fail
          go_ret2
          rw [HR.out]
          exact ⟨rfl, HB3.out⟩
        · have hbI : ¬ 10000000 < (m : Int) := by omega
          go_wp2_with fail
          go_roundw
          case rel => exact ⟨i + 1, m, by go_num, by congr 1; omega, by omega, by omega, G3.out.symm, by first | rfl | trivial⟩
          case measure => simp [intOf]; omega
      · have hiI : ¬ (i : Int) < (A.size : Int) := by omega
        have HN2 : Hid (n = dvl (W ++ PP.take 0)) := by
          unfold Hid; rw [HN.out, List.take_of_length_le (by rw [← HAZ.out]; omega)]; simp
        go_wp2_with fail
        go_loopw [8, 40] (fun u v wr => ∃ (j n : Nat), v = .int .i64 (j : Int) ∧ u = .int .i64 (n : Int) ∧ j ≤ 3 ∧ n < 10000001 * 10 ^ j ∧ Hid (n = dvl (W ++ PP.take j)) ∧ w3 = wr) (fun _ v _ => 3 - (intOf v).toNat)
        case atStart => exact ⟨0, n, rfl, rfl, by omega, by omega, HN2.out, rfl⟩
        case round =>
          obtain ⟨j, n, rfl, rfl, hj, hn, HN, rfl⟩ := hrel
          by_cases hlt : j < 3
          · have hjI : (j : Int) < 3 := by omega
            have hj0 : 0 ≤ (j : Int) := by omega
            have hpw : 10 ^ j ≤ 10 ^ 2 := Nat.pow_le_pow_right (by decide) (by omega)
            have hn9 : n ≤ 1000000100 := by omega
            have hs1 : 10 ^ (j + 1) = 10 ^ j * 10 := Nat.pow_succ ..
            obtain ⟨q1, q2⟩ := HPP.out j hlt
            by_cases hB : j < B.size
            · obtain ⟨g1, g2, g3⟩ := q1 hB
              have hBI : (j : Int) < (B.size : Int) := by omega
              obtain ⟨d, hd⟩ : ∃ d, d = B[j].toNat - 48 := ⟨_, rfl⟩
              rw [← hd] at g1 g2 g3
              have hlt2 : n * 10 + d < 10000001 * 10 ^ (j + 1) := by rw [hs1]; omega
              rw [← HN.out] at g3
              have G3 := Lib.hid g3.symm
              have HL2 := Lib.hid hlt2
              clear hd g3 q1 q2 hpw hs1 hn hlt2
              go_wp2_with fail
              go_roundw
              case rel => exact ⟨j + 1, n * 10 + d, by go_num, by congr 1; omega, by omega, HL2.out, G3.out, by first | rfl | trivial⟩
              case measure => simp [intOf]; omega
            · have g3 := q2 hB
              have hBI : ¬ (j : Int) < (B.size : Int) := by omega
              have hlt2 : n * 10 < 10000001 * 10 ^ (j + 1) := by rw [hs1]; omega
              rw [← HN.out] at g3
              have G3 := Lib.hid g3.symm
              have HL2 := Lib.hid hlt2
              clear g3 q1 q2 hpw hs1 hn hlt2
              go_wp2_with fail
              go_roundw
              case rel => exact ⟨j + 1, n * 10, by go_num, by congr 1, by omega, HL2.out, G3.out, by first | rfl | trivial⟩
              case measure => simp [intOf]; omega
          · obtain rfl : j = 3 := by omega
            have hM : n = dvl (W ++ P) * 10 ^ (3 - P.length) := HN.out.trans (HFIN.out HP3.out)
            have hn9 : n ≤ 10000001000 := by omega
            have HTV : Hid (thouV ng W P = if 1000000000 < n then (0, false) else ((if ng = true then -(n : Int) else (n : Int)), true)) := by
              unfold Hid thouV
              rw [← hM]
              by_cases hg : 1000000000 < n
              · rw [if_pos (.inr hg), if_pos hg]
              · rw [if_neg (fun e => e.elim (fun e => absurd HP3.out (by omega)) hg), if_neg hg]
            clear hM hn
            by_cases hg : 1000000000 < n
            · have hgI : 1000000000 < (n : Int) := by omega
              have HR : Hid (thouV ng W P = (0, false)) := by unfold Hid; rw [HTV.out, if_pos hg]
              go_wp2_with fail
              go_ret2
              rw [HR.out]
              exact ⟨rfl, HB3.out⟩
            · have hgI : ¬ 1000000000 < (n : Int) := by omega
              cases ng with
              | true =>
                have HR : Hid (thouV true W P = (-(n : Int), true)) := by unfold Hid; rw [HTV.out, if_neg hg]; rfl
                go_wp2_with fail
                go_ret2
                rw [HR.out]
                exact ⟨rfl, HB3.out⟩
              | false =>
                have HR : Hid (thouV false W P = ((n : Int), true)) := by unfold Hid; rw [HTV.out, if_neg hg]; rfl
                go_wp2_with fail
                go_ret2
                rw [HR.out]
                exact ⟨rfl, HB3.out⟩
end Go.Proofs.YtmhejppfjngbhaaDoor
