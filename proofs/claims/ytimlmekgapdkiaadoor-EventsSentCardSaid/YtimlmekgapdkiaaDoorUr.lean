/- the document's tree of a list of twigs: FromTwigs -/
import Derived.Test.YtimlmekgapdkiaaDoorUq
import Derived.Test.YtimlmekgapdkiaaDoorUm
import Derived.Test.YtimlmekgapdkiaaDoorTmv
namespace Go.Proofs.YtimlmekgapdkiaaDoor
set_option linter.unusedVariables false
set_option linter.unusedSimpArgs false
open Go.RowKit Go.Cas

/-- the tree while it is made -/
structure RF (w1 : World) (R : Nat) (T : List Nod) (n : Nat) (τ : Nat → Nat) (wr : World) : Prop where
  ts : RS w1.heap.size R T n τ wr
  bel : Below w1.heap.size w1 wr
theorem RF.op {w1 wr w' : World} {R n n' : Nat} {T T' : List Nod} {τ : Nat → Nat} (h : RF w1 R T n τ wr) (ho : ROp w1.heap.size R T' n' τ wr w') : ∃ τ', RF w1 R T' n' τ' w' := by
  obtain ⟨τ', h1, _, h3⟩ := ho
  refine ⟨τ', h1, h.bel.trans (h3.below fun k hk => ⟨Nat.lt_of_lt_of_le hk h.bel.size, fun e => ?_⟩)⟩
  obtain ⟨L, cap, tv, xs, M, h4, _⟩ := h.ts
  have := (h4.tB k e).1
  omega
theorem RF.draw {w1 wr : World} {R n : Nat} {T : List Nod} {τ : Nat → Nat} (h : RF w1 R T n τ wr) : RF w1 R T n τ wr.drew :=
  ⟨h.ts.below (bl_drew (Below.refl _ _)), bl_drew h.bel⟩
theorem ndW_k (x : Twg) : (ndW isNm x).k = 2 ∨ (ndW isNm x).k = 3 ∨ (ndW isNm x).k = 4 := by
  unfold ndW
  split
  · exact .inl rfl
  · split
    · exact .inr (.inr rfl)
    · exact .inr (.inl rfl)
def FtRet (w : World) (xs : List Twg) (e : Ending) (w' : World) : Prop :=
  ∃ B R L cap τ M, e = .returned (.agg #[.slice (some ⟨L, 0, none⟩) (xs.length + 1) cap, .slice none 0 0]) ∧ w.heap.size ≤ B ∧ RT B R L cap 0 (.slice none 0 0) [] τ M w' ∧ M.map NV.x = plainT xs ∧ TI (plainT xs) xs.length ∧ AtB (plainT xs) 1000 ∧ Below w.heap.size w w'
def KsMid (y : Twg) (kk : Int) (ss : ByteArray) : Prop := mkN kk ss = ndW isNm y ∧ ((kk = 2 ∧ isNm ss = true) ∨ (kk ≠ 2 ∧ ss.size ≤ 20000)) ∧ ss.size ≤ maxLen
set_option maxRecDepth 100000 in
set_option maxHeartbeats 32000000 in
theorem c_FromTwigs {w : World} {v : Value} {n : Nat} {L : List TwV} (hr : RdT w w.heap.size v n L) (hn : L.length = n) (hfp : FewP (L.map TwV.x)) :
    Calls Tryd.prog 14 #[v] w (FtRet w (L.map TwV.x)) := by
  have HR := Lib.hid hr
  have HFP := Lib.hid hfp
  have hn60 : n ≤ 60 := by have := hfp.1; rw [List.length_map, hn] at this; exact this
  have HN := Lib.hid hn
  obtain ⟨⟨_, A, c, rfl, _, _⟩, _⟩ := hr
  clear hn hfp
  obtain ⟨w1, hw1⟩ : ∃ w1, w1 = w.alloc (.cells #[.slice none 0 0, .slice none 0 0] 36) := ⟨_, rfl⟩
  have HW1 := Lib.hid hw1
  have hb1 : Below w.heap.size w w1 := by rw [hw1]; exact bl_alloc (Below.refl _ _) _
  have HB1 := Lib.hid hb1
  have hz1 : w1.heap.size = w.heap.size + 1 := by rw [hw1]; simp
  have HZ1 := Lib.hid hz1
  have hk1 : Bk w1 w.heap.size 36 #[.slice none 0 0, .slice none 0 0] := by rw [hw1]; exact bk_new' _ _ _ rfl
  have HK1 := Lib.hid hk1
  have HNT := Lib.hid (c_rNewTree w1)
  clear hw1 hb1 hz1 hk1
  go_enter Tryd.func14, Tryd.ntmps14
  go_upto_region 1 with fail
  rw [← HW1.out]
  go_upto_region 2 with (go_at_call 50; refine (HNT.out).mono ?_; rintro e w2 ⟨L0, rfl, hL0, hk2, hb2⟩; have HL0 := Lib.hid hL0; have HK2 := Lib.hid hk2; have HB2 := Lib.hid hb2; clear hL0 hk2 hb2)
  obtain ⟨R, hR⟩ : ∃ R, R = w2.heap.size := ⟨_, rfl⟩
  obtain ⟨w3, hw3⟩ : ∃ w3, w3 = w2.alloc (.cells #[.slice (some ⟨L0, 0, none⟩) 1 1, .slice none 0 0] 36) := ⟨_, rfl⟩
  rw [← hw3, ← hR]
  have hz2 : w1.heap.size ≤ w2.heap.size := HB2.out.size
  have hLl := HK2.out.lt
  have hz3 : w3.heap.size = w2.heap.size + 1 := by rw [hw3]; simp
  have hP0 : RF w1 R [root0] 0 (fun k => if k = R then 1 else if k = L0 then 2 else 0) w3 := by
    have e3 : Bk w3 L0 105 #[.int .i64 1, .string ByteArray.empty, .string ByteArray.empty, .slice none 0 0, .int .i64 (-1), .slice none 0 0] := by rw [hw3]; exact HK2.out.alloc _
    refine ⟨⟨L0, 1, .slice none 0 0, [], [⟨root0, .slice none 0 0, .slice none 0 0⟩], ⟨?_, ⟨_, e3, by decide, rfl, by decide, by decide, rfl⟩, World.ownsRow_nil _ _ _ _, fun i y hy => ?_, fun i y hy => ?_, if_pos rfl, ?_, fun k e => by simp [Value.ownBlock] at e, fun i y hy k e => ?_, fun k hk => ?_⟩, rfl⟩, ?_⟩
    · rw [hw3]; exact bk_new' _ _ _ hR
    · obtain rfl : y = ⟨root0, .slice none 0 0, .slice none 0 0⟩ := by
        rcases i with _ | i
        · simpa using hy.symm
        · simp at hy
      exact World.ownsRow_nil _ _ _ _
    · obtain rfl : y = ⟨root0, .slice none 0 0, .slice none 0 0⟩ := by
        rcases i with _ | i
        · simpa using hy.symm
        · simp at hy
      exact RdZ.nil _ _ _
    · show (if L0 = R then 1 else if L0 = L0 then 2 else 0) = 2
      rw [if_neg (by omega), if_pos rfl]
    · obtain rfl : y = ⟨root0, .slice none 0 0, .slice none 0 0⟩ := by
        rcases i with _ | i
        · simpa using hy.symm
        · simp at hy
      simp [Value.ownBlock] at e
    · have hk : (if k = R then 1 else if k = L0 then 2 else 0) ≠ 0 := hk
      have hL0 := HL0.out
      by_cases e1 : k = R
      · omega
      · rw [if_neg e1] at hk
        by_cases e2 : k = L0
        · omega
        · rw [if_neg e2] at hk; omega
    · rw [hw3]; exact bl_alloc HB2.out _
  have HP0 := Lib.hid hP0
  clear hP0 hw3 hR hz2 hLl hz3
  go_wp2_with fail
  go_loopw [4] (fun a wr => ∃ (k : Nat) (T : List Nod) (n2 : Nat) (τ : Nat → Nat), a = .int .i64 (k : Int) ∧ k ≤ n ∧ Hid (RF w1 R T n2 τ wr) ∧ Hid (TI T k) ∧ Hid (T = twsW isNm setA [root0] 0 ((L.map TwV.x).take k)) ∧ Hid (AtB T (10 * k)) ∧ Hid (n2 ≤ 100 * k)) (fun a _ => n - (intOf a).toNat)
  case atStart => exact ⟨0, [root0], 0, _, rfl, by omega, HP0.out, TI0, rfl, fun j => by rcases j with _ | j <;> simp [ndA, root0, n0], by simp [Hid]⟩
  case round =>
    obtain ⟨k, T, n2, τ, rfl, hk, HP, HTI, HTW, HAB, HN2⟩ := hrel
    by_cases hlt : k < n
    · have hik : (k : Int) < (n : Int) := by omega
      obtain ⟨y, hy⟩ : ∃ y, L[k]? = some y := ⟨_, List.getElem?_eq_getElem (by have := HN.out; omega)⟩
      obtain ⟨g, o, rfl, hg, hcell⟩ := rd_tw HR.out.1 hy
      have hbw : Below w.heap.size w wr := HB1.out.trans (HP.out.bel.mono (by have := HZ1.out; omega))
      obtain ⟨d0, d1, d2, d3, d4⟩ := hcell wr hbw
      have HCELL := Lib.hid hcell
      have hyR := HR.out.2 y (List.mem_of_getElem? hy)
      have HYR := Lib.hid hyR
      have HY := Lib.hid hy
      have HFX := Lib.hid (HFP.out.2 y.x (List.mem_map_of_mem (List.mem_of_getElem? hy)))
      obtain ⟨⟨_, A3, c3, e3, _, _⟩, ⟨_, A4, c4, e4, _, _⟩, _⟩ := hyR
      rw [e3] at d3
      rw [e4] at d4
      have HE3 := Lib.hid e3
      have HE4 := Lib.hid e4
      obtain ⟨xk, hxk⟩ : ∃ xk, xk = y.x.k := ⟨_, rfl⟩
      obtain ⟨xt, hxt⟩ : ∃ xt, xt = y.x.tag := ⟨_, rfl⟩
      obtain ⟨xx, hxx⟩ : ∃ xx, xx = y.x.txt := ⟨_, rfl⟩
      rw [← hxk] at d0
      rw [← hxt] at d1
      rw [← hxx] at d2
      have HXK := Lib.hid hxk
      have HXT := Lib.hid hxt
      have HXX := Lib.hid hxx
      have HNM := Lib.hid (c_IsName xt wr (by rw [hxt]; exact HYR.out.2.2.1.1))
      have hlT : T.length = k + 1 := HTI.out.len
      have hD3 : ∀ W', Below wr.heap.size wr W' → (W'.cell? ⟨g, o + k * 5 + 3, none⟩ = some (.slice A3 y.x.at_.length c3) ∧ W'.cell? ⟨g, o + k * 5 + 4, none⟩ = some (.slice A4 y.x.ki.length c4)) := fun W' hb => ⟨(hb.cell (p := ⟨g, _, none⟩) (Nat.lt_of_lt_of_le hg hbw.size)).trans d3, (hb.cell (p := ⟨g, _, none⟩) (Nat.lt_of_lt_of_le hg hbw.size)).trans d4⟩
      have HLT := Lib.hid hlT
      have HBW := Lib.hid hbw
      clear hcell hy e3 e4 hxk hxt hxx hD3 hlT hbw
      go_upto_region 8 with (go_at_call 51; refine (HNM.out).mono ?_; rintro e w' ⟨rfl, rfl⟩)
      obtain ⟨nm, hnm⟩ : ∃ nm, nm = isNm xt := ⟨_, rfl⟩
      rw [← hnm]
      have HNMM := Lib.hid hnm
      clear hnm
      go_cut [40] (fun v40 wx => v40 = .bool (decide (xk = 2) && nm) ∧ wx = wr)
      case first =>
        by_cases h2 : xk = 2
        · have b2 : (xk == 2) = true := by rw [beq_iff_eq]; exact h2
          go_wp2_with fail
          all_goals
            go_meet
            exact ⟨by simp [h2], rfl⟩
        · have b2 : (xk == 2) = false := by rw [beq_eq_false_iff_ne]; exact h2
          go_wp2_with fail
          all_goals
            go_meet
            exact ⟨by simp [h2], rfl⟩
      case rest =>
        obtain ⟨rfl, hwc⟩ := hcut
        obtain rfl : wr = wc := hwc.symm
        obtain ⟨nb, hnb⟩ : ∃ nb, nb = (decide (xk = 2) && nm) := ⟨_, rfl⟩
        rw [← hnb]
        have HNB := Lib.hid hnb
        clear hnb
        go_upto_if 40 with (fail)
        go_cut [6, 7] (fun v6 v7 wx => wx = wr ∧ ∃ kk ss, v6 = .int .i64 kk ∧ v7 = .string ss ∧ Hid (KsMid y.x kk ss))
        case first =>
          cases nb
          · have hno : ¬ (y.x.k = 2 ∧ isNm y.x.tag = true) := fun h => by
              have := HNB.out
              rw [HXK.out, HNMM.out, HXT.out, h.2, decide_eq_true h.1] at this
              cases this
            have hsz : xx.size ≤ 20000 ∧ xx.size ≤ maxLen := by rw [HXX.out]; exact ⟨by have := HFX.out.1; omega, HYR.out.2.2.1.2⟩
            have HNO := Lib.hid hno
            have HSZ := Lib.hid hsz
            clear hno hsz
            by_cases h4 : xk = 4
            · have b4 : (xk == 4) = true := by rw [beq_iff_eq]; exact h4
              have HX4 := Lib.hid h4
              clear h4
              go_wp2_with fail
              go_meet
              refine ⟨rfl, 4, xx, rfl, rfl, ?_, .inr ⟨by decide, HSZ.out.1⟩, HSZ.out.2⟩
              unfold mkN ndW
              rw [if_neg (by decide), if_neg HNO.out, if_pos (by rw [← HXK.out]; exact HX4.out), HXX.out]
            · have b4 : (xk == 4) = false := by rw [beq_eq_false_iff_ne]; exact h4
              have HX4 := Lib.hid h4
              clear h4
              go_wp2_with fail
              go_meet
              refine ⟨rfl, 3, xx, rfl, rfl, ?_, .inr ⟨by decide, HSZ.out.1⟩, HSZ.out.2⟩
              unfold mkN ndW
              rw [if_neg (by decide), if_neg HNO.out, if_neg (by rw [← HXK.out]; exact HX4.out), HXX.out]
          · have hyes : y.x.k = 2 ∧ isNm xt = true := by
              have := HNB.out.symm
              rw [Bool.and_eq_true, decide_eq_true_eq, HNMM.out] at this
              exact ⟨by rw [← HXK.out]; exact this.1, this.2⟩
            have HYE := Lib.hid hyes
            clear hyes
            go_wp2_with fail
            go_meet
            refine ⟨rfl, 2, xt, rfl, rfl, ?_, .inl ⟨rfl, HYE.out.2⟩, by rw [HXT.out]; exact HYR.out.2.2.1.1⟩
            unfold mkN ndW
            rw [if_pos rfl, if_pos ⟨HYE.out.1, by rw [← HXT.out]; exact HYE.out.2⟩, HXT.out]
        case rest =>
          obtain ⟨hwc, kk, ss, rfl, rfl, HKS⟩ := hcut
          obtain rfl : wr = wc := hwc.symm
          have HMK : Hid (Calls Tryd.prog 52 #[.pointer (some ⟨R, 0, none⟩), .int .i64 kk, .string ss] wr (fun e w' => e = .returned (.tuple #[.int .i64 ((k : Int) + 1), .int .i64 0]) ∧ ROp w1.heap.size R (T ++ [ndW isNm y.x]) (n2 + 1) τ wr w')) := by
            have hlT := HLT.out
            have := c_rMake HP.out.ts (by omega) (HAB.out.few (by omega) HTI.out (by omega)) (by have := HN2.out; omega) kk ss HKS.out.2.1 HKS.out.2.2
            rw [HKS.out.1] at this
            refine Calls.mono this ?_
            rintro e w' ⟨he, ho⟩
            exact ⟨by rw [he, hlT]; rfl, ho⟩
          go_wp2_with (go_at_call 52; refine (HMK.out).mono ?_; rintro e w4 ⟨rfl, hop⟩; obtain ⟨τ4, hp4⟩ := HP.out.op hop; have HP4 := Lib.hid hp4; clear hop hp4)
          have HI1 : Hid (TI (T ++ [ndW isNm y.x]) (k + 1)) := HTI.out.add (ndW_facts y.x).2.1 (ndW_facts y.x).2.2.2
          have hnw : ndA (T ++ [ndW isNm y.x]) (k + 1) = ndW isNm y.x := by rw [ndA_app, if_pos HLT.out.symm]
          have HKD : Hid (((ndA (T ++ [ndW isNm y.x]) (k + 1)).k = 2 ∨ (ndA (T ++ [ndW isNm y.x]) (k + 1)).k = 3 ∨ (ndA (T ++ [ndW isNm y.x]) (k + 1)).k = 4) ∧ (ndA (T ++ [ndW isNm y.x]) (k + 1)).pa = -1) := by rw [hnw]; exact ⟨ndW_k _, (ndW_facts y.x).2.1⟩
          have HAB1 : Hid (AtB (T ++ [ndW isNm y.x]) (10 * k)) := HAB.out.add (ndW_facts y.x).2.2.1
          have hna : y.x.at_.length ≤ 8 := HFX.out.2.2.1
          have hnk : y.x.ki.length ≤ 60 := HFX.out.2.2.2.1
          clear hnw
          go_loopw [10] (fun a wx => ∃ (m : Nat) (T2 : List Nod) (n3 : Nat) (τ2 : Nat → Nat), a = .int .i64 (m : Int) ∧ m ≤ y.x.at_.length ∧ Hid (RF w1 R T2 n3 τ2 wx) ∧ Hid (TI T2 (k + 1)) ∧ Hid (T2 = (y.x.at_.take m).foldl (atW isNm setA (k + 1)) (T ++ [ndW isNm y.x])) ∧ Hid (AtB T2 (10 * k + m)) ∧ Hid (n3 ≤ 100 * k + 1 + m) ∧ Hid (((ndA T2 (k + 1)).k = 2 ∨ (ndA T2 (k + 1)).k = 3 ∨ (ndA T2 (k + 1)).k = 4) ∧ (ndA T2 (k + 1)).pa = -1)) (fun a _ => y.x.at_.length - (intOf a).toNat)
          case atStart => exact ⟨0, _, _, τ4, rfl, by omega, HP4.out, HI1.out, rfl, HAB1.out, by have := HN2.out; unfold Hid; omega, HKD.out⟩
          case round =>
            obtain ⟨m, T2, n3, τ2, rfl, hm, HP2, HI2, HT2, HA2, HN3, HK3⟩ := hrel
            have hbw2 : Below w.heap.size w wr := HB1.out.trans (HP2.out.bel.mono (by have := HZ1.out; omega))
            have HBW2 := Lib.hid hbw2
            clear hbw2
            by_cases hml : m < y.x.at_.length
            · have hmi : (m : Int) < (y.x.at_.length : Int) := by omega
              obtain ⟨⟨pn, pv⟩, hq⟩ : ∃ q, y.x.at_[m]? = some q := ⟨_, List.getElem?_eq_getElem hml⟩
              have hrA := HYR.out.1
              rw [HE3.out] at hrA
              obtain ⟨ga, oa, rfl, hga, hca⟩ := rd_at hrA hq
              have HS : Hid (∀ W', Below w.heap.size w W' → (W'.cell? ⟨g, o + k * 5 + 3, none⟩ = some (.slice (some ⟨ga, oa, none⟩) y.x.at_.length c3) ∧ W'.cell? ⟨ga, oa + m * 2, none⟩ = some (.string pn) ∧ W'.cell? ⟨ga, oa + m * 2 + 1, none⟩ = some (.string pv))) := fun W' hb => ⟨by rw [(HCELL.out W' hb).2.2.2.1, HE3.out], hca W' hb⟩
              have hsz : pn.size ≤ maxLen ∧ pv.size ≤ maxLen := HYR.out.2.2.2.1 (pn, pv) (List.mem_of_getElem? hq)
              have HSE : Hid (Calls Tryd.prog 53 #[.pointer (some ⟨R, 0, none⟩), .int .i64 ((k : Int) + 1), .string pn, .string pv, .bool false] wr.drew (RAny w1.heap.size R (atW isNm setA (k + 1) T2 (pn, pv)) n3 τ2 wr.drew)) := by
                have hl2 := HI2.out.len
                have := c_rSetAny (i := k + 1) HP2.out.draw.ts (by omega) (HA2.out.few (by omega) HI2.out (by omega)) (by have := HN3.out; omega) (by omega) pn pv hsz.1 hsz.2
                exact this
              have HFT : Hid ((y.x.at_.take (m + 1)).foldl (atW isNm setA (k + 1)) (T ++ [ndW isNm y.x]) = atW isNm setA (k + 1) T2 (pn, pv)) := by
                unfold Hid
                rw [foldl_take _ _ hq, ← HT2.out]
              have HND := Lib.hid (atW_nd (T := T2) (i := k + 1) (j := k + 1) (q := (pn, pv)) (by have := HI2.out.len; omega))
              have HTI2 := Lib.hid (atW_TI (q := (pn, pv)) HI2.out (i := k + 1) (by have := HI2.out.len; omega))
              have HAA := Lib.hid (HA2.out.at_ (i := k + 1) (q := (pn, pv)) (by have := HI2.out.len; omega))
              have hd3 := (HS.out wr HBW2.out).1
              clear hrA hca hq hsz
              go_upto_region 17 with fail
              go_region_held3 (fun w' => w'.cell? ⟨g, o + k * 5 + 3, none⟩ = some (.slice (some ⟨ga, oa, none⟩) y.x.at_.length c3) ∧ w'.cell? ⟨ga, oa + m * 2, none⟩ = some (.string pn) ∧ w'.cell? ⟨ga, oa + m * 2 + 1, none⟩ = some (.string pv))
                (first | with_reducible exact HS.out _ (bl_drew HBW2.out) | with_reducible exact HS.out _ HBW2.out | with_reducible exact HS.out _ HBW5.out)
                ((go_at_call 53; (with_reducible refine (HSE.out).mono ?_); rintro e w5 ⟨⟨u, rfl⟩, n4, hn4, hop⟩; obtain ⟨τ5, hp5⟩ := HP2.out.draw.op hop; have HP5 := Lib.hid hp5; have HN4 := Lib.hid hn4; have HBW5 : Hid (Below w.heap.size w w5) := HB1.out.trans (hp5.bel.mono (by have := HZ1.out; omega)); clear hop hp5 hn4))
              all_goals
                go_wp2_with fail
                go_roundw
                case rel =>
                  refine ⟨m + 1, _, n4, τ5, by go_num, by omega, HP5.out, HTI2.out, HFT.out.symm, ?_, ?_, ?_⟩
                  · exact HAA.out
                  · have := HN3.out; have := HN4.out; unfold Hid; omega
                  · have := HND.out; unfold Hid; rw [this.1, this.2.1]; exact HK3.out
                case measure => simp [intOf]; omega
            · obtain rfl : m = y.x.at_.length := by omega
              have hmi : ¬ (y.x.at_.length : Int) < (y.x.at_.length : Int) := by omega
              have hd3 : wr.cell? ⟨g, o + k * 5 + 3, none⟩ = some (.slice A3 y.x.at_.length c3) := by rw [(HCELL.out wr HBW2.out).2.2.2.1, HE3.out]
              go_wp2_with fail
              have HT2' := Lib.hid (show T2 = y.x.at_.foldl (atW isNm setA (k + 1)) (T ++ [ndW isNm y.x]) by rw [HT2.out, List.take_length])
              clear hd3
              go_loopw [11] (fun a wx => ∃ (j : Nat) (T3 : List Nod) (n4 : Nat) (τ3 : Nat → Nat), a = .int .i64 (j : Int) ∧ j ≤ y.x.ki.length ∧ Hid (RF w1 R T3 n4 τ3 wx) ∧ Hid (TI T3 (k + 1)) ∧ Hid (T3 = (y.x.ki.take j).foldl (kiW k) T2) ∧ Hid (AtB T3 (10 * k + 10)) ∧ Hid (n4 ≤ 100 * k + 20 + j) ∧ Hid (((ndA T3 (k + 1)).k = 2 ∨ (ndA T3 (k + 1)).k = 3 ∨ (ndA T3 (k + 1)).k = 4) ∧ (ndA T3 (k + 1)).pa = -1)) (fun a _ => y.x.ki.length - (intOf a).toNat)
              case atStart => exact ⟨0, T2, n3, τ2, rfl, by omega, HP2.out, HI2.out, rfl, HA2.out.mono (by omega), by have := HN3.out; unfold Hid; omega, HK3.out⟩
              case round =>
                obtain ⟨j, T3, n4, τ3, rfl, hj, HP3, HI3, HT3, HA3, HN4, HK4⟩ := hrel
                have hbw3 : Below w.heap.size w wr := HB1.out.trans (HP3.out.bel.mono (by have := HZ1.out; omega))
                have hd4 : wr.cell? ⟨g, o + k * 5 + 4, none⟩ = some (.slice A4 y.x.ki.length c4) := by rw [(HCELL.out wr hbw3).2.2.2.2, HE4.out]
                have HBW3 := Lib.hid hbw3
                clear hbw3
                by_cases hjl : j < y.x.ki.length
                · have hji : (j : Int) < (y.x.ki.length : Int) := by omega
                  obtain ⟨q, hq⟩ : ∃ q, y.x.ki[j]? = some q := ⟨_, List.getElem?_eq_getElem hjl⟩
                  have hrK := HYR.out.2.1
                  rw [HE4.out] at hrK
                  obtain ⟨gk, ok, rfl, hgk, hck⟩ := rd_li hrK hq
                  have c0 := hck wr HBW3.out
                  have hqb := HYR.out.2.2.2.2 q (List.mem_of_getElem? hq)
                  have hq1 : -9223372036854775808 ≤ q := hqb.1
                  have hq2 : q ≤ 9223372036854775807 := hqb.2
                  have HFT : Hid ((y.x.ki.take (j + 1)).foldl (kiW k) T2 = kiW k T3 q) := by
                    unfold Hid
                    rw [foldl_take _ _ hq, ← HT3.out]
                  clear hrK hck hq hqb
                  by_cases hin : 0 ≤ q ∧ q < (k : Int)
                  · obtain ⟨i, rfl⟩ := Int.eq_ofNat_of_zero_le hin.1
                    have hik3 : i < k := by omega
                    have h0i : 0 ≤ (i : Int) := by omega
                    have hiki : (i : Int) < (k : Int) := by omega
                    have hTL : T3.length = k + 2 := HI3.out.len
                    obtain ⟨L3, cap3, tv3, xs3, M3, h3, hM3⟩ := HP3.out.ts
                    have hlM : M3.length = k + 2 := by rw [← hTL, ← hM3]; simp
                    obtain ⟨z, hz, hzx⟩ := nv_get hM3 (ndA_get (T := T3) (i := i + 1) (by omega))
                    obtain ⟨y2, hy2, hyx2⟩ := nv_get hM3 (ndA_get (T := T3) (i := k + 1) (by omega))
                    obtain ⟨r0, _⟩ := h3.heads
                    have rl := h3.ltR
                    have rL := h3.ltL
                    obtain ⟨_, _, z4, _⟩ := h3.cell hz
                    obtain ⟨_, _, _, y5⟩ := h3.cell hy2
                    obtain ⟨_, A5, c5, hvk, _, _⟩ := h3.ki (k + 1) y2 hy2
                    rw [hvk] at y5
                    obtain ⟨pp, hpp⟩ : ∃ pp, pp = z.x.pa := ⟨_, rfl⟩
                    rw [← hpp] at z4
                    have HPP : Hid (pp = (ndA T3 (i + 1)).pa) := by rw [hpp, hzx]; exact rfl
                    have e1 : ((i : Int) + 1).toNat = i + 1 := by omega
                    have e2 : ((k : Int) + 1).toNat = k + 1 := by omega
                    have b1 : (i : Int) + 1 < (M3.length : Int) := by omega
                    have b2 : (k : Int) + 1 < (M3.length : Int) := by omega
                    have b3 : 0 ≤ (i : Int) + 1 := by omega
                    have b4 : 0 ≤ (k : Int) + 1 := by omega
                    have hk60 : k < 60 := by omega
                    have hM60 : M3.length ≤ 400 := by omega
                    by_cases hfr : pp < 0
                    · have hkl2 : (ndA T3 (k + 1)).ki.length ≤ 400 := by
                        obtain ⟨dd, hdd⟩ := HI3.out.wf
                        have := nodup_lt _ _ (hdd.nd (k + 1) (by omega)) (fun a ha => (hdd.ki (k + 1) (by omega) a ha).1)
                        omega
                      have HPT : Hid (Calls Tryd.prog 54 #[.pointer (some ⟨R, 0, none⟩), .int .i64 ((k : Int) + 1), .int .i64 ((i : Int) + 1), .int .i64 (y2.x.ki.length : Int)] wr (RAny w1.heap.size R (kiW k T3 (i : Int)) n4 τ3 wr)) := by
                        have := c_rKid HP3.out.ts HI3.out (HA3.out.few (by omega) HI3.out (by omega)) (by have := HN4.out; omega) (by omega) HK4.out.1 HK4.out.2 hik3 (by rw [← HPP.out]; exact hfr)
                        rw [← hyx2] at this
                        exact this
                      rw [← hyx2] at hkl2
                      have HKT := Lib.hid (kiW_TI (kk := (i : Int)) HI3.out HK4.out.2)
                      have HKA := Lib.hid (HA3.out.ki (kk := (i : Int)) hTL)
                      obtain ⟨nk, hnk⟩ : ∃ nk, nk = y2.x.ki.length := ⟨_, rfl⟩
                      rw [← hnk] at HPT hkl2 y5
                      clear h3 hM3 hlM hz hzx hy2 hyx2 hvk hpp hTL hin hnk
                      go_wp2_with (go_at_call 54; refine (HPT.out).mono ?_; rintro e w5 ⟨⟨u, rfl⟩, n5, hn5, hop⟩; obtain ⟨τ5, hp5⟩ := HP3.out.op hop; have HP5 := Lib.hid hp5; have HN5 := Lib.hid hn5; clear hop hp5 hn5)
                      go_roundw
                      case rel =>
                        refine ⟨j + 1, _, n5, τ5, by go_num, by omega, HP5.out, HKT.out.1, HFT.out.symm, HKA.out, ?_, ?_⟩
                        · have := HN4.out; have := HN5.out; unfold Hid; omega
                        · have := HKT.out; unfold Hid; rw [this.2.1, this.2.2]; exact ⟨HK4.out.1, rfl⟩
                      case measure => simp [intOf]; omega
                    · have HSM : Hid (kiW k T3 (i : Int) = T3) := by
                        unfold Hid kiW
                        rw [if_neg (fun h => hfr (by rw [HPP.out]; have h4 := h.2.2.2; rw [e1] at h4; exact h4))]
                      clear h3 hM3 hlM hz hzx hy2 hyx2 hvk hpp hTL hin
                      go_wp2_with fail
                      go_roundw
                      case rel => exact ⟨j + 1, T3, n4, τ3, by go_num, by omega, HP3.out, HI3.out, by unfold Hid; rw [HFT.out, HSM.out], HA3.out, by have := HN4.out; unfold Hid; omega, HK4.out⟩
                      case measure => simp [intOf]; omega
                  · have HSM : Hid (kiW k T3 q = T3) := by
                      unfold Hid kiW
                      rw [if_neg (fun h => hin ⟨h.2.1, h.2.2.1⟩)]
                    have HIN := Lib.hid hin
                    clear hin
                    by_cases h0 : 0 ≤ q
                    · have h1 : ¬ q < (k : Int) := fun h => HIN.out ⟨h0, h⟩
                      go_wp2_with fail
                      go_roundw
                      case rel => exact ⟨j + 1, T3, n4, τ3, by go_num, by omega, HP3.out, HI3.out, by unfold Hid; rw [HFT.out, HSM.out], HA3.out, by have := HN4.out; unfold Hid; omega, HK4.out⟩
                      case measure => simp [intOf]; omega
                    · go_wp2_with fail
                      go_roundw
                      case rel => exact ⟨j + 1, T3, n4, τ3, by go_num, by omega, HP3.out, HI3.out, by unfold Hid; rw [HFT.out, HSM.out], HA3.out, by have := HN4.out; unfold Hid; omega, HK4.out⟩
                      case measure => simp [intOf]; omega
                · obtain rfl : j = y.x.ki.length := by omega
                  have hji : ¬ (y.x.ki.length : Int) < (y.x.ki.length : Int) := by omega
                  have HTN : Hid (T3 = twsW isNm setA [root0] 0 ((L.map TwV.x).take (k + 1))) := by
                    unfold Hid
                    rw [HT3.out, List.take_length, HT2'.out]
                    have h4 : (L.map TwV.x).take (k + 1) = (L.map TwV.x).take k ++ [y.x] := by rw [List.take_add_one, List.getElem?_map, HY.out]; rfl
                    rw [h4, twsW_snoc, ← HTW.out, List.length_take]
                    have : min k (L.map TwV.x).length = k := by rw [List.length_map, HN.out]; omega
                    rw [this, Nat.zero_add]
                    rfl
                  go_wp2_with fail
                  go_roundw
                  case rel => exact ⟨k + 1, T3, n4, τ3, by go_num, by omega, HP3.out, HI3.out, HTN.out, HA3.out.mono (by omega), by have := HN4.out; unfold Hid; omega⟩
                  case measure => simp [intOf]; omega
    · obtain rfl : k = n := by omega
      have hik : ¬ (k : Int) < (k : Int) := by omega
      have HTL : Hid (T = twsW isNm setA [root0] 0 (L.map TwV.x)) := by
        unfold Hid
        rw [HTW.out, List.take_of_length_le (by rw [List.length_map, HN.out]; exact Nat.le_refl _)]
      clear hlt
      go_wp2_with fail
      go_loopw [13] (fun a wx => ∃ (m : Nat) (T2 : List Nod) (n3 : Nat) (τ2 : Nat → Nat), a = .int .i64 ((m : Int) + 1) ∧ m ≤ k ∧ Hid (RF w1 R T2 n3 τ2 wx) ∧ Hid (TI T2 k) ∧ Hid (T2 = ((List.range m).map (· + 1)).foldl topW T) ∧ Hid (AtB T2 (10 * k)) ∧ Hid (n3 ≤ 100 * k + m)) (fun a _ => k + 1 - (intOf a).toNat)
      case atStart => exact ⟨0, T, n2, τ, rfl, by omega, HP.out, HTI.out, rfl, HAB.out, by have := HN2.out; unfold Hid; omega⟩
      case round =>
        obtain ⟨m, T2, n3, τ2, rfl, hm, HP2, HI2, HT2, HA2, HN3⟩ := hrel
        have hTL : T2.length = k + 1 := HI2.out.len
        obtain ⟨L3, cap3, tv3, xs3, M3, h3, hM3⟩ := HP2.out.ts
        have hlM : M3.length = k + 1 := by rw [← hTL, ← hM3]; simp
        obtain ⟨r0, r1, r2, r3⟩ := h3.heads
        have rl := h3.ltR
        have rL := h3.ltL
        by_cases hml : m < k
        · have b1 : (m : Int) + 1 < (M3.length : Int) := by omega
          have b3 : 0 ≤ (m : Int) + 1 := by omega
          have b0 : 0 < M3.length := by omega
          have b00 : (0 : Int) < (M3.length : Int) := by omega
          have e1 : ((m : Int) + 1).toNat = m + 1 := by omega
          obtain ⟨z, hz, hzx⟩ := nv_get hM3 (ndA_get (T := T2) (i := m + 1) (by omega))
          obtain ⟨y2, hy2, hyx2⟩ := nv_get hM3 (ndA_get (T := T2) (i := 0) (by omega))
          obtain ⟨_, _, z4, _⟩ := h3.cell hz
          obtain ⟨_, _, _, y5⟩ := h3.cell hy2
          obtain ⟨_, A5, c5, hvk, _, _⟩ := h3.ki 0 y2 hy2
          rw [hvk, Nat.zero_mul, Nat.zero_add] at y5
          obtain ⟨pp, hpp⟩ : ∃ pp, pp = z.x.pa := ⟨_, rfl⟩
          rw [← hpp] at z4
          have HPP : Hid (pp = (ndA T2 (m + 1)).pa) := by rw [hpp, hzx]; exact rfl
          have HFT : Hid (((List.range (m + 1)).map (· + 1)).foldl topW T = topW T2 (m + 1)) := by
            unfold Hid
            rw [List.range_succ, List.map_append, List.foldl_append, ← HT2.out]; rfl
          have hM60 : M3.length ≤ 400 := by omega
          by_cases hfr : pp < 0
          · obtain ⟨dd, hdd⟩ := HI2.out.wf
            have hkl2 : (ndA T2 0).ki.length ≤ 400 := by
              have := nodup_lt _ _ (hdd.nd 0 (by omega)) (fun a ha => (hdd.ki 0 (by omega) a ha).1)
              omega
            have hpa2 : (ndA T2 (m + 1)).pa < 0 := by rw [← HPP.out]; exact hfr
            have hanc : ¬ Anc T2 (m + 1) 0 := anc_free (by rw [HI2.out.root.1]; omega) (by omega)
            have HPT : Hid (Calls Tryd.prog 54 #[.pointer (some ⟨R, 0, none⟩), .int .i64 0, .int .i64 ((m : Int) + 1), .int .i64 (y2.x.ki.length : Int)] wr (RPtRet w1.heap.size R (putG T2 0 (m + 1) y2.x.ki.length) n3 τ2 wr)) := by
              have := c_rPutFree (p := 0) (i := m + 1) (m := (ndA T2 0).ki.length) HP2.out.ts hdd (by omega) (HA2.out.few (by omega) HI2.out (by omega)) (by have := HN3.out; omega) (by omega) (by omega) (by omega) (by rw [HI2.out.root.2]; decide) (by rw [HI2.out.root.2]; decide) hanc hpa2 (Nat.le_refl _)
              rw [← hyx2] at this
              exact this
            have HTP : Hid (topW T2 (m + 1) = putG T2 0 (m + 1) y2.x.ki.length) := by unfold Hid topW; rw [if_pos hpa2, ← hyx2]
            have HTI2 := Lib.hid (HI2.out.put (p := 0) (i := m + 1) (m := y2.x.ki.length) (by omega) (by omega) (by omega) hanc)
            have HAA := Lib.hid (HA2.out.put (p := 0) (i := m + 1) (m := y2.x.ki.length) (by omega) (by omega) (by omega) hpa2)
            rw [← hyx2] at hkl2
            obtain ⟨nk, hnk⟩ : ∃ nk, nk = y2.x.ki.length := ⟨_, rfl⟩
            rw [← hnk] at HPT hkl2 y5 HTP HTI2 HAA
            clear h3 hM3 hlM hz hzx hy2 hyx2 hvk hpp hTL hnk hanc hpa2 hdd r1 r2 r3
            go_wp2_with (go_at_call 54; refine (HPT.out).mono ?_; rintro e w5 ⟨rfl, hop⟩; obtain ⟨τ5, hp5⟩ := HP2.out.op hop; have HP5 := Lib.hid hp5; clear hop hp5)
            go_roundw
            case rel => exact ⟨m + 1, _, n3 + 1, τ5, by go_num, by omega, HP5.out, HTI2.out, by unfold Hid; rw [HFT.out, HTP.out], HAA.out, by have := HN3.out; unfold Hid; omega⟩
            case measure => simp [intOf]; omega
          · have HSM : Hid (topW T2 (m + 1) = T2) := by unfold Hid topW; rw [if_neg (fun h => hfr (by rw [HPP.out]; exact h))]
            clear h3 hM3 hlM hz hzx hy2 hyx2 hvk hpp hTL r1 r2 r3
            go_wp2_with fail
            go_roundw
            case rel => exact ⟨m + 1, T2, n3, τ2, by go_num, by omega, HP2.out, HI2.out, by unfold Hid; rw [HFT.out, HSM.out], HA2.out, by have := HN3.out; unfold Hid; omega⟩
            case measure => simp [intOf]; omega
        · obtain rfl : m = k := by omega
          have hmk : ¬ (m : Int) + 1 < (M3.length : Int) := by omega
          have HFIN : Hid (T2 = plainT (L.map TwV.x)) := by
            unfold Hid plainT topsW
            rw [HT2.out, HTL.out, List.length_map, HN.out]
          have HLM := Lib.hid hlM
          have H3 := Lib.hid h3
          have HM3 := Lib.hid hM3
          have hbz : w1.heap.size ≤ wr.heap.size := HP2.out.bel.size
          have hk1 := HK1.out.below HP2.out.bel (by have := HZ1.out; omega)
          have k0 := hk1.cell 0
          have k1 := hk1.cell 1
          have k2 := hk1.free 0
          have k3 := hk1.free 1
          have k4 := hk1.lt
          have hRb : w1.heap.size ≤ R := (h3.tB R (by rw [h3.tR]; omega)).1
          have hne1 : ¬ w.heap.size = R := by have := HZ1.out; omega
          have hne2 : ¬ R = w.heap.size := by have := HZ1.out; omega
          clear hml h3 hM3 hlM hTL hk1
          go_wp2_with fail
          obtain ⟨w8, hw8⟩ : ∃ w8, w8 = wr.setCell ⟨R, 1, none⟩ (.slice none 0 0) := ⟨_, rfl⟩
          have ht8 := H3.out.setT (w6 := wr) (nT' := 0) (xs' := []) (.slice none 0 0) (fun _ _ _ => rfl) (Nat.le_refl _) (World.ownsRow_nil _ _ _ _) (fun k e => by simp [Value.ownBlock] at e)
          rw [← hw8] at ht8 ⊢
          obtain ⟨w9, hw9⟩ : ∃ w9, w9 = (w8.setCell ⟨w.heap.size, 0, none⟩ (.slice (some ⟨L3, 0, none⟩) M3.length cap3)).setCell ⟨w.heap.size, 1, none⟩ (.slice none 0 0) := ⟨_, rfl⟩
          rw [← hw9]
          have hbk9 : Bk w9 w.heap.size 36 #[.slice (some ⟨L3, 0, none⟩) M3.length cap3, .slice none 0 0] := by
            have h1 : Bk wr w.heap.size 36 #[.slice none 0 0, .slice none 0 0] := HK1.out.below HP2.out.bel (by have := HZ1.out; omega)
            have h2 : Bk w8 w.heap.size 36 #[.slice none 0 0, .slice none 0 0] := by rw [hw8]; exact h1.far hne1 _
            rw [hw9]
            exact ((h2.set_ 0 _).set_ 1 _)
          have c0 : w9.cell? ⟨w.heap.size, 0, none⟩ = some (.slice (some ⟨L3, 0, none⟩) M3.length cap3) := hbk9.cell 0
          have c1 : w9.cell? ⟨w.heap.size, 1, none⟩ = some (.slice none 0 0) := hbk9.cell 1
          have HB9 : Hid (Below w.heap.size w w9) := by
            rw [hw9, hw8]
            exact bl_set (bl_set (bl_set (HB1.out.trans (HP2.out.bel.mono (by have := HZ1.out; omega))) _ _ (by have := HZ1.out; omega) _) _ _ (Nat.le_refl _) _) _ _ (Nat.le_refl _) _
          have HT9 : Hid (∃ τ', RT w1.heap.size R L3 cap3 0 (.slice none 0 0) [] τ' M3 w9) := by
            refine ⟨_, ht8.keep (fun k hk => ?_) ?_⟩
            · have hkb := (ht8.tB k hk).1
              have hne : k ≠ w.heap.size := by have := HZ1.out; omega
              rw [hw9]
              exact (Below.heap_setCell _ ⟨w.heap.size, 1, none⟩ _ k hne).trans (Below.heap_setCell _ ⟨w.heap.size, 0, none⟩ _ k hne)
            · rw [hw9]; simp [World.setCell]
          clear ht8 hw8 hw9 hbk9 k0 k1 k2 k3 k4 r0 r1 r2 r3 rl rL hne1 hne2
          have HRL : Hid ((L.map TwV.x).length = m) := by unfold Hid; rw [List.length_map]; exact HN.out
          refine bodyPost_ret (v := .agg #[.slice (some ⟨L3, 0, none⟩) M3.length cap3, .slice none 0 0]) (by simp [results, Tryd.results14, go_sem, c0, c1]) rfl ?_
          obtain ⟨τ9, h9⟩ := HT9.out
          refine ⟨w1.heap.size, R, L3, cap3, τ9, M3, ?_, by have := HZ1.out; omega, h9, by rw [HM3.out]; exact HFIN.out, ?_, ?_, HB9.out⟩
          · rw [HRL.out, ← HLM.out]
          · rw [← HFIN.out, HRL.out]; exact HI2.out
          · rw [← HFIN.out]; exact HA2.out.mono (by omega)
end Go.Proofs.YtimlmekgapdkiaaDoor
