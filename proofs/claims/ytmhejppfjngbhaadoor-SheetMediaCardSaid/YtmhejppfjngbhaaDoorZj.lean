/- sheets: a condition of a page: the document's -/
import Derived.Test.YtmhejppfjngbhaaDoorZi
import Derived.Test.YtmhejppfjngbhaaDoorZa
namespace Go.Proofs.YtmhejppfjngbhaaDoor
set_option linter.unusedVariables false
set_option linter.unusedSimpArgs false
open Go.RowKit Go.Cas

def RcRet (x : Cm) (wd hg : Int) (w : World) (e : Ending) (w' : World) : Prop :=
  ∃ b is, e = .returned (.tuple #[.bool b, .bool is]) ∧ ((cdC x wd hg = none ∧ is = false) ∨ (cdC x wd hg = some b ∧ is = true)) ∧ Below w.heap.size w w'
def shF (F : List Cm) : Option (Tk × Tk) := match F with
  | [x, y, z] => if x.t.k = 6 ∧ z.t.k = 5 ∧ z.t.u = px2 ∧ sgn y.t 58 = true ∧ y.e = 0 then some (x.t, z.t) else none
  | _ => none
theorem shR_F {ks F : List Cm} (h : ks.filter (fun c => !blm c) = F) : shR ks = shF F := by subst h; rfl
theorem shR_3 {ks F : List Cm} (h : ks.filter (fun c => !blm c) = F) (h3 : F.length ≠ 3) : shR ks = none := by
  rw [shR_F h]
  unfold shF
  split
  · rename_i x y z; exact absurd rfl h3
  · rfl
theorem filter_on {ks : List Cm} {i : Nat} {y : Cm} (h : ks[i]? = some y) : (ks.take (i + 1)).filter (fun c => !blm c) = (ks.take i).filter (fun c => !blm c) ++ (if blm y = true then [] else [y]) := by
  rw [List.take_add_one, h, List.filter_append]
  congr 1
  cases hb : blm y <;> simp [hb]
set_option maxHeartbeats 16000000 in
set_option maxRecDepth 100000 in
theorem c_rcond (x : Cm) (kv : Value) (lim : Nat) (wd hg : Int) (w : World) (hkv : RC w (fun g => g < lim) kv x.ks) (hlim : lim ≤ w.heap.size) (hl : x.ks.length ≤ 1000000000) (hk10 : x.t.k ≤ 10) (hks : ∀ y ∈ x.ks, y.t.k ≤ 10 ∧ DimOk y.t ∧ y.t.t.size ≤ 1000000000) : Calls Tryd.prog 26 #[.agg #[.string (kdS x.t.k), .string x.t.t, .string x.t.u, .int .i64 (x.t.a : Int), .int .i64 (x.t.b : Int), .string (opS x.e), kv, .bool x.cl], .int .i64 wd, .int .i64 hg] w (RcRet x wd hg w) := by
  obtain ⟨A, ck, hkve, hck⟩ := hkv.len
  subst hkve
  have HKV := Lib.hid hkv
  have HKS := Lib.hid hks
  have HLIM := Lib.hid hlim
  have b10 := kdS_sg x.t.k hk10
  have q40 := beq_list x.t.t ⟨#[40]⟩
  rw [show (⟨#[40]⟩ : ByteArray).toList = [40] by rw [ByteArray.toList_eq]] at q40
  have hcd : cdC x wd hg = if sgn x.t 40 = true ∧ x.cl = true then (shR x.ks).bind fun p => cdD (small p.1.t) p.2 wd hg else none := rfl
  have hsg : sgn x.t 40 = (decide (x.t.k = 10) && decide (x.t.t = ⟨#[40]⟩)) := rfl
  obtain ⟨CD, hCD⟩ : ∃ CD, CD = cdC x wd hg := ⟨_, rfl⟩
  rw [← hCD] at hcd
  have HCDE := Lib.hid hCD
  obtain ⟨bb, hbb⟩ : ∃ bb, bb = w.heap.size := ⟨_, rfl⟩
  obtain ⟨n, hn⟩ : ∃ n, n = x.ks.length := ⟨_, rfl⟩
  rw [← hn] at hl hck HKV ⊢
  obtain ⟨W1, hW1⟩ : ∃ W1, W1 = w.alloc (.cells #[.string (kdS x.t.k), .string x.t.t, .string x.t.u, .int .i64 (x.t.a : Int), .int .i64 (x.t.b : Int), .string (opS x.e), .slice A n ck, .bool x.cl] tC) := ⟨_, rfl⟩
  have hb7 : Bk W1 bb tC #[.string (kdS x.t.k), .string x.t.t, .string x.t.u, .int .i64 (x.t.a : Int), .int .i64 (x.t.b : Int), .string (opS x.e), .slice A n ck, .bool x.cl] := by rw [hW1]; exact bk_new' _ _ _ hbb
  have hbW : Below w.heap.size w W1 := by rw [hW1]; exact bl_alloc (Below.refl _ _) _
  have HW1 := Lib.hid hW1
  have HBB := Lib.hid hbb
  have HN0 := Lib.hid hn
  have HBW := Lib.hid hbW
  have HB7 := Lib.hid hb7
  have hwW := hbW.size
  have c0 := hb7.cell 0
  have c1 := hb7.cell 1
  have c2 := hb7.cell 2
  have c3 := hb7.cell 3
  have c4 := hb7.cell 4
  have c5 := hb7.cell 5
  have c6 := hb7.cell 6
  have c7 := hb7.cell 7
  have hl7 := hb7.lt
  clear hW1 hb7 hbW hkv hks hCD hlim hbb hn
  by_cases h10 : x.t.k = 10
  · rw [decide_eq_true h10] at b10
    have b10n : ((kdS x.t.k).toList != [115, 105, 103, 110]) = false := by rw [bne, b10]; rfl
    rw [decide_eq_true h10, Bool.true_and] at hsg
    by_cases h40 : x.t.t = ⟨#[40]⟩
    · rw [decide_eq_true h40] at q40 hsg
      have q40n : (x.t.t.toList != [40]) = false := by rw [bne, q40]; rfl
      cases hcl : x.cl with
      | false =>
        rw [hcl] at hcd c7 HW1 HB7
        have HN : Hid (cdC x wd hg = none) := by unfold Hid; rw [← HCDE.out, hcd, if_neg (by simp)]
        clear hcd hsg hcl h40 h10
        go_enter Tryd.func26, Tryd.ntmps26
        go_upto_region 1 with fail
        rw [← HW1.out, ← HBB.out]
        go_wp2_with fail
        go_ret2
        exact ⟨_, _, rfl, .inl ⟨HN.out, rfl⟩, HBW.out⟩
      | true =>
        have HCD : Hid (cdC x wd hg = (shR x.ks).bind fun p => cdD (small p.1.t) p.2 wd hg) := by unfold Hid; rw [← HCDE.out, hcd, if_pos ⟨hsg, hcl⟩]
        rw [hcl] at c7 HW1 HB7
        clear hcd hsg hcl h40 h10
        go_enter Tryd.func26, Tryd.ntmps26
        go_upto_region 1 with fail
        rw [← HW1.out, ← HBB.out]
        go_wp2_with fail
        go_loopw [8, 9] (fun u8 u9 wr => ∃ (i : Nat) (acc : List Cm), u9 = .int .i64 (i : Int) ∧ i ≤ n ∧ acc.length ≤ i ∧ Hid (acc = (x.ks.take i).filter (fun c => !blm c)) ∧ Hid (∃ R, wr.ownsRow W1.heap.size tC 8 u8 acc.length R ∧ RowC wr (fun g => g < lim) acc R) ∧ Hid (Below W1.heap.size W1 wr)) (fun _ u9 _ => n - (intOf u9).toNat)
        case atStart => exact ⟨0, [], rfl, by omega, by simp, rfl, ⟨[], World.ownsRow_nil _ _ _ _, .nil⟩, Below.refl _ _⟩
        case round =>
          obtain ⟨i, acc, rfl, hin, hal, HA, HOW, HB⟩ := hrel
          have hwz := HB.out.size
          have HBT : Hid (Below w.heap.size w wr) := HBW.out.trans (HB.out.mono hwW)
          have hb7 := HB7.out.below HB.out HB7.out.lt
          clear c0 c1 c2 c3 c4 c5 c6 c7 hl7
          have c0 := hb7.cell 0
          have c1 := hb7.cell 1
          have c2 := hb7.cell 2
          have c3 := hb7.cell 3
          have c4 := hb7.cell 4
          have c5 := hb7.cell 5
          have c6 := hb7.cell 6
          have c7 := hb7.cell 7
          have hl7 := hb7.lt
          clear hb7
          by_cases hlt : i < n
          · have hne : x.ks ≠ [] := fun e => by have := HN0.out; rw [e] at this; simp at this; omega
            obtain ⟨g, o, c', R', he, hc', hg', hrow, hcell⟩ := HKV.out.form hne
            injection he with he1 he2 he3
            subst he1
            obtain ⟨y, hy⟩ : ∃ y, x.ks[i]? = some y := ⟨x.ks[i]'(by rw [← HN0.out]; exact hlt), List.getElem?_eq_getElem _⟩
            obtain ⟨kv2, hkv2, hcz⟩ := RC.cells hrow hcell hy
            obtain ⟨A2, c2k, hkve2, _⟩ := hkv2.len
            subst hkve2
            have hcy := fun j (hj : j < 8) => (HBT.out.cell (p := ⟨g, o + (i * 8 + j), none⟩) (Nat.lt_of_lt_of_le hg' HLIM.out)).trans (hcz j hj)
            have e0 : wr.cell? ⟨g, o + i * 8, none⟩ = some (.string (kdS y.t.k)) := hcy 0 (by decide)
            have e1 : wr.cell? ⟨g, o + i * 8 + 1, none⟩ = some (.string y.t.t) := by rw [Nat.add_assoc]; exact hcy 1 (by decide)
            have e2 : wr.cell? ⟨g, o + i * 8 + 2, none⟩ = some (.string y.t.u) := by rw [Nat.add_assoc]; exact hcy 2 (by decide)
            have e3 : wr.cell? ⟨g, o + i * 8 + 3, none⟩ = some (.int .i64 (y.t.a : Int)) := by rw [Nat.add_assoc]; exact hcy 3 (by decide)
            have e4 : wr.cell? ⟨g, o + i * 8 + 4, none⟩ = some (.int .i64 (y.t.b : Int)) := by rw [Nat.add_assoc]; exact hcy 4 (by decide)
            have e5 : wr.cell? ⟨g, o + i * 8 + 5, none⟩ = some (.string (opS y.e)) := by rw [Nat.add_assoc]; exact hcy 5 (by decide)
            have e6 : wr.cell? ⟨g, o + i * 8 + 6, none⟩ = some (.slice A2 y.ks.length c2k) := by rw [Nat.add_assoc]; exact hcy 6 (by decide)
            have e7 : wr.cell? ⟨g, o + i * 8 + 7, none⟩ = some (.bool y.cl) := by rw [Nat.add_assoc]; exact hcy 7 (by decide)
            have hiI : (i : Int) < (n : Int) := by omega
            have hi0 : (0 : Int) ≤ (i : Int) := by omega
            have hbl := kdS_bl y.t.k
            have hfo := filter_on hy
            have HK2 : Hid (RowC wr (fun g => g < lim) [y] [.string (kdS y.t.k), .string y.t.t, .string y.t.u, .int .i64 (y.t.a : Int), .int .i64 (y.t.b : Int), .string (opS y.e), .slice A2 y.ks.length c2k, .bool y.cl]) := by
              obtain ⟨K2, k1, k2⟩ := hkv2.below HBT.out (fun g h => Nat.lt_of_lt_of_le h HLIM.out)
              cases y with
              | mk t e ks c => exact RowC.one k1 k2
            clear hcy hcz hcell hrow hne hkv2 he2 he3
            by_cases hk : y.t.k = 0
            · rw [decide_eq_true hk] at hbl
              have hbn : ((kdS y.t.k).toList != [98, 108, 97, 110, 107]) = false := by rw [bne, hbl]; rfl
              have HA2 : Hid (acc = (x.ks.take (i + 1)).filter (fun c => !blm c)) := by unfold Hid; rw [hfo, if_pos (by unfold blm bl0; exact decide_eq_true hk), List.append_nil]; exact HA.out
              clear hk hfo hy
              go_wp2_with fail
              go_roundw
              case rel => exact ⟨i + 1, acc, by go_num, by omega, by omega, HA2.out, HOW.out, HB.out⟩
              case measure => simp [intOf]; omega
            · rw [decide_eq_false hk] at hbl
              have hbn : ((kdS y.t.k).toList != [98, 108, 97, 110, 107]) = true := by rw [bne, hbl]; rfl
              have HA2 : Hid (acc ++ [y] = (x.ks.take (i + 1)).filter (fun c => !blm c)) := by unfold Hid; rw [hfo, if_neg (by unfold blm bl0; simp [hk]), ← HA.out]
              obtain ⟨R, hown, hrow⟩ := HOW.out
              have HOWN := Lib.hid hown
              have HROW := Lib.hid hrow
              have HLW : Hid (lim ≤ W1.heap.size) := Nat.le_trans HLIM.out hwW
              clear hk hfo hy hown hrow HOW
              go_wp2_with (at_builtin; refine wp_push rfl _ _ 30 rfl W1.heap.size tC Tryd.underlying30 inf_rc rfl (by decide) wr u8 acc.length R [.string (kdS y.t.k), .string y.t.t, .string y.t.u, .int .i64 (y.t.a : Int), .int .i64 (y.t.b : Int), .string (opS y.e), .slice A2 y.ks.length c2k, .bool y.cl] rfl rfl rfl HOWN.out rfl (by simp [Value.oneCell']) (by omega) (by omega) hwz ?_; intro v4 w4 hpush; have HPU := Lib.hid hpush; clear hpush)
              go_roundw
              case rel =>
                have hb4 := HPU.out.below (Below.refl wr.heap.size wr |>.mono hwz) (Nat.le_refl _) hwz
                have hrr : RowC w4 (fun g => g < lim) (acc ++ [y]) _ := (HROW.out.app HK2.out).blw hb4 (fun g h => Nat.lt_of_lt_of_le h HLW.out)
                exact ⟨i + 1, acc ++ [y], by go_num, by omega, by simp; omega, HA2.out, ⟨_, by rw [List.length_append, List.length_singleton]; exact HPU.out.own, hrr⟩, HB.out.trans hb4⟩
              case measure => simp [intOf]; omega
          · have hiI : ¬ (i : Int) < (n : Int) := by omega
            have HF : Hid (x.ks.filter (fun c => !blm c) = acc) := by unfold Hid; rw [HA.out, List.take_of_length_le (by rw [← HN0.out]; omega)]
            have HMEM : Hid (∀ y ∈ acc, y.t.k ≤ 10 ∧ DimOk y.t ∧ y.t.t.size ≤ 1000000000) := fun y hy => HKS.out y (List.mem_filter.1 (show y ∈ x.ks.filter (fun c => !blm c) by rw [HF.out]; exact hy)).1
            have HRC8 : Hid (RC wr (fun g => g < wr.heap.size) u8 acc) := by
              obtain ⟨R, hown, hrow⟩ := HOW.out
              exact RC.of_own hown hrow (fun g h => Nat.lt_of_lt_of_le h (Nat.le_trans HLIM.out (Nat.le_trans hwW hwz))) (fun g _ _ h => h) rfl
            clear HA HOW
            by_cases h3 : acc.length = 3
            · obtain ⟨a0, b0, z0, rfl⟩ : ∃ a b z, acc = [a, b, z] := by
                match acc, h3 with
                | [a, b, z], _ => exact ⟨a, b, z, rfl⟩
              obtain ⟨g8, o8, c8, R8, he8, hc8, hg8, hrow8, hcell8⟩ := HRC8.out.form (by simp)
              rw [show ([a0, b0, z0] : List Cm).length = 3 from rfl] at he8
              subst he8
              obtain ⟨kvA, _, hA8⟩ := RC.cells hrow8 hcell8 (i := 0) (x := a0) rfl
              obtain ⟨kvB, hkvB, hB8⟩ := RC.cells hrow8 hcell8 (i := 1) (x := b0) rfl
              obtain ⟨kvZ, _, hZ8⟩ := RC.cells hrow8 hcell8 (i := 2) (x := z0) rfl
              obtain ⟨AB, cB, hkvBe, _⟩ := hkvB.len
              subst hkvBe
              have a0c : wr.cell? ⟨g8, o8, none⟩ = some (.string (kdS a0.t.k)) := hA8 0 (by decide)
              have a1c : wr.cell? ⟨g8, o8 + 1, none⟩ = some (.string a0.t.t) := hA8 1 (by decide)
              have y0 : wr.cell? ⟨g8, o8 + 8, none⟩ = some (.string (kdS b0.t.k)) := hB8 0 (by decide)
              have y1 : wr.cell? ⟨g8, o8 + 9, none⟩ = some (.string b0.t.t) := hB8 1 (by decide)
              have y2 : wr.cell? ⟨g8, o8 + 10, none⟩ = some (.string b0.t.u) := hB8 2 (by decide)
              have y3 : wr.cell? ⟨g8, o8 + 11, none⟩ = some (.int .i64 (b0.t.a : Int)) := hB8 3 (by decide)
              have y4 : wr.cell? ⟨g8, o8 + 12, none⟩ = some (.int .i64 (b0.t.b : Int)) := hB8 4 (by decide)
              have y5 : wr.cell? ⟨g8, o8 + 13, none⟩ = some (.string (opS b0.e)) := hB8 5 (by decide)
              have y6 : wr.cell? ⟨g8, o8 + 14, none⟩ = some (.slice AB b0.ks.length cB) := hB8 6 (by decide)
              have y7 : wr.cell? ⟨g8, o8 + 15, none⟩ = some (.bool b0.cl) := hB8 7 (by decide)
              have z0c : wr.cell? ⟨g8, o8 + 16, none⟩ = some (.string (kdS z0.t.k)) := hZ8 0 (by decide)
              have z1c : wr.cell? ⟨g8, o8 + 17, none⟩ = some (.string z0.t.t) := hZ8 1 (by decide)
              have z2c : wr.cell? ⟨g8, o8 + 18, none⟩ = some (.string z0.t.u) := hZ8 2 (by decide)
              have kA := HMEM.out a0 (by simp)
              have kB := HMEM.out b0 (by simp)
              have kZ := HMEM.out z0 (by simp)
              have bA := kdS_nm a0.t.k kA.1
              have bZ := kdS_dm z0.t.k kZ.1
              have bU := beq_list z0.t.u pxS
              rw [show pxS.toList = [112, 120] by rw [ByteArray.toList_eq]; rfl] at bU
              have HSH : Hid (cdC x wd hg = (if a0.t.k = 6 ∧ z0.t.k = 5 ∧ z0.t.u = px2 ∧ sgn b0.t 58 = true ∧ b0.e = 0 then some (a0.t, z0.t) else none).bind fun p => cdD (small p.1.t) p.2 wd hg) := by
                unfold Hid; rw [HCD.out, shR_F HF.out]; rfl
              have HIS := Lib.hid (c_isSign b0.t b0.e (.slice AB b0.ks.length cB) b0.cl ⟨#[58]⟩ wr kB.1)
              have HGL : Hid (g8 < wr.heap.size) := hg8
              clear hA8 hB8 hZ8 hkvB hrow8 hcell8 HRC8 HF HMEM kB hc8 h3
              by_cases hkA : a0.t.k = 6
              · rw [decide_eq_true hkA] at bA
                have bAn : ((kdS a0.t.k).toList != [110, 97, 109, 101]) = false := by rw [bne, bA]; rfl
                by_cases hkZ : z0.t.k = 5
                · rw [decide_eq_true hkZ] at bZ
                  have bZn : ((kdS z0.t.k).toList != [100, 105, 109]) = false := by rw [bne, bZ]; rfl
                  by_cases hu : z0.t.u = pxS
                  · rw [decide_eq_true hu] at bU
                    have bUn : (z0.t.u.toList != [112, 120]) = false := by rw [bne, bU]; rfl
                    have hdt := kZ.2.2
                    obtain ⟨num, sg, W, P, dot, HNUM, hnum⟩ := kZ.2.1 hkZ
                    have hdl : z0.t.t.data.toList = num ++ [112, 120] := by rw [hnum, hu]; rfl
                    have hds : z0.t.t.size = num.length + 2 := by have := congrArg List.length hdl; rw [List.length_append] at this; exact this
                    have hnt : numT z0.t = num := by unfold numT; rw [hdl, hds]; simp
                    have HS2 : Hid (cdC x wd hg = (if (sgn b0.t 58 && decide (b0.e = 0)) = true then (if (thD num).2 = true then cdV (small a0.t.t) ((thD num).1 * 64 / 1000) wd hg else none) else none)) := by
                      unfold Hid
                      rw [HSH.out]
                      by_cases q1 : sgn b0.t 58 = true ∧ b0.e = 0
                      · rw [if_pos ⟨hkA, hkZ, hu, q1.1, q1.2⟩, if_pos (by rw [q1.1, decide_eq_true q1.2]; rfl)]
                        show cdD (small a0.t.t) z0.t wd hg = _
                        unfold cdD
                        rw [if_pos ⟨hkZ, hu⟩, hnt]
                      · rw [if_neg (fun e => q1 ⟨e.2.2.2.1, e.2.2.2.2⟩), if_neg (fun e => q1 (by rw [Bool.and_eq_true, decide_eq_true_eq] at e; exact e))]; rfl
                    rw [sgn58] at HS2
                    have hex : z0.t.t.extract 0 num.length = ⟨num.toArray⟩ := by
                      apply ByteArray.ext
                      rw [ByteArray.data_extract]
                      apply Array.ext'
                      rw [Array.toList_extract, hdl]
                      simp
                    have HTH := Lib.hid (fun y => c_rThou (s := ⟨num.toArray⟩) (by simpa using HNUM) y (by rw [ba_size]; omega))
                    rw [← thD_num HNUM] at HTH
                    have hbd := thD_b num
                    generalize (isS b0.t ⟨#[58]⟩ && decide (b0.e = 0)) = col at *
                    generalize hm : num.length = m at *
                    have hds2 : (z0.t.t.size : Int) - 2 = (m : Int) := by omega
                    have hAs := kA.2.2
                    clear hkA hkZ hu hnum hdl hnt HNUM kA kZ HSH
                    go_upto_region 12 with (go_at_call 43; refine (HIS.out).mono ?_; rintro e' w5 ⟨rfl, hb5⟩; have HB5 := Lib.hid hb5; clear hb5)
                    have z1d : w5.cell? ⟨g8, o8 + 17, none⟩ = some (.string z0.t.t) := (HB5.out.cell (p := ⟨g8, o8 + 17, none⟩) HGL.out).trans z1c
                    have a1d : w5.cell? ⟨g8, o8 + 1, none⟩ = some (.string a0.t.t) := (HB5.out.cell (p := ⟨g8, o8 + 1, none⟩) HGL.out).trans a1c
                    have HBT5 : Hid (Below w.heap.size w w5) := HBT.out.trans (HB5.out.mono HBT.out.size)
                    clear z1c a1c a0c y0 y1 y2 y3 y4 y5 y6 y7 z0c z2c
                    have HTH := Lib.hid (HTH.out w5)
                    generalize thD num = xx at *
                    obtain ⟨n2, ok⟩ := xx
                    simp only at HS2 hbd HTH
                    obtain ⟨hn1, hn2⟩ := hbd
                    clear hm
                    cases col with
                    | false =>
                      have HN : Hid (cdC x wd hg = none) := by unfold Hid; rw [HS2.out]; rfl
                      go_wp2_with (go_at_call 44; refine (HTH.out).mono ?_; rintro e' w7 ⟨rfl, rfl⟩)
                      go_ret2
                      exact ⟨_, _, rfl, .inl ⟨HN.out, rfl⟩, HBT5.out⟩
                    | true =>
                      cases ok with
                      | false =>
                        have HN : Hid (cdC x wd hg = none) := by unfold Hid; rw [HS2.out]; rfl
                        go_wp2_with (go_at_call 44; refine (HTH.out).mono ?_; rintro e' w7 ⟨rfl, rfl⟩)
                        go_ret2
                        exact ⟨_, _, rfl, .inl ⟨HN.out, rfl⟩, HBT5.out⟩
                      | true =>
                        have HS3 : Hid (cdC x wd hg = cdV (small a0.t.t) (n2 * 64 / 1000) wd hg) := HS2.out
                        have HFL := Lib.hid (c_rDown (n2 * 64) w5 (by omega) (by omega))
                        have HSM := Lib.hid (c_rSmall a0.t.t w5 (by omega))
                        generalize small a0.t.t = what at *
                        go_upto_region 16 with (go_at_call 44; refine (HTH.out).mono ?_; rintro e' w7 ⟨rfl, rfl⟩)
                        generalize hq : n2 * 64 / 1000 = q at *
                        clear hq
                        go_upto_region 17 with (go_at_call 45; refine (HFL.out).mono ?_; rintro e' w8 ⟨rfl, rfl⟩)
                        go_upto_region 18 with (go_at_call 25; refine (HSM.out).mono ?_; rintro e' w9 ⟨rfl, hb9⟩; have HBT9 : Hid (Below w.heap.size w w9) := HBT5.out.trans (hb9.mono HBT5.out.size); clear hb9)
                        have HB := Lib.hid (beq_list what)
                        have b0 := HB.out mnW
                        rw [show mnW.toList = [109, 105, 110, 45, 119, 105, 100, 116, 104] by rw [ByteArray.toList_eq]; rfl] at b0
                        by_cases h0 : what = mnW
                        · rw [decide_eq_true h0] at b0
                          have HS : Hid (cdC x wd hg = some (decide (q ≤ wd))) := by
                            unfold Hid; rw [HS3.out]; unfold cdV; rw [if_pos h0]
                          clear h0
                          go_wp2_with fail
                          all_goals
                            go_ret2
                            exact ⟨_, _, rfl, .inr ⟨HS.out, rfl⟩, HBT9.out⟩
                        · rw [decide_eq_false h0] at b0
                          have b1 := HB.out mxW
                          rw [show mxW.toList = [109, 97, 120, 45, 119, 105, 100, 116, 104] by rw [ByteArray.toList_eq]; rfl] at b1
                          by_cases h1 : what = mxW
                          · rw [decide_eq_true h1] at b1
                            have HS : Hid (cdC x wd hg = some (decide (wd ≤ q))) := by
                              unfold Hid; rw [HS3.out]; unfold cdV; rw [if_neg h0, if_pos h1]
                            clear h0 h1
                            go_wp2_with fail
                            all_goals
                              go_ret2
                              exact ⟨_, _, rfl, .inr ⟨HS.out, rfl⟩, HBT9.out⟩
                          · rw [decide_eq_false h1] at b1
                            have b2 := HB.out mnH
                            rw [show mnH.toList = [109, 105, 110, 45, 104, 101, 105, 103, 104, 116] by rw [ByteArray.toList_eq]; rfl] at b2
                            by_cases h2 : what = mnH
                            · rw [decide_eq_true h2] at b2
                              have HS : Hid (cdC x wd hg = some (decide (q ≤ hg))) := by
                                unfold Hid; rw [HS3.out]; unfold cdV; rw [if_neg h0, if_neg h1, if_pos h2]
                              clear h0 h1 h2
                              go_wp2_with fail
                              all_goals
                                go_ret2
                                exact ⟨_, _, rfl, .inr ⟨HS.out, rfl⟩, HBT9.out⟩
                            · rw [decide_eq_false h2] at b2
                              have b3 := HB.out mxH
                              rw [show mxH.toList = [109, 97, 120, 45, 104, 101, 105, 103, 104, 116] by rw [ByteArray.toList_eq]; rfl] at b3
                              by_cases h3 : what = mxH
                              · rw [decide_eq_true h3] at b3
                                have HS : Hid (cdC x wd hg = some (decide (hg ≤ q))) := by
                                  unfold Hid; rw [HS3.out]; unfold cdV; rw [if_neg h0, if_neg h1, if_neg h2, if_pos h3]
                                clear h0 h1 h2 h3
                                go_wp2_with fail
                                all_goals
                                  go_ret2
                                  exact ⟨_, _, rfl, .inr ⟨HS.out, rfl⟩, HBT9.out⟩
                              · rw [decide_eq_false h3] at b3
                                have HN : Hid (cdC x wd hg = none) := by
                                  unfold Hid; rw [HS3.out]; unfold cdV; rw [if_neg h0, if_neg h1, if_neg h2, if_neg h3]
                                clear h0 h1 h2 h3
                                go_wp2_with fail
                                go_ret2
                                exact ⟨_, _, rfl, .inl ⟨HN.out, rfl⟩, HBT9.out⟩
                  · rw [decide_eq_false hu] at bU
                    have bUn : (z0.t.u.toList != [112, 120]) = true := by rw [bne, bU]; rfl
                    have HN : Hid (cdC x wd hg = none) := by unfold Hid; rw [HSH.out, if_neg (fun e => hu e.2.2.1)]; rfl
                    clear hu hkA hkZ kA kZ HSH
                    go_wp2_with fail
                    go_ret2
                    exact ⟨_, _, rfl, .inl ⟨HN.out, rfl⟩, HBT.out⟩
                · rw [decide_eq_false hkZ] at bZ
                  have bZn : ((kdS z0.t.k).toList != [100, 105, 109]) = true := by rw [bne, bZ]; rfl
                  have HN : Hid (cdC x wd hg = none) := by unfold Hid; rw [HSH.out, if_neg (fun e => hkZ e.2.1)]; rfl
                  clear hkA hkZ kA kZ HSH
                  go_wp2_with fail
                  go_ret2
                  exact ⟨_, _, rfl, .inl ⟨HN.out, rfl⟩, HBT.out⟩
              · rw [decide_eq_false hkA] at bA
                have bAn : ((kdS a0.t.k).toList != [110, 97, 109, 101]) = true := by rw [bne, bA]; rfl
                have HN : Hid (cdC x wd hg = none) := by unfold Hid; rw [HSH.out, if_neg (fun e => hkA e.1)]; rfl
                clear hkA kA kZ HSH
                go_wp2_with fail
                go_ret2
                exact ⟨_, _, rfl, .inl ⟨HN.out, rfl⟩, HBT.out⟩
            · obtain ⟨A8, c8, he8, _⟩ := HRC8.out.len
              subst he8
              have h3I : ¬ (acc.length : Int) = 3 := by omega
              have h3b : ((acc.length : Int) == 3) = false := beq_eq_false_iff_ne.2 h3I
              have h3n : ((acc.length : Int) != 3) = true := by rw [bne, h3b]; rfl
              have HN : Hid (cdC x wd hg = none) := by unfold Hid; rw [HCD.out, shR_3 HF.out h3]; rfl
              clear h3
              go_wp2_with fail
              go_ret2
              exact ⟨_, _, rfl, .inl ⟨HN.out, rfl⟩, HBT.out⟩
    · rw [decide_eq_false h40] at q40 hsg
      have q40n : (x.t.t.toList != [40]) = true := by rw [bne, q40]; rfl
      have HN : Hid (cdC x wd hg = none) := by unfold Hid; rw [← HCDE.out, hcd, if_neg (by rw [hsg]; simp)]
      clear hcd hsg h40 h10
      go_enter Tryd.func26, Tryd.ntmps26
      go_upto_region 1 with fail
      rw [← HW1.out, ← HBB.out]
      go_wp2_with fail
      go_ret2
      exact ⟨_, _, rfl, .inl ⟨HN.out, rfl⟩, HBW.out⟩
  · rw [decide_eq_false h10] at b10
    have b10n : ((kdS x.t.k).toList != [115, 105, 103, 110]) = true := by rw [bne, b10]; rfl
    rw [decide_eq_false h10, Bool.false_and] at hsg
    have HN : Hid (cdC x wd hg = none) := by unfold Hid; rw [← HCDE.out, hcd, if_neg (by rw [hsg]; simp)]
    clear hcd hsg h10 q40
    go_enter Tryd.func26, Tryd.ntmps26
    go_upto_region 1 with fail
    rw [← HW1.out, ← HBB.out]
    go_wp2_with fail
    go_ret2
    exact ⟨_, _, rfl, .inl ⟨HN.out, rfl⟩, HBW.out⟩
end Go.Proofs.YtmhejppfjngbhaaDoor

