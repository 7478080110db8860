/- sheets: what a token is and closes: the program's -/
import Derived.Test.YtmhejppfjngbhaaDoorYq
import Derived.Test.YtmhejppfjngbhaaDoorYd
namespace Go.Proofs.YtmhejppfjngbhaaDoor
set_option linter.unusedVariables false
set_option linter.unusedSimpArgs false
open Go.RowKit Go.Cas

/-- is it that sign? -/
def isS (t : Tk) (c : ByteArray) : Bool := decide (t.k = 10) && decide (t.t = c)
theorem beq_list (a b : ByteArray) : (a.toList == b.toList) = decide (a = b) := by
  rw [Bool.eq_iff_iff, beq_iff_eq, decide_eq_true_eq, ByteArray.toList_eq, ByteArray.toList_eq]
  constructor
  · intro h; apply ByteArray.ext; apply Array.ext'; exact h
  · intro h; rw [h]
set_option maxHeartbeats 4000000 in
set_option maxRecDepth 100000 in
theorem c_Is (t : Tk) (c : ByteArray) (w : World) : Calls Tryd.prog 8 #[.agg #[.int .i64 (t.k : Int), .string t.t, .string t.u, .int .i64 (t.a : Int), .int .i64 (t.b : Int)], .string c] w fun e w' => e = .returned (.bool (isS t c)) ∧ Below w.heap.size w w' := by
  have HE := Lib.hid (beq_list t.t c)
  by_cases hk : t.k = 10
  · have hkI : (t.k : Int) = 10 := by omega
    have HR : Hid (isS t c = decide (t.t = c)) := by unfold Hid isS; rw [decide_eq_true hk]; rfl
    clear hk
    go_enter Tryd.func8, Tryd.ntmps8
    go_wp2_with fail
    go_ret
    refine ⟨ret_bool ?_, bl_alloc (Below.refl _ _) _⟩
    rw [HR.out, ← HE.out]
  · have hkI : ¬ (t.k : Int) = 10 := by omega
    have hkb : ((t.k : Int) == 10) = false := beq_eq_false_iff_ne.2 hkI
    have HR : Hid (isS t c = false) := by unfold Hid isS; rw [decide_eq_false hk]; rfl
    clear hk
    go_enter Tryd.func8, Tryd.ntmps8
    go_wp2_with fail
    go_ret
    exact ⟨ret_bool HR.out.symm, bl_alloc (Below.refl _ _) _⟩
/-- a sign's form; none -/
def opS (c : Nat) : ByteArray := if c = 0 then ⟨#[]⟩ else ⟨#[UInt8.ofNat c]⟩
theorem clz_is (t : Tk) : clz t = if t.k = 7 then 41 else if isS t ⟨#[40]⟩ = true then 41 else if isS t ⟨#[91]⟩ = true then 93 else if isS t ⟨#[123]⟩ = true then 125 else 0 := by
  unfold clz isS
  by_cases h7 : t.k = 7
  · rw [if_pos h7, if_pos h7]
  · rw [if_neg h7, if_neg h7]
    by_cases h10 : t.k = 10
    · rw [if_pos h10]; simp [h10]
    · rw [if_neg h10]; simp [h10]
abbrev tkA (t : Tk) : Value := .agg #[.int .i64 (t.k : Int), .string t.t, .string t.u, .int .i64 (t.a : Int), .int .i64 (t.b : Int)]
set_option maxHeartbeats 4000000 in
set_option maxRecDepth 100000 in
theorem c_closer (t : Tk) (w : World) : Calls Tryd.prog 53 #[.agg #[.int .i64 (t.k : Int), .string t.t, .string t.u, .int .i64 (t.a : Int), .int .i64 (t.b : Int)]] w fun e w' => e = .returned (.string (opS (clz t))) ∧ Below w.heap.size w w' := by
  have HI := Lib.hid (fun c => c_Is t c)
  have hcz := clz_is t
  obtain ⟨w1, hw1⟩ : ∃ w1, w1 = w.alloc (.cells #[.int .i64 (t.k : Int), .string t.t, .string t.u, .int .i64 (t.a : Int), .int .i64 (t.b : Int)] 27) := ⟨_, rfl⟩
  have hbl : Below w.heap.size w w1 := by rw [hw1]; exact bl_alloc (Below.refl _ _) _
  obtain ⟨r, hr⟩ : ∃ r, r = w.heap.size := ⟨_, rfl⟩
  have hb7 : Bk w1 r 27 #[.int .i64 (t.k : Int), .string t.t, .string t.u, .int .i64 (t.a : Int), .int .i64 (t.b : Int)] := by
    rw [hw1, hr]; show (w.heap.push _)[w.heap.size]? = _; simp
  have HBK := Lib.hid hb7
  have HBL := Lib.hid hbl
  have HW := Lib.hid hw1
  have HR := Lib.hid hr
  have c0 := hb7.cell 0
  have c1 := hb7.cell 1
  have c2 := hb7.cell 2
  have c3 := hb7.cell 3
  have c4 := hb7.cell 4
  have hl7 := hb7.lt
  clear hw1 hbl hr hb7
  by_cases h7 : t.k = 7
  · have h7I : (t.k : Int) = 7 := by omega
    rw [if_pos h7] at hcz
    have HC := Lib.hid hcz
    clear hcz h7
    clear c0 c1 c2 c3 c4 hl7
    go_enter Tryd.func53, Tryd.ntmps53
    go_wp2_with fail
    go_ret
    exact ⟨by rw [HC.out]; rfl, bl_alloc (Below.refl _ _) _⟩
  · have h7I : ¬ (t.k : Int) = 7 := by omega
    have h7b : ((t.k : Int) == 7) = false := beq_eq_false_iff_ne.2 h7I
    rw [if_neg h7] at hcz
    clear h7
    by_cases g40 : isS t ⟨#[40]⟩ = true
    · rw [if_pos g40] at hcz
      have HC := Lib.hid hcz
      clear hcz
      go_enter Tryd.func53, Tryd.ntmps53
      go_upto_region 1 with fail
      rw [← HW.out, ← HR.out]
      go_wp2_with (go_at_call 8; refine (HI.out _ _).mono ?_; rintro e w2 ⟨rfl, hb2⟩; have hb7 := Bk.below HBK.out hb2 HBK.out.lt; clear c0 c1 c2 c3 c4 hl7; have c0 := hb7.cell 0; have c1 := hb7.cell 1; have c2 := hb7.cell 2; have c3 := hb7.cell 3; have c4 := hb7.cell 4; have hl7 := hb7.lt; have HBK := Lib.hid hb7; have HBL := Lib.hid (HBL.out.trans (hb2.mono HBL.out.size)); clear hb2 hb7)
      go_ret
      exact ⟨by rw [HC.out]; rfl, HBL.out⟩
    · rw [if_neg g40] at hcz
      rw [Bool.not_eq_true] at g40
      by_cases g91 : isS t ⟨#[91]⟩ = true
      · rw [if_pos g91] at hcz
        have HC := Lib.hid hcz
        clear hcz
        go_enter Tryd.func53, Tryd.ntmps53
        go_upto_region 1 with fail
        rw [← HW.out, ← HR.out]
        go_wp2_with (go_at_call 8; refine (HI.out _ _).mono ?_; rintro e w2 ⟨rfl, hb2⟩; have hb7 := Bk.below HBK.out hb2 HBK.out.lt; clear c0 c1 c2 c3 c4 hl7; have c0 := hb7.cell 0; have c1 := hb7.cell 1; have c2 := hb7.cell 2; have c3 := hb7.cell 3; have c4 := hb7.cell 4; have hl7 := hb7.lt; have HBK := Lib.hid hb7; have HBL := Lib.hid (HBL.out.trans (hb2.mono HBL.out.size)); clear hb2 hb7)
        go_ret
        exact ⟨by rw [HC.out]; rfl, HBL.out⟩
      · rw [if_neg g91] at hcz
        rw [Bool.not_eq_true] at g91
        by_cases g123 : isS t ⟨#[123]⟩ = true
        · rw [if_pos g123] at hcz
          have HC := Lib.hid hcz
          clear hcz
          go_enter Tryd.func53, Tryd.ntmps53
          go_upto_region 1 with fail
          rw [← HW.out, ← HR.out]
          go_wp2_with (go_at_call 8; refine (HI.out _ _).mono ?_; rintro e w2 ⟨rfl, hb2⟩; have hb7 := Bk.below HBK.out hb2 HBK.out.lt; clear c0 c1 c2 c3 c4 hl7; have c0 := hb7.cell 0; have c1 := hb7.cell 1; have c2 := hb7.cell 2; have c3 := hb7.cell 3; have c4 := hb7.cell 4; have hl7 := hb7.lt; have HBK := Lib.hid hb7; have HBL := Lib.hid (HBL.out.trans (hb2.mono HBL.out.size)); clear hb2 hb7)
          go_ret
          exact ⟨by rw [HC.out]; rfl, HBL.out⟩
        · rw [if_neg g123] at hcz
          rw [Bool.not_eq_true] at g123
          have HC := Lib.hid hcz
          clear hcz
          go_enter Tryd.func53, Tryd.ntmps53
          go_upto_region 1 with fail
          rw [← HW.out, ← HR.out]
          go_wp2_with (go_at_call 8; refine (HI.out _ _).mono ?_; rintro e w2 ⟨rfl, hb2⟩; have hb7 := Bk.below HBK.out hb2 HBK.out.lt; clear c0 c1 c2 c3 c4 hl7; have c0 := hb7.cell 0; have c1 := hb7.cell 1; have c2 := hb7.cell 2; have c3 := hb7.cell 3; have c4 := hb7.cell 4; have hl7 := hb7.lt; have HBK := Lib.hid hb7; have HBL := Lib.hid (HBL.out.trans (hb2.mono HBL.out.size)); clear hb2 hb7)
          go_ret
          exact ⟨by rw [HC.out]; rfl, HBL.out⟩
end Go.Proofs.YtmhejppfjngbhaaDoor
