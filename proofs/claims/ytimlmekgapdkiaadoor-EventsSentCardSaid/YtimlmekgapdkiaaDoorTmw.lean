/- the law TreeOrders: its walk -/
import Derived.Test.YtimlmekgapdkiaaDoorTmv
namespace Go.Proofs.YtimlmekgapdkiaaDoor
set_option linter.unusedVariables false
set_option linter.unusedSimpArgs false
open Go.RowKit Go.Cas

theorem ordW_bd (T : List Nod) : ∀ (X Y : List Nat) (p : Nat), -1 ≤ cmpW T p X Y ∧ cmpW T p X Y ≤ 1 := by
  intro X
  induction X with
  | nil => intro Y p; cases Y <;> simp [cmpW]
  | cons x X ih =>
    intro Y p
    cases Y with
    | nil => simp [cmpW]
    | cons y Y =>
      simp only [cmpW]
      split
      · exact ih Y x
      · split <;> omega
def OiRet (T : List Nod) (a b : Int) (w : World) (e : Ending) (w' : World) : Prop := ∃ x q, e = .returned (.tuple #[.int .i64 x, .bool q]) ∧ OrdIs T a b x q ∧ (-1 ≤ x ∧ x ≤ 1) ∧ Below w.heap.size w w'
theorem c_OrderIs {w : World} {B R : Nat} {F : Nat → Prop} {T : List Nod} {d : Nat → Nat} {D : List (Value × List Nod)} (h : TS B R T D F w) (hW : WF T d) (hT : T.length ≤ 400) (a b : Int) :
    Calls Tryd.prog 13 #[.pointer (some ⟨R, 0, none⟩), .int .i64 a, .int .i64 b] w (OiRet T a b w) := by
  by_cases hn : a < 0 ∨ (T.length : Int) ≤ a ∨ b < 0 ∨ (T.length : Int) ≤ b
  · refine (c_Order_no h hT a b hn).mono ?_
    rintro e w' ⟨he, rfl⟩
    exact ⟨0, false, he, ⟨fun _ => ⟨rfl, rfl⟩, fun i j X Y h1 h2 h3 h4 _ _ => by exfalso; omega⟩, by omega, Below.refl _ _⟩
  · obtain ⟨i, rfl⟩ := Int.eq_ofNat_of_zero_le (show 0 ≤ a by omega)
    obtain ⟨j, rfl⟩ := Int.eq_ofNat_of_zero_le (show 0 ≤ b by omega)
    have hi : i < T.length := by omega
    have hj : j < T.length := by omega
    obtain ⟨X, hX⟩ := Go.Cas.Way.ex hW _ i (Nat.le_refl _) hi
    obtain ⟨Y, hY⟩ := Go.Cas.Way.ex hW _ j (Nat.le_refl _) hj
    have hXl := hX.short hW hi
    have hYl := hY.short hW hj
    refine (c_Order h hW hT hi hj hX hY (by omega) (by omega)).mono ?_
    rintro e w' ⟨he, hb⟩
    refine ⟨_, _, he, ⟨fun hh => absurd hh hn, fun i' j' X' Y' h1 h2 h3 h4 h5 h6 => ?_⟩, ?_, hb⟩
    · obtain rfl : i = i' := by omega
      obtain rfl : j = j' := by omega
      rw [h5.uniq hX, h6.uniq hY]
    · unfold ordW
      cases X with
      | nil => simp
      | cons r X => cases Y with
        | nil => simp
        | cons s Y =>
          simp only
          split
          · exact ordW_bd T X Y r
          · simp
def TfRet (w : World) (xs : List Twg) (e : Ending) (w' : World) : Prop := ∃ R F, e = .returned (.pointer (some ⟨R, 0, none⟩)) ∧ TS w.heap.size R (plainT xs) [] F w' ∧ TI (plainT xs) xs.length ∧ xs.length ≤ 60 ∧ Below w.heap.size w w'
/-- the tree of few twigs -/
theorem c_TreeFew {w : World} {v : Value} {n : Nat} {L : List TwV} {p : Nat → Addr} (hr : RdT w w.heap.size v n L) (hn : L.length = n) (hG : GE w w.heap.size p) (hfp : FewP (L.map TwV.x)) : Calls Tryd.prog 12 #[v] w (TfRet w (L.map TwV.x)) := by
  have hcst : cst (L.map TwV.x) ≤ 10000000 := by
    have h1 : ∀ l : List Twg, (∀ x ∈ l, FewX x) → cst l ≤ 72 * l.length := by
      intro l
      induction l with
      | nil => intro _; simp [cst]
      | cons x l ih =>
        intro hx
        have h2 := hx x (by simp)
        have h3 := ih (fun y hy => hx y (by simp [hy]))
        obtain ⟨_, _, h4, h5, _⟩ := h2
        have e : cst (x :: l) = (x.at_.length + x.ki.length + 4) + cst l := by simp [cst]
        rw [e, List.length_cons]; omega
    have := h1 _ hfp.2
    have := hfp.1
    omega
  refine (c_Tree hr hn (by have := hfp.1; rw [List.length_map, hn] at this; omega) hG hcst).mono ?_
  rintro e w' (⟨_, hbad, _⟩ | ⟨R, F, he, h1, h2, _, h3⟩)
  · exfalso
    rcases hbad with hb | ⟨x, hx, hb⟩
    · have := hfp.1; omega
    · have := (hfp.2 x hx).1; omega
  · exact ⟨R, F, he, h1, h2, hfp.1, h3⟩
set_option maxRecDepth 100000 in
set_option maxHeartbeats 16000000 in
theorem W_treeOrders {w : World} {v : Value} {n : Nat} {L : List TwV} {p : Nat → Addr} (hr : RdT w w.heap.size v n L) (hn : L.length = n) (hn2 : n ≤ maxLen) (hm : ∀ y ∈ L, y.x.at_.length ≤ maxLen ∧ y.x.ki.length ≤ maxLen) (hG : GE w w.heap.size p) (a b c : Int) :
    Calls Tryd.prog 4 #[v, .int .i64 a, .int .i64 b, .int .i64 c] w fun e w' => e = .returned (.bool true) ∧ Below w.heap.size w w' := by
  have HFW := Lib.hid (c_few hr hn hn2 hm)
  have HTF : Hid (FewP (L.map TwV.x) → Calls Tryd.prog 12 #[v] w (TfRet w (L.map TwV.x))) := fun h => c_TreeFew hr hn hG h
  clear hr hn hn2 hm hG
  go_enter Tryd.func4, Tryd.ntmps4
  go_upto_region 2 with (go_at_call 11; refine (HFW.out).mono ?_; rintro e w' ⟨bf, rfl, hfp, rfl⟩; have HFP := Lib.hid hfp; clear hfp)
  cases bf
  · go_wp2_with fail
    go_ret
    exact ⟨rfl, Below.refl _ _⟩
  go_upto_region 7 with (go_at_call 12; refine (HTF.out (HFP.out rfl)).mono ?_; rintro e w1 ⟨R, F, rfl, hts, hti, hl60, hb1⟩; have HTS := Lib.hid hts; have HTI := Lib.hid hti; have HL60 := Lib.hid hl60; have HB1 := Lib.hid hb1; clear hts hti hl60 hb1)
  obtain ⟨T, hT⟩ : ∃ T, T = plainT (L.map TwV.x) := ⟨_, rfl⟩
  rw [← hT] at HTS HTI
  clear hT
  have HTL : Hid (T.length ≤ 400) := by have h1 := HTI.out.len; have h2 := HL60.out; unfold Hid; omega
  obtain ⟨d, hd⟩ := HTI.out.wf
  have HWF := Lib.hid hd
  clear hd
  go_upto_region 8 with (go_at_call 13; refine (c_OrderIs HTS.out HWF.out HTL.out _ _).mono ?_; rintro e w2 ⟨x0, q0, rfl, ho0, _, hb2⟩; have HO0 := Lib.hid ho0; have HB2 := Lib.hid hb2; clear ho0 hb2)
  obtain ⟨hx0, hq0⟩ := ord_self HWF.out (by have := HTI.out.len; omega) HO0.out
  subst hx0 hq0
  go_upto_region 11 with (go_at_call 13; refine (c_OrderIs (HTS.out.below HB2.out) HWF.out HTL.out _ _).mono ?_; rintro e w3 ⟨ab, p1, rfl, ho1, hbd1, hb3⟩; have HO1 := Lib.hid ho1; have HB3 := Lib.hid (bl_trans HB2.out hb3); clear ho1 hb3)
  go_upto_region 12 with (go_at_call 13; refine (c_OrderIs (HTS.out.below HB3.out) HWF.out HTL.out _ _).mono ?_; rintro e w4 ⟨ba, p2, rfl, ho2, hbd2, hb4⟩; have HO2 := Lib.hid ho2; have HB4 := Lib.hid (bl_trans HB3.out hb4); clear ho2 hb4)
  go_upto_region 13 with (go_at_call 13; refine (c_OrderIs (HTS.out.below HB4.out) HWF.out HTL.out _ _).mono ?_; rintro e w5 ⟨bc, p3, rfl, ho3, hbd3, hb5⟩; have HO3 := Lib.hid ho3; have HB5 := Lib.hid (bl_trans HB4.out hb5); clear ho3 hb5)
  go_upto_region 14 with (go_at_call 13; refine (c_OrderIs (HTS.out.below HB5.out) HWF.out HTL.out _ _).mono ?_; rintro e w6 ⟨ac, p4, rfl, ho4, hbd4, hb6⟩; have HO4 := Lib.hid ho4; have HB6 := Lib.hid (bl_trans HB5.out hb6); clear ho4 hb6)
  obtain ⟨⟨hpq, hab⟩, h3, h4, h5⟩ := ord_law HWF.out HO1.out HO2.out HO3.out HO4.out
  have HFIN : Hid (Below w.heap.size w w6) := bl_trans HB1.out (HB6.out.mono (by exact Nat.le_refl _))
  subst hpq hab
  clear HO0 HO1 HO2 HO3 HO4 HB2 HB3 HB4 HB5 HB6 hbd3 hbd4
  cases p1
  · clear h3 h4 h5
    go_wp2_with fail
    go_ret
    exact ⟨rfl, HFIN.out⟩
  have h4' := h4 rfl
  have h3' := h3 rfl
  have h5' := h5 rfl
  clear h3 h4 h5
  by_cases hab : a = b
  · have e0 := h4'.2 hab
    obtain rfl : ba = 0 := by omega
    subst hab
    have z1 : ((a : Int) == a) = true := by simp
    clear h4' e0
    cases p3
    · clear h3' h5'
      go_wp2_with fail
      go_ret
      exact ⟨rfl, HFIN.out⟩
    · have hp4 := h3' rfl
      subst hp4
      clear h3' h5'
      go_wp2_with fail
      go_ret
      exact ⟨rfl, HFIN.out⟩
  · have e0 : ¬ -ba = 0 := fun h => hab (h4'.1 h)
    have z1 : ((a : Int) == b) = false := by rw [beq_eq_false_iff_ne]; exact hab
    have z2 : ((-ba : Int) == 0) = false := by rw [beq_eq_false_iff_ne]; exact e0
    have z3 : ¬ ba = 0 := by omega
    clear h4'
    cases p3
    · clear h3' h5'
      go_wp2_with fail
      go_ret
      exact ⟨rfl, HFIN.out⟩
    · have hp4 := h3' rfl
      subst hp4
      have h6 := h5' rfl
      clear h3' h5'
      by_cases l1 : -ba < 0
      · by_cases l2 : bc < 0
        · have l3 := h6 l1 l2
          clear h6
          go_wp2_with fail
          go_ret
          exact ⟨rfl, HFIN.out⟩
        · clear h6
          go_wp2_with fail
          go_ret
          exact ⟨rfl, HFIN.out⟩
      · clear h6
        go_wp2_with fail
        go_ret
        exact ⟨rfl, HFIN.out⟩
end Go.Proofs.YtimlmekgapdkiaaDoor
