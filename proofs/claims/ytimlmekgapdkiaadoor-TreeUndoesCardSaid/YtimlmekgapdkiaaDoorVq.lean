/- the law's play: a change in the program's tree -/
import Derived.Test.YtimlmekgapdkiaaDoorVp
namespace Go.Proofs.YtimlmekgapdkiaaDoor
set_option linter.unusedVariables false
set_option linter.unusedSimpArgs false
open Go.RowKit Go.Cas

/-- what a step of a play leaves of the tree and of what undoes it -/
def PStep (k : Int) (n : Nat) (T : List Nod) (D : List (Value × List Nod)) (T' : List Nod) (D' : List (Value × List Nod)) : Prop :=
  (T' = T ∧ D' = D) ∨ (∃ u, D' = (u, T) :: D ∧ Gd T' (n + 1)) ∨ (∃ u, D = (u, T') :: D') ∨ (k = 10 ∧ T' = T ∧ D' = [])
def PlRet (B R : Nat) (T : List Nod) (D : List (Value × List Nod)) (F : Nat → Prop) (k : Int) (n : Nat) (w : World) (e : Ending) (w' : World) : Prop :=
  (∃ u, e = .returned u) ∧ ∃ T' D' F', TS B R T' D' F' w' ∧ (∀ k, k < w.heap.size → F' k → F k) ∧ Kept w w' F ∧ PStep k n T D T' D'
theorem ChgRet.pl {B R n : Nat} {T : List Nod} {D : List (Value × List Nod)} {F : Nat → Prop} {k : Int} {w w1 w' : World} {e e2 : Ending} (h : ChgRet B R T D F n w1 e w') (hb : Below w.heap.size w w1) (he : ∃ u, e2 = .returned u) : PlRet B R T D F k n w e2 w' := by
  obtain ⟨_, T', D', F', h1, h2, h3, h4⟩ := h
  refine ⟨he, T', D', F', h1, fun k hk hf => h2 k (Nat.lt_of_lt_of_le hk hb.size) hf, (Kept.of_below hb F).then_ h3 (fun _ _ e => e), ?_⟩
  rcases h4 with h4 | h4
  · exact .inl h4
  · exact .inr (.inl h4)
def opV (k a b c : Int) (s t : ByteArray) : Value := .agg #[.int .i64 k, .int .i64 a, .int .i64 b, .int .i64 c, .string s, .string t]
set_option maxRecDepth 100000 in
set_option maxHeartbeats 8000000 in
theorem c_play {w : World} {B R n : Nat} {T : List Nod} {D : List (Value × List Nod)} {F : Nat → Prop} {p : Nat → Addr} (h : TS B R T D F w) (hG : GE w B p) (hD : D.length ≤ 1000000000000) (hg : Gd T n) (hn : n ≤ 1000) (k a b c : Int) (s t : ByteArray) (hs : s.size ≤ maxLen) (ht : t.size ≤ maxLen) :
    Calls Tryd.prog 21 #[.pointer (some ⟨R, 0, none⟩), opV k a b c s t] w (PlRet B R T D F k n w) := by
  obtain ⟨w1, hw1⟩ : ∃ w1, w1 = w.alloc (.cells #[.int .i64 k, .int .i64 a, .int .i64 b, .int .i64 c, .string s, .string t] 47) := ⟨_, rfl⟩
  obtain ⟨bo, hbo⟩ : ∃ bo, bo = w.heap.size := ⟨_, rfl⟩
  have hbk : Bk w1 bo 47 #[.int .i64 k, .int .i64 a, .int .i64 b, .int .i64 c, .string s, .string t] := by rw [hw1, hbo]; exact bk_new' _ _ _ rfl
  have hbl : Below w.heap.size w w1 := by rw [hw1]; exact bl_alloc (Below.refl _ _) _
  have h1 := h.below hbl
  have hG1 := hG.below (hbl.mono hG.lt.2)
  have c0 := hbk.cell 0; have c1 := hbk.cell 1; have c2 := hbk.cell 2; have c3 := hbk.cell 3; have c4 := hbk.cell 4; have c5 := hbk.cell 5
  have lb := hbk.lt
  have HBL := Lib.hid hbl
  have HW1 := Lib.hid hw1
  have HBO := Lib.hid hbo
  have H1 := Lib.hid h1
  have HG1 := Lib.hid hG1
  have HD := Lib.hid hD
  have HGD := Lib.hid hg
  have HN := Lib.hid hn
  have HSS := Lib.hid hs
  have HTT := Lib.hid ht
  clear h hG hD hg hn hs ht hw1 hbo hbk hbl h1 hG1
  unfold opV
  by_cases e1 : k = 1
  · subst e1
    have HC := Lib.hid (c_ElementAny (n := n) H1.out HG1.out HD.out HGD.out s HSS.out)
    go_enter Tryd.func21, Tryd.ntmps21
    go_upto_region 1 with fail
    rw [← HW1.out, ← HBO.out]
    go_wp2_with (go_at_call 17; refine (HC.out).mono ?_; rintro e w2 hx; have HX := Lib.hid hx; clear hx; obtain ⟨⟨u, rfl⟩, _⟩ := HX.out)
    go_end0
    exact HX.out.pl HBL.out ⟨_, rfl⟩
  have b1 : (k == 1) = false := beq_eq_false_iff_ne.2 e1
  by_cases e2 : k = 2
  · subst e2
    have HC := Lib.hid (c_TextAny (n := n) H1.out HG1.out HD.out HGD.out s HSS.out)
    clear e1 b1
    go_enter Tryd.func21, Tryd.ntmps21
    go_upto_region 1 with fail
    rw [← HW1.out, ← HBO.out]
    go_wp2_with (go_at_call 42; refine (HC.out).mono ?_; rintro e w2 hx; have HX := Lib.hid hx; clear hx; obtain ⟨⟨u, rfl⟩, _⟩ := HX.out)
    go_end0
    exact HX.out.pl HBL.out ⟨_, rfl⟩
  have b2 : (k == 2) = false := beq_eq_false_iff_ne.2 e2
  by_cases e3 : k = 3
  · subst e3
    have HC := Lib.hid (c_CommentAny (n := n) H1.out HG1.out HD.out HGD.out s HSS.out)
    clear e1 b1 e2 b2
    go_enter Tryd.func21, Tryd.ntmps21
    go_upto_region 1 with fail
    rw [← HW1.out, ← HBO.out]
    go_wp2_with (go_at_call 41; refine (HC.out).mono ?_; rintro e w2 hx; have HX := Lib.hid hx; clear hx; obtain ⟨⟨u, rfl⟩, _⟩ := HX.out)
    go_end0
    exact HX.out.pl HBL.out ⟨_, rfl⟩
  have b3 : (k == 3) = false := beq_eq_false_iff_ne.2 e3
  by_cases e4 : k = 4
  · subst e4
    have HC := Lib.hid (c_PutAny2 (n := n) H1.out HG1.out HD.out HGD.out a b c)
    clear e1 b1 e2 b2 e3 b3
    go_enter Tryd.func21, Tryd.ntmps21
    go_upto_region 1 with fail
    rw [← HW1.out, ← HBO.out]
    go_wp2_with (go_at_call 45; refine (HC.out).mono ?_; rintro e w2 hx; have HX := Lib.hid hx; clear hx; obtain ⟨⟨u, rfl⟩, _⟩ := HX.out)
    go_end0
    exact HX.out.pl HBL.out ⟨_, rfl⟩
  have b4 : (k == 4) = false := beq_eq_false_iff_ne.2 e4
  by_cases e5 : k = 5
  · subst e5
    have HC := Lib.hid (c_TakeAny (n := n) H1.out HG1.out HD.out HGD.out a)
    clear e1 b1 e2 b2 e3 b3 e4 b4
    go_enter Tryd.func21, Tryd.ntmps21
    go_upto_region 1 with fail
    rw [← HW1.out, ← HBO.out]
    go_wp2_with (go_at_call 65; refine (HC.out).mono ?_; rintro e w2 hx; have HX := Lib.hid hx; clear hx; obtain ⟨⟨u, rfl⟩, _⟩ := HX.out)
    go_end0
    exact HX.out.pl HBL.out ⟨_, rfl⟩
  have b5 : (k == 5) = false := beq_eq_false_iff_ne.2 e5
  by_cases e6 : k = 6
  · subst e6
    have HC := Lib.hid (c_SetAny2 (n := n) H1.out HG1.out HD.out HGD.out HN.out a s t HSS.out HTT.out)
    clear e1 b1 e2 b2 e3 b3 e4 b4 e5 b5
    go_enter Tryd.func21, Tryd.ntmps21
    go_upto_region 1 with fail
    rw [← HW1.out, ← HBO.out]
    go_wp2_with (go_at_call 43; refine (HC.out).mono ?_; rintro e w2 hx; have HX := Lib.hid hx; clear hx; obtain ⟨⟨u, rfl⟩, _⟩ := HX.out)
    go_end0
    exact HX.out.pl HBL.out ⟨_, rfl⟩
  have b6 : (k == 6) = false := beq_eq_false_iff_ne.2 e6
  by_cases e7 : k = 7
  · subst e7
    have HC := Lib.hid (c_UnsetAny (n := n) H1.out HG1.out HD.out HGD.out HN.out a s)
    clear e1 b1 e2 b2 e3 b3 e4 b4 e5 b5 e6 b6
    go_enter Tryd.func21, Tryd.ntmps21
    go_upto_region 1 with fail
    rw [← HW1.out, ← HBO.out]
    go_wp2_with (go_at_call 66; refine (HC.out).mono ?_; rintro e w2 hx; have HX := Lib.hid hx; clear hx; obtain ⟨⟨u, rfl⟩, _⟩ := HX.out)
    go_end0
    exact HX.out.pl HBL.out ⟨_, rfl⟩
  have b7 : (k == 7) = false := beq_eq_false_iff_ne.2 e7
  by_cases e8 : k = 8
  · subst e8
    have HC := Lib.hid (c_SayAny (n := n) H1.out HG1.out HD.out HGD.out a s HSS.out)
    clear e1 b1 e2 b2 e3 b3 e4 b4 e5 b5 e6 b6 e7 b7
    go_enter Tryd.func21, Tryd.ntmps21
    go_upto_region 1 with fail
    rw [← HW1.out, ← HBO.out]
    go_wp2_with (go_at_call 67; refine (HC.out).mono ?_; rintro e w2 hx; have HX := Lib.hid hx; clear hx; obtain ⟨⟨u, rfl⟩, _⟩ := HX.out)
    go_end0
    exact HX.out.pl HBL.out ⟨_, rfl⟩
  have b8 : (k == 8) = false := beq_eq_false_iff_ne.2 e8
  by_cases e9 : k = 9
  · subst e9
    have HC := Lib.hid (c_CopyAny (n := n) H1.out HG1.out HD.out HGD.out a)
    clear e1 b1 e2 b2 e3 b3 e4 b4 e5 b5 e6 b6 e7 b7 e8 b8
    go_enter Tryd.func21, Tryd.ntmps21
    go_upto_region 1 with fail
    rw [← HW1.out, ← HBO.out]
    go_wp2_with (go_at_call 68; refine (HC.out).mono ?_; rintro e w2 hx; have HX := Lib.hid hx; clear hx; obtain ⟨⟨u, rfl⟩, _⟩ := HX.out)
    go_end0
    exact HX.out.pl HBL.out ⟨_, rfl⟩
  have b9 : (k == 9) = false := beq_eq_false_iff_ne.2 e9
  by_cases e10 : k = 10
  · subst e10
    have HC := Lib.hid (c_Settle H1.out)
    clear e1 b1 e2 b2 e3 b3 e4 b4 e5 b5 e6 b6 e7 b7 e8 b8 e9 b9
    go_enter Tryd.func21, Tryd.ntmps21
    go_upto_region 1 with fail
    rw [← HW1.out, ← HBO.out]
    go_wp2_with (go_at_call 19; refine (HC.out).mono ?_; rintro e w2 ⟨⟨u, rfl⟩, hts, hk⟩; have HTS := Lib.hid hts; have HK := Lib.hid hk; clear hts hk)
    go_end0
    exact ⟨⟨_, rfl⟩, T, [], F, HTS.out, fun _ _ h => h, (Kept.of_below HBL.out F).then_ HK.out (fun _ _ e => e), .inr (.inr (.inr ⟨rfl, rfl, rfl⟩))⟩
  have b10 : (k == 10) = false := beq_eq_false_iff_ne.2 e10
  cases D with
  | nil =>
    have HC := Lib.hid (c_Undo_none H1.out)
    go_enter Tryd.func21, Tryd.ntmps21
    go_upto_region 1 with fail
    rw [← HW1.out, ← HBO.out]
    go_wp2_with (go_at_call 22; refine (HC.out).mono ?_; rintro e w2 ⟨rfl, rfl⟩)
    go_end0
    exact ⟨⟨_, rfl⟩, T, [], F, H1.out, fun _ _ h => h, Kept.of_below HBL.out F, .inl ⟨rfl, rfl⟩⟩
  | cons q D =>
    obtain ⟨v, T'⟩ := q
    have HC := Lib.hid (c_Undo H1.out (by have := HD.out; simp at this; omega))
    go_enter Tryd.func21, Tryd.ntmps21
    go_upto_region 1 with fail
    rw [← HW1.out, ← HBO.out]
    go_wp2_with (go_at_call 22; refine (HC.out).mono ?_; rintro e w2 ⟨rfl, hts, hk⟩; have HTS := Lib.hid hts; have HK := Lib.hid hk; clear hts hk)
    go_end0
    exact ⟨⟨_, rfl⟩, T', D, F, HTS.out, fun _ _ h => h, (Kept.of_below HBL.out F).then_ HK.out (fun _ _ e => e), .inr (.inr (.inl ⟨v, rfl⟩))⟩
end Go.Proofs.YtimlmekgapdkiaaDoor
