/- the law PlainTree: its walk -/
import Derived.Test.YtimlmekgapdkiaaDoorUs
import Derived.Test.YtimlmekgapdkiaaDoorTms
namespace Go.Proofs.YtimlmekgapdkiaaDoor
set_option linter.unusedVariables false
set_option linter.unusedSimpArgs false
open Go.RowKit Go.Cas

theorem RdT.below {w w' : World} {lim lim' n : Nat} {v : Value} {L : List TwV} (h : RdT w lim v n L) (hb : Below lim w w') (hl : lim ≤ lim') : RdT w' lim' v n L :=
  ⟨(h.1.below hb).mono hl, fun y hy => by
    obtain ⟨h1, h2, h3⟩ := h.2 y hy
    exact ⟨(h1.below hb).mono hl, (h2.below hb).mono hl, h3⟩⟩
theorem cst_len (l : List Twg) : l.length ≤ cst l := by
  induction l with
  | nil => simp [cst]
  | cons x l ih =>
    have e : cst (x :: l) = (x.at_.length + x.ki.length + 4) + cst l := by simp [cst]
    rw [e, List.length_cons]; omega
set_option maxRecDepth 100000 in
set_option maxHeartbeats 16000000 in
theorem W_plainTree {w : World} {v : Value} {n : Nat} {L : List TwV} {p : Nat → Addr} (hr : RdT w w.heap.size v n L) (hn : L.length = n) (hn2 : n ≤ maxLen) (hm : ∀ y ∈ L, y.x.at_.length ≤ maxLen ∧ y.x.ki.length ≤ maxLen) (hG : GE w w.heap.size p) (hc : cst (L.map TwV.x) ≤ 10000000) :
    Calls Tryd.prog 5 #[v] w fun e w' => e = .returned (.bool true) ∧ Below w.heap.size w w' := by
  have hn9 : n ≤ 1000000000 := by have := cst_len (L.map TwV.x); rw [List.length_map, hn] at this; omega
  have HTR := Lib.hid (c_Tree hr hn hn9 hG hc)
  have HFW : Hid (∀ W', Below w.heap.size w W' → Calls Tryd.prog 11 #[v] W' (FwRet (L.map TwV.x) W')) := fun W' hb => c_few (hr.below hb hb.size) hn hn2 hm
  have HFT : Hid (∀ W', Below w.heap.size w W' → FewP (L.map TwV.x) → Calls Tryd.prog 14 #[v] W' (FtRet W' (L.map TwV.x))) := fun W' hb hf => c_FromTwigs (hr.below hb hb.size) hn hf
  clear hr hn hn2 hm hG hc hn9
  go_enter Tryd.func5, Tryd.ntmps5
  go_upto_region 2 with (go_at_call 12; refine (HTR.out).mono ?_; rintro e w1 (⟨rfl, hbad, hb1⟩ | ⟨R, F, rfl, hts, hti, hl, hb1⟩))
  · have HBAD := Lib.hid hbad
    have HB1 := Lib.hid hb1
    clear hbad hb1
    go_upto_region 3 with (go_at_call 11; refine (HFW.out _ HB1.out).mono ?_; rintro e w' ⟨bf, rfl, hfp, rfl⟩; have HFP := Lib.hid hfp; clear hfp)
    cases bf
    · go_wp2_with fail
      go_ret
      exact ⟨rfl, HB1.out⟩
    · exfalso
      have hf := HFP.out rfl
      rcases HBAD.out with hb | ⟨x, hx, hb⟩
      · have := hf.1; omega
      · have := (hf.2 x hx).1; omega
  · have HTS := Lib.hid hts
    have HTI := Lib.hid hti
    have HL := Lib.hid hl
    have HB1 := Lib.hid hb1
    clear hts hti hl hb1
    go_upto_region 3 with (go_at_call 11; refine (HFW.out _ HB1.out).mono ?_; rintro e w' ⟨bf, rfl, hfp, rfl⟩; have HFP := Lib.hid hfp; clear hfp)
    cases bf
    · go_wp2_with fail
      go_ret
      exact ⟨rfl, HB1.out⟩
    · have HFU := Lib.hid (HFT.out _ HB1.out (HFP.out rfl))
      have HLN := HL.out
      have hTL : (plainT (L.map TwV.x)).length ≤ 400 := by have := HTI.out.len; omega
      have HTL := Lib.hid hTL
      clear HLN hTL
      go_upto_region 6 with (go_at_call 14; refine (HFU.out).mono ?_; rintro e w2 ⟨B, R2, L2, cap2, τ2, M2, rfl, hB, hrt, hM2, _, hat, hb2⟩; have HBB := Lib.hid hB; have HRT := Lib.hid hrt; have HM2 := Lib.hid hM2; have HAT := Lib.hid hat; have HB2 := Lib.hid hb2; clear hB hrt hM2 hat hb2)
      have hmv := HRT.out.move
      have hlM : M2.length = L.length + 1 := by
        have := HTI.out.len
        rw [← HM2.out, List.length_map, List.length_map] at this
        exact this
      rw [hlM] at hmv
      obtain ⟨w3, hw3⟩ : ∃ w3, w3 = w2.alloc (.cells #[.slice (some ⟨L2, 0, none⟩) (L.length + 1) cap2, .slice none 0 0] 36) := ⟨_, rfl⟩
      rw [← hw3] at hmv ⊢
      have hb3 : Below w.heap.size w w3 := by rw [hw3]; exact bl_alloc (bl_trans HB1.out HB2.out) _
      have hts3 : TS w.heap.size R (plainT (L.map TwV.x)) [] F w3 := (HTS.out.below HB2.out).below (by rw [hw3]; exact bl_alloc (Below.refl _ _) _)
      obtain ⟨d, hd⟩ := HTI.out.wf
      have HAL := Lib.hid (c_alike ⟨hts3, hmv, HM2.out⟩ hd HTL.out HAT.out)
      have HB3 := Lib.hid hb3
      clear hmv hlM hw3 hb3 hts3 hd
      go_wp2_with (go_at_call 15; refine (HAL.out).mono ?_; rintro e w4 ⟨rfl, hb4⟩; have HB4 := Lib.hid (bl_trans HB3.out hb4); clear hb4)
      go_ret
      exact ⟨rfl, HB4.out⟩
end Go.Proofs.YtimlmekgapdkiaaDoor
