/- the law EventsSent: its walk -/
import Derived.Test.YtimlmekgapdkiaaDoorKp
import Derived.Test.YtimlmekgapdkiaaDoorFw
namespace Go.Proofs.YtimlmekgapdkiaaDoor
set_option linter.unusedVariables false
set_option linter.unusedSimpArgs false
open Go.RowKit Go.Cas

/-- a step as the law is told it -/
structure StpX where
  k : Int
  e : EarV
  a : Int
  s : ByteArray
  r : Bool
def stpc (o : StpX) : List Value := [.int .i64 o.k, .int .i64 o.e.node, .string o.e.name, .bool o.e.down, .bool o.e.once, .bool o.e.calm, .bool o.e.stop, .bool o.e.now, .bool o.e.bar, .int .i64 o.a, .string o.s, .bool o.r]
theorem stpc_len (L : List StpX) : (L.flatMap stpc).length = L.length * 12 := by
  induction L with
  | nil => rfl
  | cons a l ih => rw [List.flatMap_cons, List.length_append, ih]; simp [stpc]; omega
theorem rd_stp {w : World} {lim n k : Nat} {A : Option Addr} {c : Nat} {L : List StpX} {y : StpX} (h : RdS w lim 12 (.slice A n c) n (L.flatMap stpc)) (hp : L[k]? = some y) : ∃ g o, A = some ⟨g, o, none⟩ ∧ g < lim ∧ ∀ w', Below lim w w' →
    ∀ j, j < 12 → ∀ u, (stpc y)[j]? = some u → w'.cell? ⟨g, o + k * 12 + j, none⟩ = some u := by
  have hl : L.length = n := by have h1 := h.1; rw [stpc_len] at h1; omega
  have hk := (List.getElem?_eq_some_iff.1 hp).1
  obtain ⟨_, A', c', e, _, hc⟩ := h
  injection e with e1 _ e2
  subst e1 e2
  obtain ⟨g, o, e, hg, hcell⟩ := hc (by omega)
  refine ⟨g, o, e, hg, fun w' hb j hj u hu => ?_⟩
  have := hcell (k * 12 + j) u (by rw [flat_get stpc 12 (fun _ => rfl) L k j y hp hj]; exact hu)
  rw [← Nat.add_assoc] at this
  exact (hb.cell (p := ⟨g, _, none⟩) hg).trans this
theorem EA.nil {tE te : TypeId} {E : Nat} {w : World} (hb : Bk w E tE #[.slice none 0 0, .slice none 0 0]) : EA tE te E E (.slice none 0 0) (.slice none 0 0) [] [] w :=
  ⟨hb, World.ownsRow_nil _ _ _ _, World.ownsRow_nil _ _ _ _, rfl, Nat.le_refl _, (fun h => by cases h), (fun h => by cases h), Sep.none_l _⟩
theorem exE_nil {E k : Nat} (h : exE E (.slice none 0 0) (.slice none 0 0) k) : k = E := by
  rcases h with h | h | h
  · exact h
  · cases h
  · cases h
theorem addL_len (L : List EarV) (x : EarV) (h : L.length ≤ 200) : (addL L x).length ≤ 200 := by
  unfold addL
  split
  · rename_i e
    unfold addOk at e
    simp at e
    have := e.1
    simp; omega
  · exact h
theorem c_eNew (w : World) : Calls Tryd.prog 24 #[] w fun e w' => e = .returned (.pointer (some ⟨w.heap.size, 0, none⟩)) ∧ w' = w.alloc (.cells #[.slice none 0 0, .slice none 0 0] 116) := by
  go_enter Tryd.func24, Tryd.ntmps24
  go_wp2_with fail
  go_ret
  exact ⟨rfl, rfl⟩
set_option maxRecDepth 100000 in
set_option maxHeartbeats 16000000 in
theorem W_eventsSent {w : World} {v : Value} {n0 : Nat} {L : List TwV} {p : Nat → Addr} (hr : RdT w w.heap.size v n0 L) (hn : L.length = n0) (hn2 : n0 ≤ maxLen) (hm : ∀ y ∈ L, y.x.at_.length ≤ maxLen ∧ y.x.ki.length ≤ maxLen) (hG : GE w w.heap.size p)
    {v2 : Value} {n : Nat} {S : List StpX} (hs : RdS w w.heap.size 12 v2 n (S.flatMap stpc)) (hsl : S.length = n) (hs2 : n ≤ maxLen) (hsm : ∀ y ∈ S, y.e.name.size ≤ maxLen ∧ y.s.size ≤ maxLen) :
    Calls Tryd.prog 7 #[v, v2] w fun e w' => e = .returned (.bool true) ∧ Below w.heap.size w w' := by
  have HFW : Hid (∀ W', Below w.heap.size w W' → Calls Tryd.prog 25 #[v] W' fun e w' => ∃ b, e = .returned (.bool b) ∧ (b = true → FewP (L.map TwV.x)) ∧ Below W'.heap.size W' w') := fun W' hb => c_few5 (hr.below5 hb hb.size) hn hn2 hm
  have HTF : Hid (∀ W', Below w.heap.size w W' → FewP (L.map TwV.x) → Calls Tryd.prog 12 #[v] W' (TfRet W' (L.map TwV.x))) := fun W' hb h => c_TreeFew (hr.below5 hb hb.size) hn (hG.up hb) h
  have HFT : Hid (∀ W', Below w.heap.size w W' → FewP (L.map TwV.x) → Calls Tryd.prog 14 #[v] W' (FtRet W' (L.map TwV.x))) := fun W' hb hf => c_FromTwigs (hr.below5 hb hb.size) hn hf
  have HSR := Lib.hid hs
  have HSL := Lib.hid hsl
  have HSM := Lib.hid hsm
  obtain ⟨_, A, c, rfl, _, _⟩ := hs
  unfold maxLen at hs2
  have hni : (n : Int) ≤ 9223372036854775807 := by omega
  have HNW := Lib.hid (c_eNew w)
  obtain ⟨E, hE⟩ : ∃ E, E = w.heap.size := ⟨_, rfl⟩
  obtain ⟨w1, hw1⟩ : ∃ w1, w1 = w.alloc (.cells #[.slice none 0 0, .slice none 0 0] 116) := ⟨_, rfl⟩
  rw [← hE, ← hw1] at HNW
  have HB1 : Hid (Below w.heap.size w w1) := by rw [hw1]; exact bl_alloc (Below.refl _ _) _
  have HE1 : Hid (EA 116 64 E E (.slice none 0 0) (.slice none 0 0) [] [] w1) := EA.nil (by rw [hw1]; exact bk_new' _ _ _ hE)
  have HEW : Hid (E = w.heap.size) := hE
  clear hr hn hn2 hm hG hsl hs2 hsm hE hw1
  go_enter Tryd.func7, Tryd.ntmps7
  go_upto_region 3 with (first
    | (go_at_call 24; refine (HNW.out).mono ?_; rintro e w' ⟨rfl, rfl⟩)
    | (go_at_call 25; refine (HFW.out _ HB1.out).mono ?_; rintro e w2 ⟨bf, rfl, hfp, hb0⟩; have HFP := Lib.hid hfp; have HBf := Lib.hid hb0; have HB2 := Lib.hid (bl_trans HB1.out hb0); clear hfp hb0))
  cases bf
  · go_wp2_with fail
    go_ret
    exact ⟨rfl, HB2.out⟩
  by_cases h250 : 250 < n
  · have h250' : (250 : Int) < (n : Int) := by omega
    go_wp2_with fail
    go_ret
    exact ⟨rfl, HB2.out⟩
  have h250' : ¬ (250 : Int) < (n : Int) := by omega
  have hfp5 : FewP (L.map TwV.x) := by first | exact HFP.out rfl | exact HFP.out trivial
  have HFP5 := Lib.hid hfp5
  clear hfp5
  go_upto_region 7 with (go_at_call 12; refine (HTF.out _ HB2.out HFP5.out).mono ?_; rintro e w3 ⟨R, F, rfl, hts, hti, hl60, hb1⟩; have HTS := Lib.hid hts; have HTI := Lib.hid hti; have HL60 := Lib.hid hl60; have HBt := Lib.hid hb1; have HB3 := Lib.hid (bl_trans HB2.out hb1); clear hts hti hl60 hb1)
  have HFU := Lib.hid (HFT.out _ HB3.out HFP5.out)
  go_upto_region 8 with fail
  go_upto_region 9 with (go_at_call 14; refine (HFU.out).mono ?_; rintro e w4 ⟨B, R2, L2, cap2, τ2, M2, rfl, hB, hrt, hM2, _, hat, hb2⟩; have HBB := Lib.hid hB; have HRT := Lib.hid hrt; have HM2 := Lib.hid hM2; have HBr := Lib.hid hb2; clear hB hrt hM2 hat hb2)
  obtain ⟨T, hT⟩ : ∃ T, T = plainT (L.map TwV.x) := ⟨_, rfl⟩
  have hKV : KV T := by rw [hT]; exact plainT_KV _
  rw [← hT] at HTS HTI HM2
  have hlM : M2.length = L.length + 1 := by
    have := HTI.out.len
    rw [← HM2.out, List.length_map, List.length_map] at this
    exact this
  have HTL : Hid (T.length ≤ 400) := by have h1 := HTI.out.len; have h2 := HL60.out; rw [List.length_map] at h1; unfold Hid; simp at h2; omega
  obtain ⟨d, hd⟩ := HTI.out.wf
  have HKV := Lib.hid hKV
  have HWF := Lib.hid hd
  clear hT hKV hd
  go_upto_region 9 with fail
  obtain ⟨bx, hbx⟩ : ∃ bx, bx = w4.heap.size := ⟨_, rfl⟩
  obtain ⟨wa, hwa⟩ : ∃ wa, wa = w4.alloc (.cells #[.slice (some ⟨L2, 0, none⟩) (L.length + 1) cap2, .slice none 0 0] 36) := ⟨_, rfl⟩
  rw [← hbx, ← hwa]
  have HBa : Hid (Below w4.heap.size w4 wa) := by rw [hwa]; exact bl_alloc (Below.refl _ _) _
  have HBXW : Hid (w4.heap.size ≤ bx) := Nat.le_of_eq hbx.symm
  have HBK : Hid (Bk wa bx 36 #[.slice (some ⟨L2, 0, none⟩) (L.length + 1) cap2, .slice none 0 0]) := by rw [hwa, hbx]; exact bk_new' _ _ _ rfl
  clear hbx hwa
  go_upto_region 10 with fail
  obtain ⟨E2, hE2⟩ : ∃ E2, E2 = wa.heap.size := ⟨_, rfl⟩
  obtain ⟨w5, hw5⟩ : ∃ w5, w5 = wa.alloc (.cells #[.slice none 0 0, .slice none 0 0] 58) := ⟨_, rfl⟩
  rw [← hE2, ← hw5]
  have hB5 : Below wa.heap.size wa w5 := by rw [hw5]; exact bl_alloc (Below.refl _ _) _
  have hEE2 : EA 58 60 E2 E2 (.slice none 0 0) (.slice none 0 0) [] [] w5 := EA.nil (by rw [hw5]; exact bk_new' _ _ _ hE2)
  have b35 : Below w3.heap.size w3 w5 := bl_trans (bl_trans HBr.out HBa.out) hB5
  have hE3 : E < w3.heap.size := Nat.lt_of_lt_of_le HE1.out.root.lt (Nat.le_trans HBf.out.size HBt.out.size)
  have hE2w : E < w2.heap.size := Nat.lt_of_lt_of_le HE1.out.root.lt HBf.out.size
  have hE2a : w3.heap.size ≤ E2 := by rw [hE2]; exact Nat.le_trans HBr.out.size HBa.out.size
  have hLW0 : LW w5 E E E2 E2 (.slice none 0 0) (.slice none 0 0) (.slice none 0 0) (.slice none 0 0) [] [] [] [] w5 :=
    ⟨HE1.out.below (bl_trans (bl_trans HBf.out HBt.out) b35), hEE2, fun k hk => .inl (exE_nil hk), fun k hk => .inl (exE_nil hk), fun k hk hk2 => by have h1 := exE_nil hk; have h2 := exE_nil hk2; omega, Kept.refl _ _⟩
  have HLW0 := Lib.hid hLW0
  have HEW2 : Hid (w.heap.size ≤ E ∧ w.heap.size ≤ E2) := by
    have h1 := HEW.out
    exact ⟨by omega, by omega⟩
  have HALL : Hid (∀ W', Kept w5 W' (fun k => k = E ∨ k = E2) → TS w2.heap.size R T [] F W' ∧ RT B R2 L2 cap2 0 (.slice none 0 0) [] τ2 M2 W' ∧ (W'.cell? ⟨bx, 0, none⟩ = some (.slice (some ⟨L2, 0, none⟩) (L.length + 1) cap2) ∧ W'.cell? ⟨bx, 1, none⟩ = some (.slice none 0 0)) ∧ Below w.heap.size w W') := fun W' hk => by
    have hk5 := (HTS.out.below b35).kept hk (fun k e hf => by
      have h1 := HTS.out.fb hf
      rcases e with e | e
      · omega
      · omega)
    have hr5 := HRT.out.below (bl_trans HBa.out hB5)
    have hrb : ∀ k, τ2 k ≠ 0 → k ≠ E ∧ k ≠ E2 := fun k h => by
      have h1 := HRT.out.tB k h
      have h2 := HBB.out
      have h3 := HBa.out.size
      exact ⟨by omega, by omega⟩
    have hr6 := hr5.keep (fun k h => hk.block k (hr5.tB k h).2 (fun e => by have := hrb k h; omega)) hk.size
    have hbn : bx ≠ E ∧ bx ≠ E2 := by
      have h1 := HBK.out.lt
      have h2 := HBXW.out
      have h3 := HBr.out.size
      exact ⟨by omega, by omega⟩
    have hb5 : Bk W' bx 36 #[.slice (some ⟨L2, 0, none⟩) (L.length + 1) cap2, .slice none 0 0] := hk.bk (HBK.out.below hB5 HBK.out.lt) (fun e => by omega)
    refine ⟨hk5, hr6, ⟨hb5.cell 0, hb5.cell 1⟩, ?_⟩
    have h1 := HEW2.out
    refine Below.trans (bl_trans (bl_trans HB3.out (bl_trans HBr.out HBa.out)) hB5) (hk.below fun k hk2 => ⟨Nat.lt_of_lt_of_le hk2 (bl_trans HB3.out b35).size, fun e => by omega⟩)
  clear hE2 hw5 hB5 hEE2 b35 hE3 hE2w hE2a hLW0
  rw [← hlM]
  rw [← hlM] at HALL
  clear hlM HFU HFT HTF HFW HTS HRT HBK HBa HBr HBB HFP HFP5 HL60 HE1 HNW HB1 HBf HB2 HBt HB3 HTI
  go_wp2_with fail
  go_loopw [10] (fun c wr => ∃ (i : Nat) (Lx : List EarV) (G : List Bool) (vl vg vl2 vg2 : Value), i ≤ n ∧ c = .int .i64 (i : Int) ∧ Lx.length ≤ 200 ∧ Hid (LW w5 E E E2 E2 vl vg vl2 vg2 Lx G Lx G wr)) (fun c _ => n - (intOf c).toNat)
  case atStart => exact ⟨0, [], [], _, _, _, _, Nat.zero_le _, rfl, Nat.zero_le _, HLW0.out⟩
  case round =>
    clear HLW0
    obtain ⟨i, Lx, G, vl, vg, vl2, vg2, hi, rfl, hlx, HL⟩ := hrel
    obtain ⟨hts, hrt, hcb, hbw⟩ := HALL.out wr HL.out.kp
    have HTS := Lib.hid hts
    have HRT := Lib.hid hrt
    have HBW := Lib.hid hbw
    have HLX := Lib.hid hlx
    clear hts hrt hbw
    by_cases hin : i < n
    case neg =>
      have hil : ¬ (i : Int) < (n : Int) := by omega
      have HSN : Hid (Calls Tryd.prog 30 #[.pointer (some ⟨E, 0, none⟩), .pointer none, .int .i64 0, .string { data := #[97] }, .bool true] wr fun e w' => e = .returned (.tuple #[.slice none 0 0, .bool true]) ∧ wr = w') := c_Send_nil 0 (ByteArray.mk #[97]) true
      go_wp2_with (go_at_call 30; refine (HSN.out).mono ?_; rintro e w' ⟨rfl, rfl⟩)
      go_ret
      exact ⟨rfl, HBW.out⟩
    have hil : (i : Int) < (n : Int) := by omega
    obtain ⟨y, hy⟩ : ∃ y, S[i]? = some y := ⟨_, List.getElem?_eq_getElem (by have := HSL.out; omega)⟩
    obtain ⟨g, o, rfl, hg, hcell⟩ := rd_stp HSR.out hy
    have HNM := Lib.hid (HSM.out y (List.mem_of_getElem? hy))
    have HCE := Lib.hid hcell
    have HGW : Hid (g < w.heap.size) := hg
    clear hcell hy
    obtain ⟨yk, ⟨nd, nm, f2, f3, f4, f5, f6, f7⟩, ya, ys, yr⟩ := y
    have d0 : wr.cell? ⟨g, o + i * 12, none⟩ = some (.int .i64 yk) := HCE.out wr HBW.out 0 (by omega) _ rfl
    by_cases hk1 : yk = 1
    case pos =>
      have hkb : (yk == 1) = true := by rw [hk1]; rfl
      have d1 := HCE.out wr HBW.out 1 (by omega) _ rfl; have d2 := HCE.out wr HBW.out 2 (by omega) _ rfl; have d3 := HCE.out wr HBW.out 3 (by omega) _ rfl; have d4 := HCE.out wr HBW.out 4 (by omega) _ rfl; have d5 := HCE.out wr HBW.out 5 (by omega) _ rfl; have d6 := HCE.out wr HBW.out 6 (by omega) _ rfl; have d7 := HCE.out wr HBW.out 7 (by omega) _ rfl; have d8 := HCE.out wr HBW.out 8 (by omega) _ rfl
      clear hk1
      go_upto_region 21 with fail
      obtain ⟨bz, hbz⟩ : ∃ bz, bz = wr.heap.size := ⟨_, rfl⟩
      obtain ⟨w6, hw6⟩ : ∃ w6, w6 = wr.alloc (.cells #[.int .i64 nd, .string nm, .bool f2, .bool f3, .bool f4, .bool f5, .bool f6, .bool f7] 60) := ⟨_, rfl⟩
      rw [← hbz, ← hw6]
      have HB6 : Hid (Below wr.heap.size wr w6) := by rw [hw6]; exact bl_alloc (Below.refl _ _) _
      have HZ : Hid (Bk w6 bz 60 #[.int .i64 nd, .string nm, .bool f2, .bool f3, .bool f4, .bool f5, .bool f6, .bool f7]) := by rw [hw6, hbz]; exact bk_new' _ _ _ rfl
      have HL6 := Lib.hid (HL.out.below HB6.out)
      have HZN : Hid (∀ k, exE E vl vg k → bz ≠ k) := fun k hk => by have := (HL.out.ep.fb hk).2; omega
      have y0 := HZ.out.cell 0; have y1 := HZ.out.cell 1; have y2 := HZ.out.cell 2; have y3 := HZ.out.cell 3; have y4 := HZ.out.cell 4; have y5 := HZ.out.cell 5; have y6 := HZ.out.cell 6; have y7 := HZ.out.cell 7
      have lz := HZ.out.lt
      have HADD := Lib.hid (c_eAdd HL6.out.ep hlx ⟨nd, nm, f2, f3, f4, f5, f6, f7⟩ HNM.out.1)
      unfold earV at HADD
      obtain ⟨av, hav⟩ : ∃ av, av = addR Lx ⟨nd, nm, f2, f3, f4, f5, f6, f7⟩ := ⟨_, rfl⟩
      have HAV := Lib.hid hav
      rw [← hav] at HADD
      clear hbz hw6 hav d0 d1 d2 d3 d4 d5 d6 d7 d8 HTS HRT hcb HBW hg
      go_upto_region 22 with (go_at_call 26; refine (HADD.out).mono ?_; rintro e w7 ⟨rfl, hc⟩; have HC7 := Lib.hid hc; clear hc)
      obtain ⟨ul, ug, hl7⟩ := HL6.out.chgP HC7.out
      have HL7 := Lib.hid hl7
      have HZ7 : Hid (Bk w7 bz 60 #[.int .i64 nd, .string nm, .bool f2, .bool f3, .bool f4, .bool f5, .bool f6, .bool f7]) := by
        obtain ⟨_, _, _, _, hk⟩ := HC7.out
        exact hk.bk HZ.out (fun e => HZN.out _ e rfl)
      clear hl7 y0 y1 y2 y3 y4 y5 y6 y7 lz HADD
      have y0 := HZ7.out.cell 0; have y1 := HZ7.out.cell 1; have y2 := HZ7.out.cell 2; have y3 := HZ7.out.cell 3; have y4 := HZ7.out.cell 4; have y5 := HZ7.out.cell 5; have y6 := HZ7.out.cell 6; have y7 := HZ7.out.cell 7
      have lz := HZ7.out.lt
      have HADR := Lib.hid (c_rAdd HL7.out.er hlx ⟨nd, nm, f2, f3, f4, f5, f6, f7⟩ HNM.out.1)
      unfold earV at HADR
      rw [← HAV.out] at HADR
      have hself : (av != av) = false := by simp
      go_wp2_with (go_at_call 27; refine (HADR.out).mono ?_; rintro e w8 ⟨rfl, hc⟩; have HC8 := Lib.hid hc; clear hc)
      go_roundw
      case rel =>
        obtain ⟨ul2, ug2, hl8⟩ := HL7.out.chgR HC8.out
        exact ⟨i + 1, _, _, ul, ug, ul2, ug2, by omega, by go_num, addL_len _ _ HLX.out, hl8⟩
      case measure => simp [intOf]; omega
    have hkb : (yk == 1) = false := by rw [beq_eq_false_iff_ne]; exact hk1
    have hdd : ∀ W', Below w.heap.size w W' → W'.cell? ⟨g, o + i * 12 + 9, none⟩ = some (.int .i64 ya) ∧ W'.cell? ⟨g, o + i * 12 + 10, none⟩ = some (.string ys) ∧ W'.cell? ⟨g, o + i * 12 + 11, none⟩ = some (.bool yr) := fun W' hb => ⟨HCE.out W' hb 9 (by omega) _ rfl, HCE.out W' hb 10 (by omega) _ rfl, HCE.out W' hb 11 (by omega) _ rfl⟩
    have HDD := Lib.hid hdd
    clear hdd hk1 HCE
    by_cases hk2 : yk = 2
    case pos =>
      have hkc : (yk == 2) = true := by rw [hk2]; rfl
      obtain ⟨d9, d10, d11⟩ := HDD.out wr HBW.out
      obtain ⟨dv, hdv⟩ : ∃ dv, dv = dropOk G ya := ⟨_, rfl⟩
      have HDR := Lib.hid (c_eDrop HL.out.ep hlx ya)
      have HDV := Lib.hid hdv
      rw [← hdv] at HDR
      clear hk2 hdv HTS HRT hcb
      go_upto_region 26 with (go_at_call 28; refine (HDR.out).mono ?_; rintro e w7 ⟨rfl, hc⟩; have HC7 := Lib.hid hc; clear hc)
      obtain ⟨ul, ug, hl7⟩ := HL.out.chgP HC7.out
      have HL7 := Lib.hid hl7
      obtain ⟨_, _, _, hbw7⟩ := HALL.out w7 hl7.kp
      clear d0 d9 d10 d11 hl7 HDR HL HBW
      obtain ⟨d9, d10, d11⟩ := HDD.out w7 hbw7
      have hg7 : g < w7.heap.size := Nat.lt_of_lt_of_le hg hbw7.size
      have HDR := Lib.hid (c_rDrop HL7.out.er hlx ya)
      rw [← HDV.out] at HDR
      have hself : (dv != dv) = false := by simp
      clear hbw7
      go_wp2_with (go_at_call 29; refine (HDR.out).mono ?_; rintro e w8 ⟨rfl, hc⟩; have HC8 := Lib.hid hc; clear hc)
      go_roundw
      case rel =>
        obtain ⟨ul2, ug2, hl8⟩ := HL7.out.chgR HC8.out
        exact ⟨i + 1, _, _, ul, ug, ul2, ug2, by omega, by go_num, HLX.out, hl8⟩
      case measure => simp [intOf]; omega
    have hkc : (yk == 2) = false := by rw [beq_eq_false_iff_ne]; exact hk2
    obtain ⟨G', C, fr, hC, hP, hR⟩ := snd_any HWF.out HTL.out HKV.out ya ys yr Lx G hlx
    have HCC := Lib.hid hC
    have HSP : Hid (∀ W', Below wr.heap.size wr W' → Calls Tryd.prog 30 #[.pointer (some ⟨E, 0, none⟩), .pointer (some ⟨R, 0, none⟩), .int .i64 ya, .string ys, .bool yr] W' (SdA 130 116 64 E E vl vg Lx G' C fr W')) := fun W' hb => hP _ _ _ _ _ _ _ _ W' (HTS.out.below hb) (HL.out.ep.below hb)
    have HSQ := Lib.hid hR
    have HDW : Hid (∀ W', Below wr.heap.size wr W' → W'.cell? ⟨g, o + i * 12 + 9, none⟩ = some (.int .i64 ya) ∧ W'.cell? ⟨g, o + i * 12 + 10, none⟩ = some (.string ys) ∧ W'.cell? ⟨g, o + i * 12 + 11, none⟩ = some (.bool yr)) := fun W' hb => HDD.out W' (bl_trans HBW.out hb)
    have hgw : g < wr.heap.size := Nat.lt_of_lt_of_le hg HBW.out.size
    clear hk2 hC hP hR HTS HRT hcb
    go_upto_region 14 with fail
    go_cut [14, 15] (fun v14 v15 wx => ∃ ul ug, v15 = .bool fr ∧ Hid (LW w5 E E E2 E2 ul ug vl2 vg2 Lx G' Lx G wx) ∧ Hid (wx.ownsRow wr.heap.size 130 3 v14 C.length (C.flatMap callc)))
    case first =>
      obtain ⟨d9, d10, d11⟩ := HDW.out wr (Below.refl _ _)
      go_region_held3 (fun W' => W'.cell? ⟨g, o + i * 12 + 9, none⟩ = some (.int .i64 ya) ∧ W'.cell? ⟨g, o + i * 12 + 10, none⟩ = some (.string ys) ∧ W'.cell? ⟨g, o + i * 12 + 11, none⟩ = some (.bool yr))
        (first | with_reducible exact HDW.out _ (Below.refl _ _) | with_reducible exact HDW.out _ (bl_drew (Below.refl _ _)) | with_reducible exact HD7.out)
        ((go_at_call 30; (with_reducible refine (HSP.out _ (bl_drew (Below.refl _ _))).mono ?_); rintro e w7 ⟨vc, rfl, ho, hc⟩; obtain ⟨ul, ug, hl7⟩ := (HL.out.below (bl_drew (Below.refl _ _))).chgP hc; have HL7 := Lib.hid hl7; have HO7 := Lib.hid ho; have HD7 := Lib.hid (HDD.out w7 (HALL.out w7 hl7.kp).2.2.2); clear hl7 ho hc))
      all_goals
        go_wp2_with fail
        go_meet
        exact ⟨ul, ug, rfl, HL7.out, HO7.out⟩
    case rest =>
      obtain ⟨ul, ug, rfl, HL7, HO7⟩ := hcut
      obtain ⟨w7, rfl⟩ : ∃ w7 : World, w7 = wc := ⟨_, rfl⟩
      obtain ⟨hts, hrt, hcb, hbw⟩ := HALL.out w7 HL7.out.kp
      have HBW7 := Lib.hid hbw
      have HRT7 := Lib.hid hrt
      have HVN : Hid (∀ k, u14.ownBlock = some k → wr.heap.size ≤ k) := fun k hk => (own_lt HO7.out hk).1
      have HXN : Hid (∀ k, exE E2 vl2 vg2 k → k < wr.heap.size) := fun k hk => (HL.out.er.fb hk).2
      have HDW7 : Hid (∀ W', Below w7.heap.size w7 W' → (W'.cell? ⟨g, o + i * 12 + 9, none⟩ = some (.int .i64 ya) ∧ W'.cell? ⟨g, o + i * 12 + 10, none⟩ = some (.string ys) ∧ W'.cell? ⟨g, o + i * 12 + 11, none⟩ = some (.bool yr)) ∧ W'.cell? ⟨bx, 0, none⟩ = some (.slice (some ⟨L2, 0, none⟩) M2.length cap2) ∧ W'.cell? ⟨bx, 1, none⟩ = some (.slice none 0 0)) := fun W' hb => ⟨HDD.out W' (bl_trans HBW7.out hb), (HALL.out W' (HL7.out.below hb).kp).2.2.1⟩
      have HSR2 : Hid (∀ W', Below w7.heap.size w7 W' → Calls Tryd.prog 31 #[.pointer (some ⟨E2, 0, none⟩), rAg L2 M2.length cap2, .int .i64 ya, .string ys, .bool yr] W' (SdA 129 58 60 E2 E2 vl2 vg2 Lx G' C fr W')) := fun W' hb => HSQ.out _ _ _ _ _ _ _ _ _ _ W' (HRT7.out.below hb) HM2.out (HL7.out.er.below hb)
      have hgw7 : g < w7.heap.size := Nat.lt_of_lt_of_le hg hbw.size
      clear hts hrt hcb hbw HL HSP HDW d0 hgw
      go_upto_region 15 with fail
      go_cut [16, 17] (fun v16 v17 wx => ∃ ul2 ug2, v17 = .bool fr ∧ Hid (LW w5 E E E2 E2 ul ug ul2 ug2 Lx G' Lx G' wx) ∧ Hid (wx.ownsRow wr.heap.size 130 3 u14 C.length (C.flatMap callc)) ∧ Hid (wx.ownsRow w7.heap.size 129 3 v16 C.length (C.flatMap callc)))
      case first =>
        obtain ⟨⟨d9, d10, d11⟩, b0, b1⟩ := HDW7.out w7 (Below.refl _ _)
        go_region_held3 (fun W' => (W'.cell? ⟨g, o + i * 12 + 9, none⟩ = some (.int .i64 ya) ∧ W'.cell? ⟨g, o + i * 12 + 10, none⟩ = some (.string ys) ∧ W'.cell? ⟨g, o + i * 12 + 11, none⟩ = some (.bool yr)) ∧ W'.cell? ⟨bx, 0, none⟩ = some (.slice (some ⟨L2, 0, none⟩) M2.length cap2) ∧ W'.cell? ⟨bx, 1, none⟩ = some (.slice none 0 0))
          (first | with_reducible exact HDW7.out _ (Below.refl _ _) | with_reducible exact HDW7.out _ (bl_drew (Below.refl _ _)) | with_reducible exact HD8.out)
          ((go_at_call 31; (with_reducible refine (HSR2.out _ (bl_drew (Below.refl _ _))).mono ?_); rintro e w8 ⟨vc, rfl, ho, hc⟩; obtain ⟨ul2, ug2, hl8⟩ := (HL7.out.below (bl_drew (Below.refl _ _))).chgR hc; have HL8 := Lib.hid hl8; have HO8 := Lib.hid ho; have HD8 : Hid ((w8.cell? ⟨g, o + i * 12 + 9, none⟩ = some (.int .i64 ya) ∧ w8.cell? ⟨g, o + i * 12 + 10, none⟩ = some (.string ys) ∧ w8.cell? ⟨g, o + i * 12 + 11, none⟩ = some (.bool yr)) ∧ w8.cell? ⟨bx, 0, none⟩ = some (.slice (some ⟨L2, 0, none⟩) M2.length cap2) ∧ w8.cell? ⟨bx, 1, none⟩ = some (.slice none 0 0)) := ⟨HDD.out w8 (HALL.out w8 hl8.kp).2.2.2, (HALL.out w8 hl8.kp).2.2.1⟩; have HO9 : Hid (w8.ownsRow wr.heap.size 130 3 u14 C.length (C.flatMap callc)) := (by obtain ⟨_, _, _, _, hk⟩ := hc; exact own_keep HO7.out (fun k hk2 => hk.block k (own_lt HO7.out hk2).2 (fun e => by have h1 := HVN.out k hk2; have h2 := HXN.out k e; omega))); clear hl8 ho hc))
        all_goals
          go_wp2_with fail
          go_meet
          exact ⟨ul2, ug2, rfl, HL8.out, HO9.out, HO8.out⟩
      case rest =>
        obtain ⟨ul2, ug2, rfl, HL8, HO8, HO9⟩ := hcut
        obtain ⟨w8, rfl⟩ : ∃ w8 : World, w8 = wc := ⟨_, rfl⟩
        have HSC := Lib.hid (c_sameCalls (RdS.of_own HO8.out) (RdS.of_own HO9.out) HCC.out (Nat.le_refl _))
        go_upto_region 17 with (go_at_call 32; refine (HSC.out).mono ?_; rintro e w9 ⟨rfl, hb⟩; have HL9 := Lib.hid (HL8.out.below hb); clear hb)
        clear HL8 HO8 HO9 HSC
        cases fr
        case false =>
          go_wp2_with fail
          go_roundw
          case rel => exact ⟨i + 1, _, _, ul, ug, ul2, ug2, by omega, by go_num, HLX.out, HL9.out⟩
          case measure => simp [intOf]; omega
        case true =>
          go_wp2_with fail
          go_roundw
          case rel => exact ⟨i + 1, _, _, ul, ug, ul2, ug2, by omega, by go_num, HLX.out, HL9.out⟩
          case measure => simp [intOf]; omega
end Go.Proofs.YtimlmekgapdkiaaDoor
