/- the law EventsFocus: its walk -/
import Derived.Test.YtimlmekgapdkiaaDoorFz
import Derived.Test.YtimlmekgapdkiaaDoorFx
namespace Go.Proofs.YtimlmekgapdkiaaDoor
set_option linter.unusedVariables false
set_option linter.unusedSimpArgs false
open Go.RowKit Go.Cas

theorem hov_any {T : List Nod} {d : Nat → Nat} (hW : WF T d) (hT : T.length ≤ 400) (z : Int) : ∃ H : List Nat, H.length ≤ 1000 ∧
    (∀ (B R : Nat) (F : Nat → Prop) (D : List (Value × List Nod)) (w : World), TS B R T D F w → Calls Tryd.prog 38 #[.pointer (some ⟨R, 0, none⟩), .int .i64 z] w (WyRet w H)) ∧
    (∀ (B R L cap : Nat) (τ : Nat → Nat) (M : List NV) (w : World), RT B R L cap 0 (.slice none 0 0) [] τ M w → M.map NV.x = T → Calls Tryd.prog 39 #[rAg L M.length cap, .int .i64 z] w (WyRet w H)) := by
  by_cases hz : z < 0 ∨ (T.length : Int) ≤ z
  · exact ⟨[], by simp, fun B R F D w h => c_HoverNo h hT hz, fun B R L cap τ M w h hM => c_rHoverNo h hM hT hz⟩
  · obtain ⟨i, rfl⟩ : ∃ i : Nat, z = (i : Int) := ⟨z.toNat, by omega⟩
    have hi : i < T.length := by omega
    obtain ⟨l, hl⟩ := Way.ex hW _ i (Nat.le_refl _) hi
    have hs := Way.short hW hl hi
    refine ⟨_, ?_, fun B R F D w h => c_Hover h hW hT hi hl (by omega), fun B R L cap τ M w h hM => c_rHover h hM hW hT hi hl (by omega)⟩
    split
    · exact Nat.le_trans (hovL_len _ _) (by simp; omega)
    · simp
theorem c_sameInts5 {w : World} {n lim : Nat} {v v2 : Value} {l : List Nat} (h : RdS w lim 1 v n (kic l)) (h2 : RdS w lim 1 v2 n (kic l)) (hn : n ≤ 1000000000) (hlim : lim ≤ w.heap.size) :
    Calls Tryd.prog 35 #[v, v2] w fun e w' => e = .returned (.bool true) ∧ Below w.heap.size w w' := by
  have H := Lib.hid h
  have H2 := Lib.hid h2
  have hll : l.length = n := by have := h.1; rw [kic_len] at this; omega
  obtain ⟨_, A, c, rfl, _, _⟩ := h
  obtain ⟨_, A2, c2, rfl, _, _⟩ := h2
  have HL := Lib.hid hll
  clear hll
  go_enter Tryd.func35, Tryd.ntmps35
  go_wp2_with fail
  go_loopw [5] (fun i wr => ∃ (k m : Nat), k ≤ n ∧ i = .int .i64 k ∧ wr = w.drewN m) (fun i _ => n - (intOf i).toNat)
  case atStart => exact ⟨0, 0, by omega, rfl, rfl⟩
  case round =>
    obtain ⟨k, m, hk, rfl, rfl⟩ := hrel
    by_cases hlt : k < n
    · have hik : (k : Int) < (n : Int) := by omega
      obtain ⟨x, hx⟩ : ∃ x, l[k]? = some x := ⟨_, List.getElem?_eq_getElem (by have := HL.out; omega)⟩
      obtain ⟨g, o, rfl, hg, c1⟩ := rdI_at H.out hx
      obtain ⟨g2, o2, rfl, hg2, c2⟩ := rdI_at H2.out hx
      clear hx
      go_upto_region 6 with fail
      go_quiet (fail)
      go_wp2_with fail
      go_roundw
      case rel => exact ⟨k + 1, m + nq, by omega, by go_num, rfl⟩
      case measure => simp [intOf]; omega
    · obtain rfl : k = n := by omega
      go_wp2_with fail
      go_ret
      exact ⟨rfl, bl_drewN (Below.refl _ _) m⟩
/-- a list of its own, read -/
def RdR (n : Nat) (l : List Nat) (w : World) (e : Ending) (w' : World) : Prop := ∃ v, e = .returned v ∧ RdS w' w'.heap.size 1 v n (kic l) ∧ Below w.heap.size w w'
theorem WyRet.rd {w w' : World} {l : List Nat} {e : Ending} (h : WyRet w l e w') : RdR l.length l w e w' := by
  obtain ⟨v, rfl, ho, hb⟩ := h
  exact ⟨v, rfl, RdS.of_own ho, hb⟩
theorem FoRet.rd {w w' : World} {T : List Nod} {u : List Nat} {e : Ending} (h : FoRet T u w e w') : RdR (ordL T u).length (ordL T u) w e w' := by
  obtain ⟨v, L', LB, rfl, _, h1, h2, h3, h4⟩ := h
  rw [ordL_eq h1 h2] at h3
  exact ⟨v, rfl, RdS.of_own h3, h4⟩
set_option maxRecDepth 100000 in
set_option maxHeartbeats 16000000 in
theorem W_eventsFocus {w : World} {v : Value} {n0 : Nat} {L : List TwV} {p : Nat → Addr} (ra ia : Int) (hr : RdT w w.heap.size v n0 L) (hn : L.length = n0) (hn2 : n0 ≤ maxLen) (hm : ∀ y ∈ L, y.x.at_.length ≤ maxLen ∧ y.x.ki.length ≤ maxLen) (hG : GE w w.heap.size p) :
    Calls Tryd.prog 9 #[v, .int .i64 ra, .int .i64 ia] w fun e w' => e = .returned (.bool true) ∧ Below w.heap.size w w' := by
  have HFW := Lib.hid (c_few5 hr hn hn2 hm)
  have HTF : Hid (∀ W', Below w.heap.size w W' → FewP (L.map TwV.x) → Calls Tryd.prog 12 #[v] W' (TfRet W' (L.map TwV.x))) := fun W' hb h => c_TreeFew (hr.below5 hb hb.size) hn (hG.up hb) h
  have HFT : Hid (∀ W', Below w.heap.size w W' → FewP (L.map TwV.x) → Calls Tryd.prog 14 #[v] W' (FtRet W' (L.map TwV.x))) := fun W' hb hf => c_FromTwigs (hr.below5 hb hb.size) hn hf
  clear hr hn hn2 hm hG
  go_enter Tryd.func9, Tryd.ntmps9
  go_upto_region 2 with (go_at_call 25; refine (HFW.out).mono ?_; rintro e w0 ⟨bf, rfl, hfp, hb0⟩; have HFP := Lib.hid hfp; have HB0 := Lib.hid hb0; clear hfp hb0)
  cases bf
  · go_wp2_with fail
    go_ret
    exact ⟨rfl, HB0.out⟩
  have hfp5 : FewP (L.map TwV.x) := by first | exact HFP.out rfl | exact HFP.out trivial
  have HIB := Lib.hid (plainT_IxB hfp5)
  have HFP5 := Lib.hid hfp5
  clear hfp5
  go_upto_region 7 with (go_at_call 12; refine (HTF.out _ HB0.out HFP5.out).mono ?_; rintro e w1 ⟨R, F, rfl, hts, hti, hl60, hb1⟩; have HTS := Lib.hid hts; have HTI := Lib.hid hti; have HL60 := Lib.hid hl60; have HB1 := Lib.hid (bl_trans HB0.out hb1); clear hts hti hl60 hb1)
  have HFU := Lib.hid (HFT.out _ HB1.out HFP5.out)
  go_upto_region 8 with (go_at_call 14; refine (HFU.out).mono ?_; rintro e w2 ⟨B, R2, L2, cap2, τ2, M2, rfl, hB, hrt, hM2, _, hat, hb2⟩; have HBB := Lib.hid hB; have HRT := Lib.hid hrt; have HM2 := Lib.hid hM2; have HB2 := Lib.hid hb2; clear hB hrt hM2 hat hb2)
  obtain ⟨T, hT⟩ : ∃ T, T = plainT (L.map TwV.x) := ⟨_, rfl⟩
  rw [← hT] at HTS HTI HIB HM2
  have hlM : M2.length = L.length + 1 := by
    have := HTI.out.len
    rw [← HM2.out, List.length_map, List.length_map] at this
    exact this
  have HTL : Hid (T.length ≤ 400) := by have h1 := HTI.out.len; have h2 := HL60.out; rw [List.length_map] at h1; unfold Hid; simp at h2; omega
  obtain ⟨d, hd⟩ := HTI.out.wf
  clear hT
  obtain ⟨u, hul, hun, hum, hU1, hU2⟩ := und_any hd HTL.out ra
  obtain ⟨H, hHl, hH1, hH2⟩ := hov_any hd HTL.out ia
  obtain ⟨w3, hw3⟩ : ∃ w3, w3 = w2.alloc (.cells #[.slice (some ⟨L2, 0, none⟩) (L.length + 1) cap2, .slice none 0 0] 36) := ⟨_, rfl⟩
  rw [← hw3]
  obtain ⟨bx, hbx⟩ : ∃ bx, bx = w2.heap.size := ⟨_, rfl⟩
  rw [← hbx]
  have hb23 : Below w2.heap.size w2 w3 := by rw [hw3]; exact bl_alloc (Below.refl _ _) _
  have hts3 : TS w0.heap.size R T [] F w3 := (HTS.out.below HB2.out).below hb23
  have hrt3 := HRT.out.below hb23
  have hbk3 : Bk w3 bx 36 #[.slice (some ⟨L2, 0, none⟩) (L.length + 1) cap2, .slice none 0 0] := by rw [hw3, hbx]; exact bk_new' _ _ _ rfl
  have HB3 : Hid (Below w.heap.size w w3) := bl_trans (bl_trans HB1.out HB2.out) hb23
  have HS3 : Hid (∀ W', Below w3.heap.size w3 W' → W'.cell? ⟨bx, 0, none⟩ = some (.slice (some ⟨L2, 0, none⟩) (L.length + 1) cap2) ∧ W'.cell? ⟨bx, 1, none⟩ = some (.slice none 0 0)) := fun W' hb => by
    have hk := hbk3.below hb hbk3.lt
    exact ⟨hk.cell 0, hk.cell 1⟩
  rw [← hlM] at HS3
  have hOl := ordL_len T u
  have HOR : Hid (∀ W', Below w3.heap.size w3 W' → Calls Tryd.prog 33 #[.pointer (some ⟨R, 0, none⟩), .int .i64 ra] W' (RdR (ordL T u).length (ordL T u) W')) := fun W' hb => (c_FOrder (hts3.below hb) HTL.out HIB.out hum hul (fun W2 hb2 => hU1 _ _ _ _ W2 ((hts3.below hb).below hb2))).mono fun e w' h => h.rd
  have HFO : Hid (∀ W', Below w3.heap.size w3 W' → Calls Tryd.prog 36 #[rAg L2 M2.length cap2, .int .i64 ra] W' (RdR (ordL T u).length (ordL T u) W')) := fun W' hb => (c_FocusOrder (hrt3.below hb) HM2.out HTL.out HIB.out hum hul hU2).mono fun e w' h => h.rd
  have HNX : Hid (∀ W' back, Below w3.heap.size w3 W' → Calls Tryd.prog 34 #[.pointer (some ⟨R, 0, none⟩), .int .i64 ra, .int .i64 ia, .bool back] W' (NxRet (ordL T u) ia back W')) := fun W' back hb => c_Next ia back hul (c_FOrder (hts3.below hb) HTL.out HIB.out hum hul (fun W2 hb2 => hU1 _ _ _ _ W2 ((hts3.below hb).below hb2)))
  have HFN : Hid (∀ W' back, Below w3.heap.size w3 W' → Calls Tryd.prog 37 #[rAg L2 M2.length cap2, .int .i64 ra, .int .i64 ia, .bool back] W' (NxRet (ordL T u) ia back W')) := fun W' back hb => c_FocusNext ia back (hrt3.below hb) HM2.out HTL.out HIB.out hum hul hun hU2
  have HHV : Hid (∀ W', Below w3.heap.size w3 W' → Calls Tryd.prog 38 #[.pointer (some ⟨R, 0, none⟩), .int .i64 ia] W' (RdR H.length H W')) := fun W' hb => (hH1 _ _ _ _ W' (hts3.below hb)).mono fun e w' h => h.rd
  have HRH : Hid (∀ W', Below w3.heap.size w3 W' → Calls Tryd.prog 39 #[rAg L2 M2.length cap2, .int .i64 ia] W' (RdR H.length H W')) := fun W' hb => (hH2 _ _ _ _ _ _ W' (hrt3.below hb) HM2.out).mono fun e w' h => h.rd
  obtain ⟨O, hO⟩ : ∃ O, O = ordL T u := ⟨_, rfl⟩
  rw [← hO] at HOR HFO HNX HFN hOl
  have HOL : Hid (O.length ≤ 1000000000) := by unfold Hid; omega
  have HHL : Hid (H.length ≤ 1000000000) := by unfold Hid; omega
  rw [← hlM]
  obtain ⟨m2, hm2⟩ : ∃ m2, m2 = M2.length := ⟨_, rfl⟩
  rw [← hm2] at HS3 HFO HFN HRH ⊢
  obtain ⟨nO, hnO⟩ : ∃ nO, nO = O.length := ⟨_, rfl⟩
  rw [← hnO] at HOR HFO HOL
  obtain ⟨nH, hnH⟩ : ∃ nH, nH = H.length := ⟨_, rfl⟩
  rw [← hnH] at HHV HRH HHL
  clear hd hul hun hum hU1 hU2 hHl hH1 hH2 hw3 hbx hb23 hts3 hrt3 hbk3 hOl hO hlM hm2 hnO hnH HFU HFT HTF HFW HTS HTI HRT HM2 HIB HFP HFP5 HL60 HTL
  have HBz : Hid (Below w3.heap.size w3 w3) := Below.refl _ _
  go_cut [10] (fun v10 wx => v10 = .bool true ∧ Hid (Below w3.heap.size w3 wx))
  case first =>
    obtain ⟨s0, s1⟩ := HS3.out w3 HBz.out
    go_region_held3 (fun w' => w'.cell? ⟨bx, 0, none⟩ = some (.slice (some ⟨L2, 0, none⟩) m2 cap2) ∧ w'.cell? ⟨bx, 1, none⟩ = some (.slice none 0 0))
      (first | with_reducible exact HS3.out _ (Below.refl _ _) | with_reducible exact HS3.out _ (bl_drew (Below.refl _ _)) | with_reducible exact HS3.out _ HBA.out | with_reducible exact HS3.out _ HBZ.out | with_reducible exact HS3.out _ HBS.out)
      (first
        | (go_at_call 33; (with_reducible refine (HOR.out _ (bl_drew (Below.refl _ _))).mono ?_); rintro e wa ⟨va, rfl, hra, hba⟩; have HRA := Lib.hid hra; have HBA : Hid (Below w3.heap.size w3 wa) := bl_trans (bl_drew (Below.refl _ _)) hba; clear hra hba)
        | (go_at_call 36; (with_reducible refine (HFO.out _ HBA.out).mono ?_); rintro e wz ⟨vz, rfl, hrz, hbz⟩; have HRZ := Lib.hid hrz; have HRA2 := Lib.hid ((HRA.out.below hbz).mono hbz.size); have HBZ : Hid (Below w3.heap.size w3 wz) := bl_trans HBA.out hbz; clear hrz hbz)
        | (go_at_call 36; (with_reducible refine (HFO.out _ (bl_drew (Below.refl _ _))).mono ?_); rintro e wa ⟨va, rfl, hra, hba⟩; have HRA := Lib.hid hra; have HBA : Hid (Below w3.heap.size w3 wa) := bl_trans (bl_drew (Below.refl _ _)) hba; clear hra hba)
        | (go_at_call 33; (with_reducible refine (HOR.out _ HBA.out).mono ?_); rintro e wz ⟨vz, rfl, hrz, hbz⟩; have HRZ := Lib.hid hrz; have HRA2 := Lib.hid ((HRA.out.below hbz).mono hbz.size); have HBZ : Hid (Below w3.heap.size w3 wz) := bl_trans HBA.out hbz; clear hrz hbz)
        | (go_at_call 35; (first | (with_reducible refine (c_sameInts5 HRA2.out HRZ.out HOL.out (Nat.le_refl _)).mono ?_) | (with_reducible refine (c_sameInts5 HRZ.out HRA2.out HOL.out (Nat.le_refl _)).mono ?_)); rintro e ws ⟨rfl, hbs⟩; have HBS : Hid (Below w3.heap.size w3 ws) := bl_trans HBZ.out hbs; clear hbs))
    all_goals
      go_wp2_with fail
      go_meet
      exact ⟨rfl, HBS.out⟩
  case rest =>
    obtain ⟨rfl, HBc⟩ := hcut
    obtain ⟨wq, rfl⟩ : ∃ wq : World, wq = wc := ⟨_, rfl⟩
    go_upto_region 9 with fail
    go_cut [11] (fun vv wx => vv = .bool true ∧ Hid (Below w3.heap.size w3 wx))
    case first =>
      have HSQ : Hid (∀ W', Below wq.heap.size wq W' → W'.cell? ⟨bx, 0, none⟩ = some (.slice (some ⟨L2, 0, none⟩) m2 cap2) ∧ W'.cell? ⟨bx, 1, none⟩ = some (.slice none 0 0)) := fun W' hb => HS3.out W' (bl_trans HBc.out hb)
      have HNQ : Hid (∀ W', Below wq.heap.size wq W' → Calls Tryd.prog 34 #[.pointer (some ⟨R, 0, none⟩), .int .i64 ra, .int .i64 ia, .bool false] W' (NxRet O ia false W')) := fun W' hb => HNX.out W' _ (bl_trans HBc.out hb)
      have HFQ : Hid (∀ W', Below wq.heap.size wq W' → Calls Tryd.prog 37 #[rAg L2 m2 cap2, .int .i64 ra, .int .i64 ia, .bool false] W' (NxRet O ia false W')) := fun W' hb => HFN.out W' _ (bl_trans HBc.out hb)
      obtain ⟨s0, s1⟩ := HSQ.out wq (Below.refl _ _)
      go_region_held3 (fun w' => w'.cell? ⟨bx, 0, none⟩ = some (.slice (some ⟨L2, 0, none⟩) m2 cap2) ∧ w'.cell? ⟨bx, 1, none⟩ = some (.slice none 0 0))
        (first | with_reducible exact HSQ.out _ (Below.refl _ _) | with_reducible exact HSQ.out _ (bl_drew (Below.refl _ _)) | with_reducible exact HSQ.out _ HBA.out | with_reducible exact HSQ.out _ HBZ.out)
        (first
          | (go_at_call 34; (with_reducible refine (HNQ.out _ (bl_drew (Below.refl _ _))).mono ?_); rintro e wa ⟨rfl, hba⟩; have HBA : Hid (Below wq.heap.size wq wa) := bl_trans (bl_drew (Below.refl _ _)) hba; clear hba)
          | (go_at_call 37; (with_reducible refine (HFQ.out _ HBA.out).mono ?_); rintro e wz ⟨rfl, hbz⟩; have HBZ : Hid (Below wq.heap.size wq wz) := bl_trans HBA.out hbz; clear hbz)
          | (go_at_call 37; (with_reducible refine (HFQ.out _ (bl_drew (Below.refl _ _))).mono ?_); rintro e wa ⟨rfl, hba⟩; have HBA : Hid (Below wq.heap.size wq wa) := bl_trans (bl_drew (Below.refl _ _)) hba; clear hba)
          | (go_at_call 34; (with_reducible refine (HNQ.out _ HBA.out).mono ?_); rintro e wz ⟨rfl, hbz⟩; have HBZ : Hid (Below wq.heap.size wq wz) := bl_trans HBA.out hbz; clear hbz))
      all_goals
        go_wp2_with fail
        go_meet
        exact ⟨(by simp), bl_trans HBc.out HBZ.out⟩
    case rest =>
      obtain ⟨rfl, HBc⟩ := hcut
      obtain ⟨wq, rfl⟩ : ∃ wq : World, wq = wc := ⟨_, rfl⟩
      go_upto_region 10 with fail
      go_cut [12] (fun vv wx => vv = .bool true ∧ Hid (Below w3.heap.size w3 wx))
      case first =>
        have HSQ : Hid (∀ W', Below wq.heap.size wq W' → W'.cell? ⟨bx, 0, none⟩ = some (.slice (some ⟨L2, 0, none⟩) m2 cap2) ∧ W'.cell? ⟨bx, 1, none⟩ = some (.slice none 0 0)) := fun W' hb => HS3.out W' (bl_trans HBc.out hb)
        have HNQ : Hid (∀ W', Below wq.heap.size wq W' → Calls Tryd.prog 34 #[.pointer (some ⟨R, 0, none⟩), .int .i64 ra, .int .i64 ia, .bool true] W' (NxRet O ia true W')) := fun W' hb => HNX.out W' _ (bl_trans HBc.out hb)
        have HFQ : Hid (∀ W', Below wq.heap.size wq W' → Calls Tryd.prog 37 #[rAg L2 m2 cap2, .int .i64 ra, .int .i64 ia, .bool true] W' (NxRet O ia true W')) := fun W' hb => HFN.out W' _ (bl_trans HBc.out hb)
        obtain ⟨s0, s1⟩ := HSQ.out wq (Below.refl _ _)
        go_region_held3 (fun w' => w'.cell? ⟨bx, 0, none⟩ = some (.slice (some ⟨L2, 0, none⟩) m2 cap2) ∧ w'.cell? ⟨bx, 1, none⟩ = some (.slice none 0 0))
          (first | with_reducible exact HSQ.out _ (Below.refl _ _) | with_reducible exact HSQ.out _ (bl_drew (Below.refl _ _)) | with_reducible exact HSQ.out _ HBA.out | with_reducible exact HSQ.out _ HBZ.out)
          (first
            | (go_at_call 34; (with_reducible refine (HNQ.out _ (bl_drew (Below.refl _ _))).mono ?_); rintro e wa ⟨rfl, hba⟩; have HBA : Hid (Below wq.heap.size wq wa) := bl_trans (bl_drew (Below.refl _ _)) hba; clear hba)
            | (go_at_call 37; (with_reducible refine (HFQ.out _ HBA.out).mono ?_); rintro e wz ⟨rfl, hbz⟩; have HBZ : Hid (Below wq.heap.size wq wz) := bl_trans HBA.out hbz; clear hbz)
            | (go_at_call 37; (with_reducible refine (HFQ.out _ (bl_drew (Below.refl _ _))).mono ?_); rintro e wa ⟨rfl, hba⟩; have HBA : Hid (Below wq.heap.size wq wa) := bl_trans (bl_drew (Below.refl _ _)) hba; clear hba)
            | (go_at_call 34; (with_reducible refine (HNQ.out _ HBA.out).mono ?_); rintro e wz ⟨rfl, hbz⟩; have HBZ : Hid (Below wq.heap.size wq wz) := bl_trans HBA.out hbz; clear hbz))
        all_goals
          go_wp2_with fail
          go_meet
          exact ⟨(by simp), bl_trans HBc.out HBZ.out⟩
      case rest =>
        obtain ⟨rfl, HBc⟩ := hcut
        obtain ⟨wq, rfl⟩ : ∃ wq : World, wq = wc := ⟨_, rfl⟩
        go_upto_region 11 with fail
        go_cut [13] (fun vv wx => vv = .bool true ∧ Hid (Below w3.heap.size w3 wx))
        case first =>
          have HSQ : Hid (∀ W', Below wq.heap.size wq W' → W'.cell? ⟨bx, 0, none⟩ = some (.slice (some ⟨L2, 0, none⟩) m2 cap2) ∧ W'.cell? ⟨bx, 1, none⟩ = some (.slice none 0 0)) := fun W' hb => HS3.out W' (bl_trans HBc.out hb)
          have HNQ : Hid (∀ W', Below wq.heap.size wq W' → Calls Tryd.prog 38 #[.pointer (some ⟨R, 0, none⟩), .int .i64 ia] W' (RdR nH H W')) := fun W' hb => HHV.out W' (bl_trans HBc.out hb)
          have HFQ : Hid (∀ W', Below wq.heap.size wq W' → Calls Tryd.prog 39 #[rAg L2 m2 cap2, .int .i64 ia] W' (RdR nH H W')) := fun W' hb => HRH.out W' (bl_trans HBc.out hb)
          obtain ⟨s0, s1⟩ := HSQ.out wq (Below.refl _ _)
          go_region_held3 (fun w' => w'.cell? ⟨bx, 0, none⟩ = some (.slice (some ⟨L2, 0, none⟩) m2 cap2) ∧ w'.cell? ⟨bx, 1, none⟩ = some (.slice none 0 0))
            (first | with_reducible exact HSQ.out _ (Below.refl _ _) | with_reducible exact HSQ.out _ (bl_drew (Below.refl _ _)) | with_reducible exact HSQ.out _ HBA.out | with_reducible exact HSQ.out _ HBZ.out | with_reducible exact HSQ.out _ HBS.out)
            (first
              | (go_at_call 38; (with_reducible refine (HNQ.out _ (bl_drew (Below.refl _ _))).mono ?_); rintro e wa ⟨va, rfl, hra, hba⟩; have HRA := Lib.hid hra; have HBA : Hid (Below wq.heap.size wq wa) := bl_trans (bl_drew (Below.refl _ _)) hba; clear hra hba)
              | (go_at_call 39; (with_reducible refine (HFQ.out _ HBA.out).mono ?_); rintro e wz ⟨vz, rfl, hrz, hbz⟩; have HRZ := Lib.hid hrz; have HRA2 := Lib.hid ((HRA.out.below hbz).mono hbz.size); have HBZ : Hid (Below wq.heap.size wq wz) := bl_trans HBA.out hbz; clear hrz hbz)
              | (go_at_call 39; (with_reducible refine (HFQ.out _ (bl_drew (Below.refl _ _))).mono ?_); rintro e wa ⟨va, rfl, hra, hba⟩; have HRA := Lib.hid hra; have HBA : Hid (Below wq.heap.size wq wa) := bl_trans (bl_drew (Below.refl _ _)) hba; clear hra hba)
              | (go_at_call 38; (with_reducible refine (HNQ.out _ HBA.out).mono ?_); rintro e wz ⟨vz, rfl, hrz, hbz⟩; have HRZ := Lib.hid hrz; have HRA2 := Lib.hid ((HRA.out.below hbz).mono hbz.size); have HBZ : Hid (Below wq.heap.size wq wz) := bl_trans HBA.out hbz; clear hrz hbz)
              | (go_at_call 35; (first | (with_reducible refine (c_sameInts5 HRA2.out HRZ.out HHL.out (Nat.le_refl _)).mono ?_) | (with_reducible refine (c_sameInts5 HRZ.out HRA2.out HHL.out (Nat.le_refl _)).mono ?_)); rintro e ws ⟨rfl, hbs⟩; have HBS : Hid (Below wq.heap.size wq ws) := bl_trans HBZ.out hbs; clear hbs))
          all_goals
            go_wp2_with fail
            go_meet
            exact ⟨rfl, bl_trans HBc.out HBS.out⟩
        case rest =>
          obtain ⟨rfl, HBc⟩ := hcut
          go_wp2_with fail
          go_ret
          exact ⟨rfl, bl_trans HB3.out HBc.out⟩
end Go.Proofs.YtimlmekgapdkiaaDoor
