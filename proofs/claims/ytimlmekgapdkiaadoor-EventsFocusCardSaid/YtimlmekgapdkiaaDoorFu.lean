/- the document's order of focus: FocusOrder -/
import Derived.Test.YtimlmekgapdkiaaDoorFt
import Derived.Deep.RegionHeld3
import Derived.Deep.CutBlock
namespace Go.Proofs.YtimlmekgapdkiaaDoor
set_option linter.unusedVariables false
set_option linter.unusedSimpArgs false
open Go.RowKit Go.Cas

abbrev rAg (L n cap : Nat) : Value := .agg #[.slice (some ⟨L, 0, none⟩) n cap, .slice none 0 0]
theorem take_filter {u : List Nat} {j x : Nat} (P : Nat → Bool) (h : u[j]? = some x) : (u.take (j + 1)).filter P = (u.take j).filter P ++ (if P x then [x] else []) := by
  rw [List.take_add_one, h, List.filter_append]
  congr 1
  cases e : P x <;> simp [e]
theorem flt_len (u : List Nat) (j : Nat) (P : Nat → Bool) : ((u.take j).filter P).length ≤ j := Nat.le_trans (List.length_filter_le _ _) (by simp; omega)
theorem insA_eq (l : List Nat) (m x : Nat) : insA l m x = l.take m ++ [x] ++ l.drop m := by simp [insA]
set_option maxRecDepth 100000 in
set_option maxHeartbeats 16000000 in
theorem c_FocusOrder {w : World} {B R L cap : Nat} {τ : Nat → Nat} {M : List NV} {T : List Nod} {u : List Nat} {z : Int} (h : RT B R L cap 0 (.slice none 0 0) [] τ M w) (hM : M.map NV.x = T) (hT : T.length ≤ 400) (hB : IxB T) (hu : ∀ x ∈ u, x < T.length) (hul : u.length ≤ 400)
    (hU : ∀ (B R n : Nat) (τ : Nat → Nat) (w : World), RS B R T n τ w → Calls Tryd.prog 62 #[.pointer (some ⟨R, 0, none⟩), .int .i64 z] w (WyRet w u)) :
    Calls Tryd.prog 36 #[rAg L M.length cap, .int .i64 z] w (WyRet w (ordL T u)) := by
  have hmv := h.move
  obtain ⟨w0, hw0⟩ : ∃ w0, w0 = w.alloc (.cells #[.slice (some ⟨L, 0, none⟩) M.length cap, .slice none 0 0] 36) := ⟨_, rfl⟩
  obtain ⟨bx, hbx⟩ : ∃ bx, bx = w.heap.size := ⟨_, rfl⟩
  have hlM : M.length ≤ 400 := by rw [← hM] at hT; simpa using hT
  have HUN : Hid (Calls Tryd.prog 62 #[.pointer (some ⟨bx, 0, none⟩), .int .i64 z] w0 (WyRet w0 u)) := by
    rw [← hw0, ← hbx] at hmv
    exact hU B bx 0 _ w0 ⟨L, cap, _, _, M, hmv, hM⟩
  have HTU : Hid (∀ W' k, Below w.heap.size w W' → k ∈ u → Calls Tryd.prog 78 #[rAg L M.length cap, .int .i64 (k : Int)] W' (TuRet (tuN (ndA T k)) W')) := fun W' k hb hk => by
    obtain ⟨y, hy, hyx⟩ := nv_get hM (ndA_get (hu k hk))
    rw [← hyx]
    have hxi := hB k _ (ndA_get (hu k hk))
    rw [← hyx] at hxi
    exact c_turn (h.below hb) hlM hy hxi.1 hxi.2
  have hb0 : Below w.heap.size w w0 := by rw [hw0]; exact bl_alloc (Below.refl _ _) _
  have hk0 : Bk w0 bx 36 #[.slice (some ⟨L, 0, none⟩) M.length cap, .slice none 0 0] := by rw [hw0, hbx]; exact bk_new' _ _ _ rfl
  have HB0 := Lib.hid hb0
  have HK0 := Lib.hid hk0
  have HUL := Lib.hid hul
  have HW0 := Lib.hid hw0
  have HBX := Lib.hid hbx
  obtain ⟨m0, hm0⟩ : ∃ m0, m0 = M.length := ⟨_, rfl⟩
  rw [← hm0] at HTU HK0 HW0 ⊢
  clear h hM hT hB hu hul hU hmv hw0 hbx hb0 hk0 hm0 hlM
  go_enter Tryd.func36, Tryd.ntmps36
  go_upto_region 3 with fail
  rw [← HW0.out, ← HBX.out]
  go_upto_region 4 with (go_at_call 62; refine (HUN.out).mono ?_; rintro e w1 ⟨v, rfl, ho, hb⟩; have HO := Lib.hid ho; have HB1 : Hid (Below w.heap.size w w1) := bl_trans HB0.out hb; have HK1 := Lib.hid (Bk.below HK0.out hb HK0.out.lt); clear ho hb)
  obtain ⟨_, A, cu, rfl, hcu, hcell⟩ := RdS.of_own HO.out
  obtain ⟨n, hn⟩ : ∃ n, n = u.length := ⟨_, rfl⟩
  have HN := Lib.hid hn
  rw [← hn] at hcell hcu ⊢
  have hn4 : n ≤ 400 := by rw [hn]; exact HUL.out
  have HCE := Lib.hid hcell
  obtain ⟨LB, hLB⟩ : ∃ LB, LB = w1.heap.size := ⟨_, rfl⟩
  have HLB := Lib.hid hLB
  clear hn hcell hLB HO HUN HW0 HK0 HB0 hcu
  go_wp2_with fail
  go_loopw [5, 6, 8] (fun v5 v6 c wr => ∃ (j : Nat) (O : List Nat), j ≤ n ∧ c = .int .i64 (j : Int) ∧ O.length ≤ j ∧ Hid (FoS (fun i => (ixA T i).1) ((u.take j).filter (isF T)) O) ∧ Hid (wr.ownsRow LB 3 1 v5 O.length (kic O)) ∧ Hid (wr.ownsRow LB 3 1 v6 ((u.take j).filter (isR T)).length (kic ((u.take j).filter (isR T)))) ∧ Hid (Sep v5 v6) ∧ Hid (Below w1.heap.size w1 wr)) (fun _ _ c _ => n - (intOf c).toNat)
  case atStart => exact ⟨0, [], by omega, rfl, by simp, FoS.nil _, World.ownsRow_nil _ _ _ _, World.ownsRow_nil _ _ _ _, Sep.none_l _, Below.refl _ _⟩
  case round =>
    obtain ⟨j, O, hj, rfl, hOj, HFO, HO5, HO6, HSP, HB⟩ := hrel
    by_cases hlt : j < n
    case neg =>
      obtain rfl : j = n := by omega
      have hjn : ¬ (j : Int) < (j : Int) := by omega
      have htk : u.take j = u := by rw [HN.out]; exact List.take_length
      rw [htk] at HFO HO6
      have HOR := Lib.hid (FoS.ord HFO.out)
      obtain ⟨RL, hRL⟩ : ∃ RL, RL = u.filter (isR T) := ⟨_, rfl⟩
      have hR1 : RL.length ≤ j := by rw [hRL, HN.out]; exact List.length_filter_le _ _
      rw [← hRL] at HO6 HOR
      have HBR : Hid (Below w.heap.size w wr) := bl_trans HB1.out HB.out
      have HL5 : Hid (∀ k, u5.ownBlock = some k → w.heap.size ≤ k) := fun k hk => by have := (own_lt HO5.out hk).1; have := HLB.out; have := HB1.out.size; omega
      have hLw : LB ≤ wr.heap.size := by have := HLB.out; have := HB.out.size; omega
      clear hRL htk hlt hjn
      go_wp2_with (at_builtin; refine wp_spread rfl _ _ 75 rfl LB 3 Tryd.underlying75 inf_I rfl (by omega) u5 O.length (kic O) rfl HO5.out wr.heap.size u6 RL.length (kic RL) rfl (RdS.of_own HO6.out) (one_kic _) (by unfold maxLen; omega) (by omega) hLw ?_; intro v6 w6 hown6 hgrow6 hat6; have HO6' := Lib.hid hown6; have HG6 := Lib.hid hgrow6; have HA6 := Lib.hid hat6; clear hown6 hgrow6 hat6)
      go_ret
      refine ⟨_, rfl, ?_, HBR.out.grown HG6.out HBR.out.size HL5.out⟩
      rw [← HOR.out, List.length_append, kic_app]
      exact own_mono HO6'.out (by have := HLB.out; have := HB1.out.size; omega)
    case pos =>
      have hjn : (j : Int) < (n : Int) := by omega
      obtain ⟨x, hx⟩ : ∃ x, u[j]? = some x := ⟨_, List.getElem?_eq_getElem (by rw [← HN.out]; exact hlt)⟩
      have hxm := List.mem_of_getElem? hx
      obtain ⟨g, o, rfl, hg, hc⟩ := HCE.out (by omega)
      have HC1 : Hid (w1.cell? ⟨g, o + j, none⟩ = some (.int .i64 (x : Int))) := hc j _ (kic_get hx)
      have HG := Lib.hid hg
      have HBR : Hid (Below w.heap.size w wr) := bl_trans HB1.out HB.out
      have HS : Hid (∀ W', Below wr.heap.size wr W' → W'.cell? ⟨bx, 0, none⟩ = some (.slice (some ⟨L, 0, none⟩) m0 cap) ∧ W'.cell? ⟨bx, 1, none⟩ = some (.slice none 0 0) ∧ W'.cell? ⟨g, o + j, none⟩ = some (.int .i64 (x : Int))) := fun W' hb => by
        have hb2 := bl_trans HB.out hb
        have hk := Bk.below HK1.out hb2 HK1.out.lt
        exact ⟨hk.cell 0, hk.cell 1, (hb2.cell (p := ⟨g, o + j, none⟩) HG.out).trans HC1.out⟩
      have HTX : Hid (∀ W', Below wr.heap.size wr W' → Calls Tryd.prog 78 #[rAg L m0 cap, .int .i64 (x : Int)] W' (TuRet (tuN (ndA T x)) W')) := fun W' hb => HTU.out W' x (bl_trans HBR.out hb) hxm
      have HFN : Hid ((u.take (j + 1)).filter (isF T) = (u.take j).filter (isF T) ++ (if isF T x then [x] else [])) := take_filter _ hx
      have HRN : Hid ((u.take (j + 1)).filter (isR T) = (u.take j).filter (isR T) ++ (if isR T x then [x] else [])) := take_filter _ hx
      have HIF := Lib.hid (tu_isF T x)
      have HIR := Lib.hid (tu_isR T x)
      have HTI : Hid (isF T x = true → tuN (ndA T x) = (ixA T x).1) := tu_ix
      have hb1 := tuN_ge (ndA T x)
      have hb2 := tuN_lt (ndA T x)
      obtain ⟨t, ht⟩ : ∃ t, t = tuN (ndA T x) := ⟨_, rfl⟩
      rw [← ht] at HTX HIF HIR HTI hb1 hb2
      have hR1 := flt_len u j (isR T)
      obtain ⟨RL, hRL⟩ : ∃ RL, RL = (u.take j).filter (isR T) := ⟨_, rfl⟩
      rw [← hRL] at HO6 HRN hR1
      have HOM : Hid (∀ y ∈ O, y ∈ u ∧ tuN (ndA T y) = (ixA T y).1) := fun y hy => by
        have h1 := HFO.out.mem hy
        obtain ⟨h2, h3⟩ := List.mem_filter.1 h1
        exact ⟨List.mem_of_mem_take h2, tu_ix h3⟩
      obtain ⟨FL, hFL⟩ : ∃ FL, FL = (u.take j).filter (isF T) := ⟨_, rfl⟩
      rw [← hFL] at HFO HFN
      have hLw : LB ≤ wr.heap.size := by have := HLB.out; have := HB.out.size; omega
      clear hc hg hx ht hRL hFL hxm
      go_wp2_with fail
      obtain ⟨s0, s1, s2⟩ := HS.out wr (Below.refl _ _)
      go_region_held3 (fun w' => w'.cell? ⟨bx, 0, none⟩ = some (.slice (some ⟨L, 0, none⟩) m0 cap) ∧ w'.cell? ⟨bx, 1, none⟩ = some (.slice none 0 0) ∧ w'.cell? ⟨g, o + j, none⟩ = some (.int .i64 (x : Int)))
        (first | with_reducible exact HS.out _ (Below.refl _ _) | with_reducible exact HS.out _ (bl_drew (Below.refl _ _)) | with_reducible exact HS.out _ HBT.out)
        (first | (go_at_call 78; (with_reducible refine (HTX.out _ (bl_drew (Below.refl _ _))).mono ?_); rintro e wt ⟨rfl, hbt⟩; have HBT : Hid (Below wr.heap.size wr wt) := bl_trans (bl_drew (Below.refl _ _)) hbt; clear hbt))
      obtain ⟨q0, q1, q2⟩ := HS.out wt HBT.out
      have HP5 : Hid (wt.ownsRow LB 3 1 u5 O.length (kic O)) := (Kept.of_below HBT.out (fun _ => False)).own HO5.out (fun _ _ h => h)
      have HP6 : Hid (wt.ownsRow LB 3 1 u6 RL.length (kic RL)) := (Kept.of_below HBT.out (fun _ => False)).own HO6.out (fun _ _ h => h)
      have HBW : Hid (Below w1.heap.size w1 wt) := bl_trans HB.out HBT.out
      have hLt : LB ≤ wt.heap.size := Nat.le_trans hLw HBT.out.size
      clear s0 s1 s2 HO5 HO6
      by_cases ht0 : t = 0
      · have e1 : Hid ((u.take (j + 1)).filter (isF T) = FL) := by unfold Hid; rw [HFN.out, HIF.out, ht0]; simp
        have e2 : Hid ((u.take (j + 1)).filter (isR T) = RL ++ [x]) := by unfold Hid; rw [HRN.out, HIR.out, ht0]; simp
        subst ht0
        go_wp2_with (at_builtin; refine wp_push rfl _ _ 75 rfl LB 3 Tryd.underlying75 inf_I rfl (by decide) wt u6 RL.length (kic RL) [.int .i64 (x : Int)] rfl rfl rfl HP6.out rfl (by simp [Value.oneCell']) (by omega) (by omega) hLt ?_; intro v6 w6 hpush; have HPU := Lib.hid hpush; clear hpush)
        go_roundw
        case rel =>
          refine ⟨j + 1, O, by omega, by go_num, by omega, ?_, ?_, ?_, ?_, ?_⟩
          · rw [e1.out]; exact HFO.out
          · exact HPU.out.other HP5.out HSP.out.symm
          · rw [e2.out, List.length_append, kic_app]; exact HPU.out.own
          · exact (HPU.out.sep HP5.out HSP.out.symm).symm
          · exact HPU.out.below HBW.out (by rw [HLB.out]; exact Nat.le_refl _) (by rw [← HLB.out]; exact hLt)
        case measure => simp [intOf]; omega
      have nb0 : (t == 0) = false := beq_eq_false_iff_ne.2 ht0
      by_cases htn : t ≤ 0
      · have e1 : Hid ((u.take (j + 1)).filter (isF T) = FL) := by unfold Hid; rw [HFN.out, HIF.out]; simp; omega
        have e2 : Hid ((u.take (j + 1)).filter (isR T) = RL) := by unfold Hid; rw [HRN.out, HIR.out]; simp [ht0]
        go_wp2_with fail
        go_roundw
        case rel =>
          refine ⟨j + 1, O, by omega, by go_num, by omega, ?_, HP5.out, ?_, HSP.out, HBW.out⟩
          · rw [e1.out]; exact HFO.out
          · rw [e2.out]; exact HP6.out
        case measure => simp [intOf]; omega
      have htp : 0 < t := by omega
      have hFx : isF T x = true := by rw [HIF.out]; simp [htp]
      have HTE : Hid (t = (ixA T x).1) := HTI.out hFx
      have e1 : Hid ((u.take (j + 1)).filter (isF T) = FL ++ [x]) := by unfold Hid; rw [HFN.out, hFx]; rfl
      have e2 : Hid ((u.take (j + 1)).filter (isR T) = RL) := by unfold Hid; rw [HRN.out, HIR.out]; simp [ht0]
      clear hFx HIF HIR HTI HFN HRN
      have htn2 : ¬ t ≤ 0 := htn
      obtain ⟨_, A5, c5, rfl, hc5, _⟩ := RdS.of_own HP5.out
      go_upto_region 11 with fail
      clear nb0 ht0 htn
      go_upto_block 2 with fail
      have HK2 : Hid (Bk wt bx 36 #[.slice (some ⟨L, 0, none⟩) m0 cap, .slice none 0 0]) := Bk.below HK1.out HBW.out HK1.out.lt
      have HBRt : Hid (Below w.heap.size w wt) := bl_trans HB1.out HBW.out
      have HCX : Hid (∀ W', Below wt.heap.size wt W' → W'.cell? ⟨g, o + j, none⟩ = some (.int .i64 (x : Int))) := fun W' hb => ((bl_trans HBW.out hb).cell (p := ⟨g, o + j, none⟩) HG.out).trans HC1.out
      have HGW : Hid (g < wt.heap.size) := by have := HG.out; have := HLB.out; unfold Hid; omega
      have HBXL : Hid (bx < wt.heap.size) := HK2.out.lt
      clear HB HBR HS HTX HBT q0 q1 q2
      go_cut [10] (fun v10 wx => ∃ m : Nat, v10 = .int .i64 (m : Int) ∧ m ≤ O.length ∧ Hid (∀ y ∈ O.drop m, t < (ixA T y).1) ∧ Hid (∀ y ∈ O.take m, (ixA T y).1 ≤ t) ∧ Hid (Below wt.heap.size wt wx))
      case first =>
        go_wp2_with fail
        go_loopw [10] (fun c wx => ∃ m : Nat, c = .int .i64 (m : Int) ∧ m ≤ O.length ∧ Hid (∀ y ∈ O.drop m, t < (ixA T y).1) ∧ Hid (Below wt.heap.size wt wx)) (fun c _ => (intOf c).toNat)
        case atStart => exact ⟨O.length, rfl, Nat.le_refl _, (fun y hy => by rw [List.drop_length] at hy; cases hy), Below.refl _ _⟩
        case round =>
          obtain ⟨m, rfl, hm, HD, HBm⟩ := hrel
          by_cases hm0 : m = 0
          · subst hm0
            have hz0 : ¬ (0 : Int) < ((0 : Nat) : Int) := by omega
            go_wp2_with fail
            go_quiet (fail)
            go_wp2_with fail
            go_meet
            exact ⟨0, rfl, Nat.zero_le _, HD.out, by intro y hy; simp at hy, bl_drewN HBm.out _⟩
          · obtain ⟨p, hp⟩ : ∃ p, m = p + 1 := ⟨m - 1, by omega⟩
            obtain ⟨y, hy⟩ : ∃ y, O[p]? = some y := ⟨_, List.getElem?_eq_getElem (by omega)⟩
            obtain ⟨g5, q5, e5, hg5, _⟩ := HP5.out.form (by omega)
            injection e5 with e5 e6 e7
            subst e5
            subst e7
            have hym := HOM.out y (List.mem_of_getElem? hy)
            have hgl5 := (own_lt HP5.out rfl).2
            have HS : Hid (∀ W', Below wr.heap.size wr W' → W'.cell? ⟨bx, 0, none⟩ = some (.slice (some ⟨L, 0, none⟩) m0 cap) ∧ W'.cell? ⟨bx, 1, none⟩ = some (.slice none 0 0) ∧ W'.cell? ⟨g5, p, none⟩ = some (.int .i64 (y : Int))) := fun W' hb => by
              have hb2 := bl_trans HBm.out hb
              have hk := Bk.below HK2.out hb2 HK2.out.lt
              refine ⟨hk.cell 0, hk.cell 1, (hb2.cell (p := ⟨g5, p, none⟩) hgl5).trans ?_⟩
              have := HP5.out.cells rfl p _ (kic_get hy)
              rw [add_none, Nat.zero_add] at this
              exact this
            have HTX : Hid (∀ W', Below wr.heap.size wr W' → Calls Tryd.prog 78 #[rAg L m0 cap, .int .i64 (y : Int)] W' (TuRet (ixA T y).1 W')) := fun W' hb => by
              rw [← hym.2]
              exact HTU.out W' y (bl_trans HBRt.out (bl_trans HBm.out hb)) hym.1
            have HPOS : Hid ((ixA T y).1 ≤ t → ∀ z ∈ O.take m, (ixA T z).1 ≤ t) := fun h => by rw [hp]; exact HFO.out.pos hy h
            have HDD : Hid (t < (ixA T y).1 → ∀ z ∈ O.drop p, t < (ixA T z).1) := fun h z hz => by
              rw [List.drop_eq_getElem_cons (by omega), List.mem_cons] at hz
              rcases hz with rfl | hz
              · have := (List.getElem?_eq_some_iff.1 hy).2
                rw [this]; exact h
              · exact HD.out z (by rw [hp]; exact hz)
            have hq1 : 0 ≤ (ixA T y).1 ∧ (ixA T y).1 < 1000000000 := ixN_bd _
            obtain ⟨q, hq⟩ : ∃ q, q = (ixA T y).1 := ⟨_, rfl⟩
            rw [← hq] at HTX HPOS HDD hq1
            have hd0 : decide (0 < m) = true := decide_eq_true (by omega)
            have hms : IntKind.i64.wrap ((m : Int) - 1) = (p : Int) := by rw [IntWalk.i64_in _ (by omega)]; omega
            have hml : (p : Int) < (O.length : Int) := by omega
            have hml0 : ¬ (p : Int) < 0 := by omega
            have hpm : p < m := by omega
            have hpO : p ≤ O.length := by omega
            clear hp
            obtain ⟨s0, s1, s2⟩ := HS.out wr (Below.refl _ _)
            clear hym hy hq
            go_wp2_with fail
            go_region_held3 (fun w' => w'.cell? ⟨bx, 0, none⟩ = some (.slice (some ⟨L, 0, none⟩) m0 cap) ∧ w'.cell? ⟨bx, 1, none⟩ = some (.slice none 0 0) ∧ w'.cell? ⟨g5, p, none⟩ = some (.int .i64 (y : Int)))
              (first | with_reducible exact HS.out _ (Below.refl _ _) | with_reducible exact HS.out _ (bl_drew (Below.refl _ _)) | with_reducible exact HS.out _ HBT.out)
              (first | (go_at_call 78; (with_reducible refine (HTX.out _ (bl_drew (Below.refl _ _))).mono ?_); rintro e wt2 ⟨rfl, hbt⟩; have HBT : Hid (Below wr.heap.size wr wt2) := bl_trans (bl_drew (Below.refl _ _)) hbt; clear hbt))
            by_cases hgt : t < q
            · go_wp2_with fail
              go_roundw
              case rel => exact ⟨p, rfl, hpO, HDD.out hgt, bl_trans HBm.out HBT.out⟩
              case measure => simp only [intOf]; omega
            · go_wp2_with fail
              go_meet
              exact ⟨m, rfl, hm, HD.out, HPOS.out (by omega), bl_trans HBm.out HBT.out⟩
      case rest =>
        obtain ⟨m, rfl, hm, HD, HT, HBm⟩ := hcut
        clear HOM HTU
        have hO400 : O.length ≤ 400 := by omega
        have HRO : Hid (RdS wc wc.heap.size 1 (.slice A5 O.length c5) O.length (kic O)) := RdS.of_own ((Kept.of_below HBm.out (fun _ => False)).own HP5.out (fun _ _ h => h))
        obtain ⟨U1, hU1, hR1'⟩ := rd_to Tryd.underlying75 inf_I HRO.out m hm
        obtain ⟨U2, hU2, hR2'⟩ := rd_from Tryd.underlying75 inf_I HRO.out m hm
        rw [kic_take] at hR1'
        rw [kic_drop] at hR2'
        have HU1 := Lib.hid hU1
        have HU2 := Lib.hid hU2
        have HR1 := Lib.hid hR1'
        have HR2 := Lib.hid hR2'
        have HBc : Hid (Below w1.heap.size w1 wc) := bl_trans HBW.out HBm.out
        have HP6c : Hid (wc.ownsRow LB 3 1 u6 RL.length (kic RL)) := (Kept.of_below HBm.out (fun _ => False)).own HP6.out (fun _ _ h => h)
        have hLc : LB ≤ wc.heap.size := Nat.le_trans hLt HBm.out.size
        have HCXc : Hid (∀ W', Below wc.heap.size wc W' → W'.cell? ⟨g, o + j, none⟩ = some (.int .i64 (x : Int))) := fun W' hb => HCX.out W' (bl_trans HBm.out hb)
        have hgc : g < wc.heap.size := Nat.lt_of_lt_of_le HGW.out HBm.out.size
        clear hU1 hU2 hR1' hR2' HBm HP5 HP6 HCX HGW HRO
        go_upto_region 16 with (first
          | (refine wp_sliceEq (o := ⟨some 57, _, _, _, _, _⟩) rfl 75 _ _ _ rfl Tryd.underlying75 (.slice A5 O.length c5) none (some (.int .i64 (m : Int))) rfl rfl rfl U1 HU1.out ?_)
          | (at_builtin; refine wp_spread rfl _ _ 75 rfl wc.heap.size 3 Tryd.underlying75 inf_I rfl (by decide) (.slice none 0 0) 0 [] rfl (World.ownsRow_nil _ _ _ _) wc.heap.size U1 m (kic (O.take m)) rfl HR1.out (one_kic _) (by unfold maxLen; omega) (by omega) (Nat.le_refl _) ?_; intro v3 w3 ho3 hg3 hat3; have HO3 := Lib.hid ho3; have HB3 : Hid (Below wc.heap.size wc w3) := (Below.refl _ _).grown hg3 (Nat.le_refl _) (fun k hk => by simp [Value.ownBlock] at hk); clear ho3 hg3 hat3))
        have hz3 : wc.heap.size ≤ w3.heap.size := HB3.out.size
        have c3 := HCXc.out w3 HB3.out
        have g3 : g < w3.heap.size := Nat.lt_of_lt_of_le hgc hz3
        go_upto_region 17 with (at_builtin; refine wp_push rfl _ _ 75 rfl wc.heap.size 3 Tryd.underlying75 inf_I rfl (by decide) w3 v3 (0 + m) ([] ++ kic (O.take m)) [.int .i64 (x : Int)] rfl rfl rfl HO3.out rfl (by simp [Value.oneCell']) (by omega) (by omega) hz3 ?_; intro v4 w4 hpush; have HPU := Lib.hid hpush; have HB4 : Hid (Below wc.heap.size wc w4) := hpush.below HB3.out (Nat.le_refl _) hz3; clear hpush)
        have hz4 : wc.heap.size ≤ w4.heap.size := HB4.out.size
        go_wp2_with (first
          | (refine wp_sliceEq (o := ⟨some 69, _, _, _, _, _⟩) rfl 75 _ _ _ rfl Tryd.underlying75 (.slice A5 O.length c5) (some (.int .i64 (m : Int))) none rfl rfl rfl U2 HU2.out ?_)
          | (at_builtin; refine wp_spread rfl _ _ 75 rfl wc.heap.size 3 Tryd.underlying75 inf_I rfl (by decide) v4 (0 + m + 1) (([] ++ kic (O.take m)) ++ [.int .i64 (x : Int)]) rfl HPU.out.own wc.heap.size U2 (O.length - m) (kic (O.drop m)) rfl (HR2.out.below HB4.out) (one_kic _) (by unfold maxLen; omega) (by omega) hz4 ?_; intro v5 w5 ho5 hg5 hat5; have ho6 : w5.ownsRow wc.heap.size 3 1 v5 (O.length + 1) (kic (insA O m x)) := (by have := ho5; rw [show 0 + m + 1 + (O.length - m) = O.length + 1 by omega, ins_kic] at this; exact this); have HO5 := Lib.hid ho6; have HB5 : Hid (Below wc.heap.size wc w5) := HB4.out.grown hg5 hz4 (fun k hk => (own_lt HPU.out.own hk).1); clear ho5 hg5 hat5 ho6))
        go_roundw
        case rel =>
          refine ⟨j + 1, insA O m x, by omega, by go_num, by rw [ins_len]; omega, ?_, ?_, ?_, ?_, ?_⟩
          · rw [e1.out, insA_eq]
            exact HFO.out.ins (fun y hy => by show (ixA T x).1 < (ixA T y).1; rw [← HTE.out]; exact HD.out y hy) (fun y hy => by show (ixA T y).1 ≤ (ixA T x).1; rw [← HTE.out]; exact HT.out y hy)
          · rw [ins_len]; exact own_mono HO5.out hLc
          · rw [e2.out]; exact (Kept.of_below HB5.out (fun _ => False)).own HP6c.out (fun _ _ h => h)
          · intro k hk e
            have h1 := (own_lt HO5.out hk).1
            have h2 := (own_lt HP6c.out e).2
            omega
          · exact bl_trans HBc.out HB5.out
        case measure => simp [intOf]; omega
end Go.Proofs.YtimlmekgapdkiaaDoor
