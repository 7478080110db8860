/- the law EventsRound: its walk -/
import Derived.Test.YtimlmekgapdkiaaDoorFv
import Derived.Test.YtimlmekgapdkiaaDoorFw
import Derived.Test.YtimlmekgapdkiaaDoorFl
namespace Go.Proofs.YtimlmekgapdkiaaDoor
set_option linter.unusedVariables false
set_option linter.unusedSimpArgs false
open Go.RowKit Go.Cas

theorem RdT.below5 {w w' : World} {lim lim' n : Nat} {v : Value} {L : List TwV} (h : RdT w lim v n L) (hb : Below lim w w') (hl : lim ≤ lim') : RdT w' lim' v n L :=
  ⟨(h.1.below hb).mono hl, fun y hy => by
    obtain ⟨h1, h2, h3⟩ := h.2 y hy
    exact ⟨(h1.below hb).mono hl, (h2.below hb).mono hl, h3⟩⟩
theorem GE.up {w w' : World} {p : Nat → Addr} (h : GE w w.heap.size p) (hb : Below w.heap.size w w') : GE w' w'.heap.size p := by
  have h1 := h.below hb
  have hs := hb.size
  obtain ⟨l1, l2, l3, l4⟩ := h1.lt.1
  exact ⟨h1.name_, h1.bound, h1.node, h1.place, ⟨by omega, by omega, by omega, by omega⟩, Nat.le_refl _⟩
theorem le_sum5 : ∀ (l : List Nat) (x : Nat), x ∈ l → x ≤ l.sum := by
  intro l
  induction l with
  | nil => intro x h; cases h
  | cons a l ih =>
    intro x h
    rw [List.sum_cons]
    rcases List.mem_cons.1 h with rfl | h
    · omega
    · have := ih x h; omega
set_option maxRecDepth 100000 in
set_option maxHeartbeats 16000000 in
theorem W_eventsRound {w : World} {v : Value} {n0 : Nat} {L : List TwV} {p : Nat → Addr} (hr : RdT w w.heap.size v n0 L) (hn : L.length = n0) (hn2 : n0 ≤ maxLen) (hm : ∀ y ∈ L, y.x.at_.length ≤ maxLen ∧ y.x.ki.length ≤ maxLen) (hG : GE w w.heap.size p) :
    Calls Tryd.prog 8 #[v] w fun e w' => e = .returned (.bool true) ∧ Below w.heap.size w w' := by
  have HFW := Lib.hid (c_few5 hr hn hn2 hm)
  have HTF : Hid (∀ W', Below w.heap.size w W' → FewP (L.map TwV.x) → Calls Tryd.prog 12 #[v] W' (TfRet W' (L.map TwV.x))) := fun W' hb h => c_TreeFew (hr.below5 hb hb.size) hn (hG.up hb) h
  clear hr hn hn2 hm hG
  go_enter Tryd.func8, Tryd.ntmps8
  go_upto_region 2 with (go_at_call 25; refine (HFW.out).mono ?_; rintro e w0 ⟨bf, rfl, hfp, hb0⟩; have HFP := Lib.hid hfp; have HB0 := Lib.hid hb0; clear hfp hb0)
  cases bf
  · go_wp2_with fail
    go_ret
    exact ⟨rfl, HB0.out⟩
  go_upto_region 7 with (go_at_call 12; refine (HTF.out _ HB0.out (HFP.out rfl)).mono ?_; rintro e w1 ⟨R, F, rfl, hts, hti, hl60, hb1⟩; have HTS := Lib.hid hts; have HTI := Lib.hid hti; have HL60 := Lib.hid hl60; have HB1 := Lib.hid (bl_trans HB0.out hb1); clear hts hti hl60 hb1)
  have hfp5 : FewP (L.map TwV.x) := by first | exact HFP.out rfl | exact HFP.out trivial
  have HIB := Lib.hid (plainT_IxB hfp5)
  clear hfp5
  obtain ⟨T, hT⟩ : ∃ T, T = plainT (L.map TwV.x) := ⟨_, rfl⟩
  rw [← hT] at HTS HTI HIB
  clear hT
  have HTL : Hid (T.length ≤ 400) := by have h1 := HTI.out.len; have h2 := HL60.out; unfold Hid; omega
  obtain ⟨d, hd⟩ := HTI.out.wf
  have HWF := Lib.hid hd
  clear hd
  have h0T : 0 < T.length := by have := HTI.out.len; omega
  obtain ⟨u, hul, hun, hum, HUN⟩ : ∃ u : List Nat, u.length ≤ 400 ∧ u.Nodup ∧ (∀ x ∈ u, x < T.length) ∧ Hid (∀ W', Below w1.heap.size w1 W' → Calls Tryd.prog 61 #[.pointer (some ⟨R, 0, none⟩), .int .i64 ((0 : Nat) : Int)] W' (WyRet W' u)) := by
    obtain ⟨Dm, hD⟩ : ∃ Dm, ∀ k, k < T.length → d k ≤ Dm := ⟨((List.range T.length).map d).sum, fun k hk => by
      have : d k ∈ (List.range T.length).map d := List.mem_map_of_mem (List.mem_range.2 hk)
      exact le_sum5 _ _ this⟩
    exact ⟨und T (Dm + 1) 0, Nat.le_trans (und_len HWF.out _ 0 h0T) HTL.out, und_nodup HWF.out _ 0 h0T, fun x hx => (und_mem HWF.out _ 0 h0T x hx).1, fun W' hb => c_UnderF HWF.out hD HTL.out (Dm + 1) W' 0 (HTS.out.below hb) h0T (by omega)⟩
  have HOR : Hid (∀ W', Below w1.heap.size w1 W' → Calls Tryd.prog 33 #[.pointer (some ⟨R, 0, none⟩), .int .i64 ((0 : Nat) : Int)] W' (FoRet T u W')) := fun W' hb => c_FOrder (HTS.out.below hb) HTL.out HIB.out hum hul (fun W2 hb2 => HUN.out W2 (bl_trans hb hb2))
  have HNX : Hid (∀ W' z back, Below w1.heap.size w1 W' → Calls Tryd.prog 34 #[.pointer (some ⟨R, 0, none⟩), .int .i64 ((0 : Nat) : Int), .int .i64 z, .bool back] W' (NxRet (ordL T u) z back W')) := fun W' z back hb => c_Next z back hul (HOR.out W' hb)
  have HND : Hid ((ordL T u).Nodup) := ordL_nd T hun
  have HE : Hid (∀ L', SM (fun i => (ixA T i).1) (u.filter (isF T)) L' 0 (u.filter (isF T)).length → Srt (fun i => (ixA T i).1) L' 0 (u.filter (isF T)).length → L' ++ u.filter (isR T) = ordL T u) := fun L' h1 h2 => ordL_eq h1 h2
  have hlen := ordL_len T u
  obtain ⟨O, hO⟩ : ∃ O, O = ordL T u := ⟨_, rfl⟩
  rw [← hO] at HNX HND HE hlen
  have hO8 : O.length ≤ 800 := by omega
  clear hO hlen hun hum hul h0T
  have HO1 := Lib.hid (HOR.out w1 (Below.refl _ _))
  go_upto_region 8 with (go_at_call 33; refine (HO1.out).mono ?_; rintro e w2 ⟨vo, L', LB, rfl, hLB, h1, h2, h3, h4⟩; have HOW : Hid (w2.ownsRow LB 3 1 vo O.length (kic O)) := (by rw [HE.out L' h1 h2] at h3; exact h3); have HB2 := Lib.hid h4; clear h1 h2 h3 h4 hLB)
  obtain ⟨_, A, c, rfl, hcap, _⟩ := RdS.of_own HOW.out
  obtain ⟨n, hn⟩ : ∃ n, n = O.length := ⟨_, rfl⟩
  have HN := Lib.hid hn
  have HOC : Hid (∀ (k x : Nat), O[k]? = some x → ∃ g, A = some ⟨g, 0, none⟩ ∧ ∀ W', Below w2.heap.size w2 W' → W'.cell? ⟨g, k, none⟩ = some (.int .i64 (x : Int))) := fun k x hx => by
    have hk := (List.getElem?_eq_some_iff.1 hx).1
    obtain ⟨g, cap, e, _, hg⟩ := HOW.out.form (by omega)
    injection e with e1 e2 e3
    subst e1
    refine ⟨g, rfl, fun W' hb => (hb.cell (p := ⟨g, k, none⟩) hg).trans ?_⟩
    have := HOW.out.cells rfl k _ (kic_get hx)
    rw [add_none, Nat.zero_add] at this
    exact this
  rw [← hn] at hO8 hcap ⊢
  clear hn
  go_upto_region 10 with (go_at_call 34; refine (HNX.out _ _ _ HB2.out).mono ?_; rintro e w3 ⟨rfl, hb3⟩; have HB3 := Lib.hid hb3; clear hb3)
  have HBW : Hid (Below w.heap.size w w3) := bl_trans HB1.out (bl_trans HB2.out HB3.out)
  obtain ⟨a0, ha0⟩ : ∃ a0, a0 = nxB O (-1) false := ⟨_, rfl⟩
  have HA0 := Lib.hid ha0
  rw [← ha0]
  clear ha0
  by_cases hn0 : n = 0
  · have hO0 : O = [] := List.eq_nil_of_length_eq_zero (by rw [← HN.out]; exact hn0)
    have e0 : a0 = -1 := by rw [HA0.out, hO0]; rfl
    subst e0
    clear HA0 HOC HN HNX HE HND hO0
    subst hn0
    go_wp2_with fail
    go_ret
    exact ⟨rfl, HBW.out⟩
  have hni : ¬ (n : Int) = 0 := by omega
  have nb : ((n : Int) == 0) = false := beq_eq_false_iff_ne.2 hni
  have hn1 : 0 < n := by omega
  obtain ⟨x0, hx0⟩ : ∃ x0, O[0]? = some x0 := ⟨_, List.getElem?_eq_getElem (by rw [← HN.out]; exact hn1)⟩
  have e0 : a0 = (x0 : Int) := by rw [HA0.out]; exact nx_first hx0
  subst e0
  have HX0 := Lib.hid hx0
  obtain ⟨g, rfl, _⟩ := HOC.out 0 x0 hx0
  have HC : Hid (∀ (k x : Nat), O[k]? = some x → ∀ W', Below w2.heap.size w2 W' → W'.cell? ⟨g, k, none⟩ = some (.int .i64 (x : Int))) := fun k x hx W' hb => by
    obtain ⟨g', e, h⟩ := HOC.out k x hx
    injection e with e
    injection e with e
    subst e
    exact h W' hb
  clear hx0 HA0 HOC HE HOR HO1 HUN
  go_wp2_with fail
  try rw [nb]
  go_loopw [7, 8] (fun a b wr => ∃ (i x : Nat), b = .int .i64 (i : Int) ∧ i ≤ n ∧ a = .int .i64 (x : Int) ∧ Hid (O[i % n]? = some x) ∧ Hid (Below w2.heap.size w2 wr)) (fun _ b _ => n - (intOf b).toNat)
  case atStart => exact ⟨0, x0, rfl, by omega, rfl, by unfold Hid; rw [Nat.zero_mod]; exact HX0.out, HB3.out⟩
  case round =>
    obtain ⟨i, x, rfl, hi, rfl, HX, HB⟩ := hrel
    by_cases hlt : i < n
    · have hii : (i : Int) < (n : Int) := by omega
      have hxi : O[i]? = some x := by have := HX.out; rwa [Nat.mod_eq_of_lt hlt] at this
      have c1 := HC.out i x hxi wr HB.out
      have HXI := Lib.hid hxi
      clear hxi
      go_upto_region 17 with fail
      go_wp2_with fail
      clear c1
      obtain ⟨wq, hwq⟩ : ∃ wq : World, wq = wr := ⟨_, rfl⟩
      rw [← hwq] at HB
      rw [← hwq]
      clear hwq
      go_loopw [9] (fun a wr => ∃ (k : Nat), a = .int .i64 (k : Int) ∧ k ≤ i ∧ Hid (Below w2.heap.size w2 wr)) (fun a _ => i - (intOf a).toNat)
      case atStart => exact ⟨0, rfl, by omega, HB.out⟩
      case round =>
        obtain ⟨k, rfl, hk, HB⟩ := hrel
        have c1 := HC.out i x HXI.out wr HB.out
        by_cases hki : k < i
        · have hkk : (k : Int) < (i : Int) := by omega
          have hkn : (k : Int) < (n : Int) := by omega
          obtain ⟨z, hz⟩ : ∃ z, O[k]? = some z := ⟨_, List.getElem?_eq_getElem (by rw [← HN.out]; omega)⟩
          have c2 := HC.out k z hz wr HB.out
          have hzx : ¬ (z : Int) = (x : Int) := fun e => by
            have e' : z = x := by omega
            subst e'
            have := nd_at HND.out hz HXI.out
            omega
          have b1 : ((z : Int) == (x : Int)) = false := by rw [beq_eq_false_iff_ne]; exact hzx
          clear hz
          go_wp2_with fail
          go_quiet (fail)
          go_wp2_with fail
          go_roundw
          case rel => exact ⟨k + 1, by go_num, by omega, bl_drewN HB.out _⟩
          case measure => simp [intOf]; omega
        · have hkk : ¬ (k : Int) < (i : Int) := by omega
          obtain ⟨y, hy⟩ : ∃ y, O[(i + 1) % n]? = some y := ⟨_, List.getElem?_eq_getElem (by rw [← HN.out]; exact Nat.mod_lt _ hn1)⟩
          have HY := Lib.hid hy
          have e1 : nxB O (x : Int) false = (y : Int) := nx_on HND.out HXI.out (by rw [← HN.out]; exact hy)
          have e2 : nxB O (y : Int) true = (x : Int) := nx_back HND.out HXI.out (by rw [← HN.out]; exact hy)
          have H1 := Lib.hid (HNX.out wr (x : Int) false (bl_trans HB2.out HB.out))
          have H2 : Hid (∀ W', Below wr.heap.size wr W' → Calls Tryd.prog 34 #[.pointer (some ⟨R, 0, none⟩), .int .i64 ((0 : Nat) : Int), .int .i64 (y : Int), .bool true] W' (NxRet O (y : Int) true W')) := fun W' hb => HNX.out W' _ true (bl_trans HB2.out (bl_trans HB.out hb))
          unfold NxRet at H1 H2
          rw [e1] at H1
          rw [e2] at H2
          clear hy e1 e2
          go_upto_region 23 with (go_at_call 34; refine (H1.out).mono ?_; rintro e w4 ⟨rfl, hb4⟩; have HB4 := Lib.hid hb4; clear hb4)
          go_wp2_with (go_at_call 34; refine (H2.out _ HB4.out).mono ?_; rintro e w5 ⟨rfl, hb5⟩; have HB5 := Lib.hid (bl_trans HB4.out hb5); clear hb5)
          go_roundw
          case rel => exact ⟨i + 1, y, by go_num, by omega, rfl, HY.out, bl_trans HB.out HB5.out⟩
          case measure => simp [intOf]; omega
    · obtain rfl : i = n := by omega
      have hii : ¬ (i : Int) < (i : Int) := by omega
      have hxx : O[0]? = some x := by have := HX.out; rwa [Nat.mod_self] at this
      have c1 := HC.out 0 x hxx wr HB.out
      have hip : (0 : Int) < (i : Int) := by omega
      have HBZ : Hid (Below w.heap.size w wr) := bl_trans HB1.out (bl_trans HB2.out HB.out)
      clear hxx
      go_wp2_with fail
      go_ret
      exact ⟨ret_bool (by simp), HBZ.out⟩
end Go.Proofs.YtimlmekgapdkiaaDoor
