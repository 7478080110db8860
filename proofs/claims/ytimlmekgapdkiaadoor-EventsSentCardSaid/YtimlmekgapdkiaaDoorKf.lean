/- ears: those at a node are asked, on the way up -/
import Derived.Test.YtimlmekgapdkiaaDoorKe
namespace Go.Proofs.YtimlmekgapdkiaaDoor
set_option linter.unusedVariables false
set_option linter.unusedSimpArgs false
open Go.RowKit Go.Cas

set_option maxRecDepth 100000 in
theorem c_ask0 (x : EarV) (w : World) : Calls Tryd.prog 71 #[earV x] w fun e w' => e = .returned (.bool (x.down == false)) ∧ Below w.heap.size w w' := by
  obtain ⟨nd, nm, f2, f3, f4, f5, f6, f7⟩ := x
  unfold earV
  go_enter Tryd.func71, Tryd.ntmps71
  go_wp2_with fail
  go_ret
  exact ⟨by cases f2 <;> rfl, bl_alloc (Below.refl _ _) _⟩
set_option maxRecDepth 100000 in
set_option maxHeartbeats 16000000 in
theorem c_at0 {w : World} {B B0 E Sb : Nat} {name : ByteArray} {vl vg vc : Value} {L : List EarV} {s : SnS} (h : SM B B0 E Sb name vl vg vc L s w) (hL : L.length ≤ 200) (hs : s.now = false) (hC : s.C.length ≤ 1000000000) (id : Nat) (ph : Int) :
    Calls Tryd.prog 101 #[.pointer (some ⟨Sb, 0, none⟩), .int .i64 (id : Int), .int .i64 ph, .func (.func 71) #[] #[]] w (AsRet B B0 E Sb name vl vg vc L (atP L name id ph false s) w) := by
  have H := Lib.hid h
  obtain ⟨n, hn⟩ : ∃ n, n = L.length := ⟨_, rfl⟩
  have HN := Lib.hid hn
  have HSN := Lib.hid hs
  have HCL := Lib.hid hC
  have e0 := h.ea.root.cell 0
  have le := h.ea.root.lt
  have s0 := h.sb.cell 0
  have ls := h.sb.lt
  have hol := h.ea.ol
  have hog := h.ea.og
  rw [← hn] at hol hog hL
  obtain ⟨_, Al, cl, rfl, _, _⟩ := RdS.of_own hol
  obtain ⟨_, Ag, cg, rfl, _, _⟩ := RdS.of_own hog
  have HOL := Lib.hid hol
  clear h hn hol hog hs hC
  go_enter Tryd.func101, Tryd.ntmps101
  go_wp2_with fail
  go_loopw [8, 20] (fun von c wr => ∃ (k : Nat) (vc' : Value) (st : SnS), k ≤ n ∧ c = .int .i64 (k : Int) ∧ von = .bool st.on ∧ Hid (st = atN L name id ph false k s.go) ∧ Hid (st.now = false) ∧ Hid (AtW B B0 E Sb name (.slice Al n cl) (.slice Ag n cg) vc vc' L st w wr)) (fun _ c _ => n - (intOf c).toNat)
  case atStart => exact ⟨0, vc, s.go, by omega, rfl, rfl, rfl, HSN.out, ⟨H.out.go, fun _ _ h => h, Kept.refl _ _⟩⟩
  case round =>
    obtain ⟨k, vc', st, hk, rfl, rfl, HST, HNW, HW⟩ := hrel
    by_cases hlt : k < n
    case neg =>
      obtain rfl : k = n := by omega
      have hkk : ¬ (k : Int) < (k : Int) := by omega
      go_wp2_with fail
      go_ret2
      refine ⟨vc', ?_, ?_⟩
      · unfold atP; rw [← HN.out, ← HST.out, HNW.out]; rfl
      · unfold atP; rw [← HN.out, ← HST.out]; exact HW.out
    have hkn : (k : Int) < (n : Int) := by omega
    obtain ⟨x, hx⟩ : ∃ x, L[k]? = some x := ⟨_, List.getElem?_eq_getElem (by rw [← HN.out]; exact hlt)⟩
    obtain ⟨g, hg⟩ : ∃ g, st.G[k]? = some g := ⟨_, List.getElem?_eq_getElem (by rw [HW.out.sm.ea.gl, ← HN.out]; exact hlt)⟩
    obtain ⟨gl, cl', e, hgl, hgll⟩ := HOL.out.form (by omega)
    injection e with e e2 e3
    subst e e3
    have hol := HW.out.sm.ea.ol
    have hog := HW.out.sm.ea.og
    rw [← HN.out] at hol hog
    obtain ⟨gg, cg', e, hgg, hggl⟩ := hog.form (by omega)
    injection e with e e2 e3
    subst e e3
    have HX := Lib.hid hx
    have HG := Lib.hid hg
    have hcx : ∀ j, j < 8 → ∀ u, (earc x)[j]? = some u → wr.cell? ⟨gl, k * 8 + j, none⟩ = some u := fun j hj u hu => by
      have := hol.cells (g := gl) rfl (k * 8 + j) u (by rw [flat_get earc 8 (fun _ => rfl) L k j x hx hj]; exact hu)
      rw [add_none, Nat.zero_add] at this
      exact this
    obtain ⟨nd, nm, f2, f3, f4, f5, f6, f7⟩ := x
    have x0 := hcx 0 (by omega) _ rfl
    rw [Nat.add_zero] at x0
    have x1 := hcx 1 (by omega) _ rfl; have x2 := hcx 2 (by omega) _ rfl; have x3 := hcx 3 (by omega) _ rfl; have x4 := hcx 4 (by omega) _ rfl; have x5 := hcx 5 (by omega) _ rfl; have x6 := hcx 6 (by omega) _ rfl; have x7 := hcx 7 (by omega) _ rfl
    clear hcx
    have hcg := hog.cells (g := gg) rfl k (.bool g) (by rw [List.getElem?_map, hg]; rfl)
    rw [add_none, Nat.zero_add] at hcg
    obtain ⟨q, hq⟩ : ∃ q, q = k * 8 := ⟨_, rfl⟩
    go_upto_region 5 with fail
    obtain ⟨bx, hbx⟩ : ∃ bx, bx = wr.heap.size := ⟨_, rfl⟩
    obtain ⟨w1, hw1⟩ : ∃ w1, w1 = wr.alloc (.cells #[.int .i64 nd, .string nm, .bool f2, .bool f3, .bool f4, .bool f5, .bool f6, .bool f7] 64) := ⟨_, rfl⟩
    rw [← hw1, ← hbx]
    have HBX : Hid (Bk w1 bx 64 #[.int .i64 nd, .string nm, .bool f2, .bool f3, .bool f4, .bool f5, .bool f6, .bool f7]) := by rw [hw1, hbx]; exact bk_new' _ _ _ rfl
    have HBW : Hid (Below wr.heap.size wr w1) := by rw [hw1]; exact bl_alloc (Below.refl _ _) _
    have HW1 : Hid (AtW B B0 E Sb name (.slice (some ⟨gl, 0, none⟩) n cl) (.slice (some ⟨gg, 0, none⟩) n cg) vc vc' L st w w1) := HW.out.below HBW.out
    have HBXW : Hid (wr.heap.size ≤ bx) := Nat.le_of_eq hbx.symm
    have HSW : Hid (w.heap.size ≤ wr.heap.size) := HW.out.kept.size
    clear hw1 hbx hx hg hq e0 le s0 ls x0 x1 x2 x3 x4 x5 x6 x7 hcg hog hol
    have hog := HW1.out.sm.ea.og
    rw [← HN.out] at hog
    have hcg := hog.cells (g := gg) rfl k (.bool g) (by rw [List.getElem?_map, HG.out]; rfl)
    rw [add_none, Nat.zero_add] at hcg
    have HCG := Lib.hid hcg
    have e0 := HW1.out.sm.ea.root.cell 0; have e1 := HW1.out.sm.ea.root.cell 1
    have le := HW1.out.sm.ea.root.lt
    have s0 := HW1.out.sm.sb.cell 0; have s1 := HW1.out.sm.sb.cell 1; have s2 := HW1.out.sm.sb.cell 2; have s3 := HW1.out.sm.sb.cell 3
    have ls := HW1.out.sm.sb.lt
    have y0 := HBX.out.cell 0; have y1 := HBX.out.cell 1; have y2 := HBX.out.cell 2
    have lx := HBX.out.lt
    have lgg : gg < w1.heap.size := Nat.lt_of_lt_of_le hggl HBW.out.size
    clear hog hgg hggl hgl hgll
    have HNX : ∀ b, b = false → asks ⟨nd, nm, f2, f3, f4, f5, f6, f7⟩ g id name false = b → Hid (atN L name id ph false (k + 1) s.go = st) := fun b hb h => by
      unfold Hid
      rw [atN_succ, ← HST.out]
      exact hear_miss HNW.out HX.out (by rw [List.getD_eq_getElem?_getD, HG.out]; exact h.trans hb)
    have HNX := Lib.hid HNX
    by_cases hg1 : g = true
    · subst hg1
      have HS2 := HNX.out false rfl (by unfold asks; rfl)
      clear HNX
      go_quiet (fail)
      go_wp2_with fail
      go_roundw
      case rel => exact ⟨k + 1, vc', st, by omega, by go_num, rfl, HS2.out.symm, HNW.out, (HW1.out.below (bl_drewN (Below.refl _ _) _))⟩
      case measure => simp [intOf]; omega
    obtain rfl : g = false := by simpa using hg1
    by_cases hnd : nd = (id : Int)
    case neg =>
      have hb1 : (nd != (id : Int)) = true := by rw [bne_iff_ne]; exact hnd
      have hb2 : (nd == (id : Int)) = false := by rw [beq_eq_false_iff_ne]; exact hnd
      have HS2 := HNX.out false rfl (by unfold asks; simp [hnd])
      clear HNX
      go_quiet (fail)
      go_wp2_with fail
      go_roundw
      case rel => exact ⟨k + 1, vc', st, by omega, by go_num, rfl, HS2.out.symm, HNW.out, (HW1.out.below (bl_drewN (Below.refl _ _) _))⟩
      case measure => simp [intOf]; omega
    by_cases hnm : nm = name
    case neg =>
      have hb1 : (nm.toList == name.toList) = false := by rw [beq_str]; simp [hnm]
      have hb2 : (nm.toList != name.toList) = true := by unfold bne; rw [hb1]; rfl
      have HS2 := HNX.out false rfl (by unfold asks; simp [hnm])
      subst hnd
      clear HNX
      go_quiet (fail)
      go_wp2_with fail
      go_roundw
      case rel => exact ⟨k + 1, vc', st, by omega, by go_num, rfl, HS2.out.symm, HNW.out, (HW1.out.below (bl_drewN (Below.refl _ _) _))⟩
      case measure => simp [intOf]; omega
    subst hnd hnm
    have hbm : (nm.toList == nm.toList) = true := by rw [beq_str]; simp
    have HSK : Hid (∀ W', Below w1.heap.size w1 W' → (W'.cell? ⟨E, 1, none⟩ = some (.slice (some ⟨gg, 0, none⟩) n cg) ∧ W'.cell? ⟨Sb, 0, none⟩ = some (.pointer (some ⟨E, 0, none⟩)) ∧ W'.cell? ⟨Sb, 1, none⟩ = some (.string nm) ∧ W'.cell? ⟨gg, k, none⟩ = some (.bool false)) ∧ (W'.cell? ⟨bx, 0, none⟩ = some (.int .i64 (id : Int)) ∧ W'.cell? ⟨bx, 1, none⟩ = some (.string nm) ∧ W'.cell? ⟨bx, 2, none⟩ = some (.bool f2) ∧ W'.cell? ⟨bx, 3, none⟩ = some (.bool f3) ∧ W'.cell? ⟨bx, 4, none⟩ = some (.bool f4) ∧ W'.cell? ⟨bx, 5, none⟩ = some (.bool f5) ∧ W'.cell? ⟨bx, 6, none⟩ = some (.bool f6) ∧ W'.cell? ⟨bx, 7, none⟩ = some (.bool f7))) := fun W' hb => by
      have h1 := (HW1.out.below hb).sm
      have h2 := HBX.out.below hb HBX.out.lt
      exact ⟨⟨h1.ea.root.cell 1, h1.sb.cell 0, h1.sb.cell 1, (hb.cell (p := ⟨gg, k, none⟩) lgg).trans HCG.out⟩, h2.cell 0, h2.cell 1, h2.cell 2, h2.cell 3, h2.cell 4, h2.cell 5, h2.cell 6, h2.cell 7⟩
    have HASK : Hid (∀ W', Calls Tryd.prog 71 #[.agg #[.int .i64 (id : Int), .string nm, .bool f2, .bool f3, .bool f4, .bool f5, .bool f6, .bool f7]] W' fun e w' => e = .returned (.bool (f2 == false)) ∧ Below W'.heap.size W' w') := fun W' => c_ask0 ⟨(id : Int), nm, f2, f3, f4, f5, f6, f7⟩ W'
    clear e0 e1 s0 s1 s2 s3 y0 y1 y2 hcg
    cases f2
    case true =>
      have HS2 := HNX.out false rfl (by unfold asks; simp)
      have HAK : Hid (∀ W', Calls Tryd.prog 71 #[.agg #[.int .i64 (id : Int), .string nm, .bool true, .bool f3, .bool f4, .bool f5, .bool f6, .bool f7]] W' fun e w' => e = .returned (.bool false) ∧ Below W'.heap.size W' w') := HASK.out
      clear HNX HASK
      go_region_held3 (fun W' => (W'.cell? ⟨E, 1, none⟩ = some (.slice (some ⟨gg, 0, none⟩) n cg) ∧ W'.cell? ⟨Sb, 0, none⟩ = some (.pointer (some ⟨E, 0, none⟩)) ∧ W'.cell? ⟨Sb, 1, none⟩ = some (.string nm) ∧ W'.cell? ⟨gg, k, none⟩ = some (.bool false)) ∧ (W'.cell? ⟨bx, 0, none⟩ = some (.int .i64 (id : Int)) ∧ W'.cell? ⟨bx, 1, none⟩ = some (.string nm) ∧ W'.cell? ⟨bx, 2, none⟩ = some (.bool true) ∧ W'.cell? ⟨bx, 3, none⟩ = some (.bool f3) ∧ W'.cell? ⟨bx, 4, none⟩ = some (.bool f4) ∧ W'.cell? ⟨bx, 5, none⟩ = some (.bool f5) ∧ W'.cell? ⟨bx, 6, none⟩ = some (.bool f6) ∧ W'.cell? ⟨bx, 7, none⟩ = some (.bool f7)))
        (first | with_reducible exact HSK.out _ (Below.refl _ _) | with_reducible exact HSK.out _ (bl_drew (Below.refl _ _)) | with_reducible exact HSK.out _ HBT.out)
        (first | (go_at_call 71; (with_reducible refine (HAK.out _).mono ?_); rintro e wt ⟨rfl, hbt⟩; have HBT : Hid (Below w1.heap.size w1 wt) := bl_trans (bl_drew (Below.refl _ _)) hbt; clear hbt))
      all_goals
        go_wp2_with fail
        go_roundw
        case rel => exact ⟨k + 1, vc', st, by omega, by go_num, rfl, HS2.out.symm, HNW.out, HW1.out.below HBT.out⟩
        case measure => simp [intOf]; omega
    case false =>
      have HS2 : Hid (atN L nm id ph false (k + 1) s.go = hearX ⟨(id : Int), nm, false, f3, f4, f5, f6, f7⟩ k id ph st) := by
        unfold Hid
        rw [atN_succ, ← HST.out]
        exact hear_hit HNW.out HX.out (by rw [List.getD_eq_getElem?_getD, HG.out]; unfold asks; simp)
      have HAK : Hid (∀ W', Calls Tryd.prog 71 #[.agg #[.int .i64 (id : Int), .string nm, .bool false, .bool f3, .bool f4, .bool f5, .bool f6, .bool f7]] W' fun e w' => e = .returned (.bool true) ∧ Below W'.heap.size W' w') := HASK.out
      clear HNX HASK
      go_region_held3 (fun W' => (W'.cell? ⟨E, 1, none⟩ = some (.slice (some ⟨gg, 0, none⟩) n cg) ∧ W'.cell? ⟨Sb, 0, none⟩ = some (.pointer (some ⟨E, 0, none⟩)) ∧ W'.cell? ⟨Sb, 1, none⟩ = some (.string nm) ∧ W'.cell? ⟨gg, k, none⟩ = some (.bool false)) ∧ (W'.cell? ⟨bx, 0, none⟩ = some (.int .i64 (id : Int)) ∧ W'.cell? ⟨bx, 1, none⟩ = some (.string nm) ∧ W'.cell? ⟨bx, 2, none⟩ = some (.bool false) ∧ W'.cell? ⟨bx, 3, none⟩ = some (.bool f3) ∧ W'.cell? ⟨bx, 4, none⟩ = some (.bool f4) ∧ W'.cell? ⟨bx, 5, none⟩ = some (.bool f5) ∧ W'.cell? ⟨bx, 6, none⟩ = some (.bool f6) ∧ W'.cell? ⟨bx, 7, none⟩ = some (.bool f7)))
        (first | with_reducible exact HSK.out _ (Below.refl _ _) | with_reducible exact HSK.out _ (bl_drew (Below.refl _ _)) | with_reducible exact HSK.out _ HBT.out)
        (first | (go_at_call 71; (with_reducible refine (HAK.out _).mono ?_); rintro e wt ⟨rfl, hbt⟩; have HBT : Hid (Below w1.heap.size w1 wt) := bl_trans (bl_drew (Below.refl _ _)) hbt; clear hbt))
      obtain ⟨_, Ac, cc, rfl, _, _⟩ := RdS.of_own HW1.out.sm.oc
      obtain ⟨m, hm⟩ : ∃ m, m = st.C.length := ⟨_, rfl⟩
      have HMC := Lib.hid hm
      have HWT := Lib.hid (HW1.out.below HBT.out)
      have HBXT := Lib.hid (HBX.out.below HBT.out HBX.out.lt)
      have s2 := HWT.out.sm.sb.cell 2
      have ls2 := HWT.out.sm.sb.lt
      have f2' := HWT.out.sm.sb.free 2
      rw [← hm] at s2
      have hoc := HWT.out.sm.oc
      rw [← hm] at hoc
      have HOC := Lib.hid hoc
      have hmb : m ≤ 2000000000 := by
        have h1 := atN_C (L := L) (name := nm) (id := id) (ph := ph) (dn := false) (n := k) (s := s.go)
        rw [← HST.out, ← hm] at h1
        have h2 : s.go.C.length = s.C.length := rfl
        have := HCL.out
        omega
      clear hm hoc
      have HB0 : Hid (B0 ≤ wt.heap.size) := Nat.le_trans HWT.out.sm.b0 (Nat.le_of_lt HWT.out.sm.sb.lt)
      have HBXN : Hid (bx ≠ Sb ∧ bx ≠ gg ∧ ∀ j, (Value.slice Ac m cc).ownBlock = some j → j ≠ bx) := by
        have h1 := HW.out.sm.sb.lt
        have h2 := (HW.out.sm.ea.fb (k := gg) (.inr (.inr rfl))).2
        have h3 := HBXW.out
        have h4 := HW.out.sm.oc
        rw [← HMC.out] at h4
        exact ⟨by omega, by omega, fun j hj => by have := (own_lt h4 hj).2; omega⟩
      have hb0 := HB0.out
      go_upto_region 7 with (at_builtin; refine wp_push rfl _ _ 67 rfl B0 130 Tryd.underlying67 inf_Call rfl (by decide) wt (.slice Ac m cc) m (st.C.flatMap callc) [.int .i64 (k : Int), .int .i64 (id : Int), .int .i64 ph] rfl rfl rfl HOC.out rfl (by simp [Value.oneCell']) (by omega) (by omega) hb0 ?_; intro v6 w6 hpush; obtain ⟨g6, c6, rfl, _, _⟩ := hpush.form; have hbs := HWT.out.sm.sb.grown hpush.grown (fun e => (HWT.out.sm.nc Sb (by rw [← HMC.out]; exact e.symm)).2 rfl); have t0 := hbs.cell 2; have t1 := hbs.free 2; have t2 := hbs.lt; have HPU := Lib.hid hpush; clear hpush hbs)
      obtain ⟨ws, hws⟩ : ∃ ws, ws = w6.setCell ⟨Sb, 2, none⟩ (.slice (some ⟨g6, 0, none⟩) (m + 1) c6) := ⟨_, rfl⟩
      rw [← hws]
      have hp7 := HPU.out
      rw [HMC.out] at hp7
      have HP : Hid (AtW B B0 E Sb nm (.slice (some ⟨gl, 0, none⟩) n cl) (.slice (some ⟨gg, 0, none⟩) n cg) vc (.slice (some ⟨g6, 0, none⟩) (m + 1) c6) L { st with C := st.C ++ [⟨k, id, ph⟩] } w ws) := by
        rw [hws]
        have hw := HWT.out.push hp7
        rw [← HMC.out] at hw
        exact hw
      have HBX2 : Hid (Bk ws bx 64 #[.int .i64 (id : Int), .string nm, .bool false, .bool f3, .bool f4, .bool f5, .bool f6, .bool f7]) := by
        rw [hws]
        exact (HBXT.out.grown HPU.out.grown (fun e => HBXN.out.2.2 bx e.symm rfl)).far (p := ⟨Sb, 2, none⟩) HBXN.out.1 _
      clear hws hp7 s2 ls2 f2' t0 t1 t2 le ls lx lgg hmb hb0
      have x3 := HBX2.out.cell 3
      have lx := HBX2.out.lt
      go_upto_if 70 with fail
      go_cut [71] (fun _ wx => Hid (AtW B B0 E Sb nm (.slice (some ⟨gl, 0, none⟩) n cl) (.slice (some ⟨gg, 0, none⟩) n cg) vc (.slice (some ⟨g6, 0, none⟩) (m + 1) c6) L { st with C := st.C ++ [⟨k, id, ph⟩], G := if f3 then st.G.set k true else st.G } w wx ∧ Bk wx bx 64 #[.int .i64 (id : Int), .string nm, .bool false, .bool f3, .bool f4, .bool f5, .bool f6, .bool f7]))
      case first =>
        have s0 := HP.out.sm.sb.cell 0
        have e1 := HP.out.sm.ea.root.cell 1
        cases f3
        case false =>
          go_wp2_with fail
          go_meet
          exact ⟨HP.out, HBX2.out⟩
        case true =>
          have hog := HP.out.sm.ea.og
          rw [← HN.out] at hog
          have hcg := hog.cells (g := gg) rfl k (.bool false) (by rw [List.getElem?_map, HG.out]; rfl)
          rw [add_none, Nat.zero_add] at hcg
          have fcg := own_free hog k
          clear hog
          go_wp2_with fail
          go_meet
          exact ⟨HP.out.gone, HBX2.out.far (p := ⟨gg, k, none⟩) HBXN.out.2.1 _⟩
      case rest =>
        obtain ⟨hp1, hbx1⟩ := hcut.out
        have HP1 := Lib.hid hp1
        have HBX3 := Lib.hid hbx1
        clear hcut hp1 hbx1 HP HBX2 x3 lx
        obtain ⟨wd, rfl⟩ : ∃ wd : World, wd = wc := ⟨_, rfl⟩
        have x4 := HBX3.out.cell 4
        have x7 := HBX3.out.cell 7
        have lx := HBX3.out.lt
        go_upto_region 9 with fail
        go_cut [86] (fun v86 wx => v86 = .bool (f7 && !f4) ∧ wx = wd)
        case first =>
          cases f7
          case false =>
            go_wp2_with fail
            go_meet
            exact ⟨rfl, rfl⟩
          case true =>
            go_wp2_with fail
            go_meet
            exact ⟨rfl, rfl⟩
        obtain ⟨rfl, rfl⟩ := hcut
        go_upto_if 86 with fail
        go_cut [87] (fun _ wx => Hid (AtW B B0 E Sb nm (.slice (some ⟨gl, 0, none⟩) n cl) (.slice (some ⟨gg, 0, none⟩) n cg) vc (.slice (some ⟨g6, 0, none⟩) (m + 1) c6) L { st with C := st.C ++ [⟨k, id, ph⟩], G := if f3 then st.G.set k true else st.G, free := st.free && !(f7 && !f4) } w wx ∧ Bk wx bx 64 #[.int .i64 (id : Int), .string nm, .bool false, .bool f3, .bool f4, .bool f5, .bool f6, .bool f7]))
        case first =>
          have s3 := HP1.out.sm.sb.cell 3
          have f3' := HP1.out.sm.sb.free 3
          have ls := HP1.out.sm.sb.lt
          by_cases hbb : (f7 && !f4) = true
          case neg =>
            have hbf : (f7 && !f4) = false := by simpa using hbb
            have HBF := Lib.hid hbf
            rw [hbf]
            clear hbb hbf
            go_wp2_with fail
            go_meet
            exact ⟨HP1.out.like rfl rfl (by show (st.free && !(f7 && !f4)) = st.free; rw [HBF.out]; simp), HBX3.out⟩
          case pos =>
            have HBF := Lib.hid hbb
            rw [hbb]
            clear hbb
            go_wp2_with fail
            go_meet
            exact ⟨HP1.out.bar.like rfl rfl (by show (st.free && !(f7 && !f4)) = false; rw [HBF.out]; simp), HBX3.out.far (p := ⟨Sb, 3, none⟩) HBXN.out.1 _⟩
        case rest =>
          obtain ⟨hp1, hbx1⟩ := hcut.out
          have HP2 := Lib.hid hp1
          have HBX4 := Lib.hid hbx1
          clear hcut hp1 hbx1 HP1 HBX3 x4 x7 lx
          obtain ⟨wf, rfl⟩ : ∃ wf : World, wf = wc := ⟨_, rfl⟩
          go_upto_region 11 with fail
          have x5 := HBX4.out.cell 5
          have x6 := HBX4.out.cell 6
          have lx := HBX4.out.lt
          have HFIN : Hid (AtW B B0 E Sb nm (.slice (some ⟨gl, 0, none⟩) n cl) (.slice (some ⟨gg, 0, none⟩) n cg) vc (.slice (some ⟨g6, 0, none⟩) (m + 1) c6) L (hearX ⟨(id : Int), nm, false, f3, f4, f5, f6, f7⟩ k id ph st) w wf) := HP2.out.like rfl rfl rfl
          cases f6
          case true =>
            have hend : atP L nm id ph false s = hearX ⟨(id : Int), nm, false, f3, f4, f5, true, f7⟩ k id ph st := by
              unfold atP
              rw [← HS2.out]
              exact atN_now_le (by rw [← HN.out]; exact hlt) (by rw [HS2.out]; rfl)
            have HEND := Lib.hid hend
            clear hend
            cases f5
            case false =>
              go_wp2_with fail
              go_ret2
              refine ⟨(.slice (some ⟨g6, 0, none⟩) (m + 1) c6), ?_, by rw [HEND.out]; exact HFIN.out⟩
              rw [HEND.out]; simp [hearX]
            case true =>
              go_wp2_with fail
              go_ret2
              refine ⟨(.slice (some ⟨g6, 0, none⟩) (m + 1) c6), ?_, by rw [HEND.out]; exact HFIN.out⟩
              rw [HEND.out]; simp [hearX]
          case false =>
            cases f5
            case false =>
              go_wp2_with fail
              go_roundw
              case rel => exact ⟨k + 1, (.slice (some ⟨g6, 0, none⟩) (m + 1) c6), _, by omega, by go_num, by simp [hearX], HS2.out.symm, rfl, HFIN.out⟩
              case measure => simp [intOf]; omega
            case true =>
              go_wp2_with fail
              go_roundw
              case rel => exact ⟨k + 1, (.slice (some ⟨g6, 0, none⟩) (m + 1) c6), _, by omega, by go_num, by simp [hearX], HS2.out.symm, rfl, HFIN.out⟩
              case measure => simp [intOf]; omega
end Go.Proofs.YtimlmekgapdkiaaDoor
