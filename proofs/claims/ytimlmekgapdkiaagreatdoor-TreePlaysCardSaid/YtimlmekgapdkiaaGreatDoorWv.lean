/- the document's Copy -/
import Derived.Test.YtimlmekgapdkiaaGreatDoorWu
import Derived.Test.YtimlmekgapdkiaaGreatDoorWg
import Derived.Test.YtimlmekgapdkiaaGreatDoorKh
namespace Go.Proofs.YtimlmekgapdkiaaGreatDoor
set_option linter.unusedVariables false
set_option linter.unusedSimpArgs false
open Go.RowKit Go.Cas

set_option maxRecDepth 100000 in
set_option maxHeartbeats 8000000 in
theorem c_rCopy_big {w : World} {B R n i Dm : Nat} {τ : Nat → Nat} {T : List Nod} {d : Nat → Nat} (h : RS B R T n τ w) (hW : WF T d) (hDm : ∀ k, k < T.length → d k ≤ Dm) (hT : T.length ≤ 400) (hi : i < T.length) (hi0 : i ≠ 0) (hlen : 400 < T.length + (und T (Dm + 1) i).length) :
    Calls Tryz.prog 36 #[.pointer (some ⟨R, 0, none⟩), .int .i64 (i : Int)] w (fun e w' => e = .returned (.tuple #[.int .i64 0, .int .i64 2]) ∧ Below w.heap.size w w') := by
  have HH := Lib.hid (c_rHas h i hi hT)
  have HU := Lib.hid (c_rUnderF hW hDm hT (Dm + 1) w i h hi (by omega))
  obtain ⟨N, hN⟩ : ∃ N, N = (und T (Dm + 1) i).length := ⟨_, rfl⟩
  have hNl : N ≤ 400 := by rw [hN]; exact Nat.le_trans (und_len hW _ i hi) hT
  have hNp : 0 < N := by rw [hN]; exact und_pos _ _ _
  obtain ⟨L, cap, tv, xs, M, h1, hM⟩ := h
  have hlM : M.length = T.length := by rw [← hM]; simp
  obtain ⟨m, hm⟩ : ∃ m, m = M.length := ⟨_, rfl⟩
  have hm4 : m ≤ 400 := by omega
  have hmN : (400 : Int) < ((m + N : Nat) : Int) := by omega
  have hwr : IntKind.i64.wrap ((m : Int) + (N : Int)) = ((m + N : Nat) : Int) := by rw [IntWalk.i64_in _ (by omega)]; simp
  have bi0 : ((i : Int) == 0) = false := by rw [beq_eq_false_iff_ne]; omega
  obtain ⟨g0, _⟩ := h1.heads
  rw [← hm] at g0
  have hr := h1.ltR
  have HG0 : Hid (∀ W', Below w.heap.size w W' → W'.cell? ⟨R, 0, none⟩ = some (.slice (some ⟨L, 0, none⟩) m cap) ∧ R < W'.heap.size) := fun W' hb => ⟨(hb.cell (p := ⟨R, 0, none⟩) hr).trans g0, Nat.lt_of_lt_of_le hr hb.size⟩
  have HN := Lib.hid hN
  clear h1 hM hlM hm hN g0 hr hW hDm hT hi hi0 hlen
  go_enter Tryz.func36, Tryz.ntmps36
  go_upto_region 7 with (first
    | (go_at_call 43; refine (HH.out).mono ?_; rintro e w' ⟨rfl, rfl⟩)
    | (go_at_call 19; refine (HU.out).mono ?_; rintro e w1 ⟨v, rfl, ho1, hb1⟩; rw [← HN.out] at ho1; obtain ⟨_, A1, c1, rfl, _, _⟩ := RdS.of_own ho1; have HB1 := Lib.hid hb1; clear ho1 hb1))
  obtain ⟨g0, hr⟩ := HG0.out _ HB1.out
  go_wp2_with fail
  go_ret2
  exact ⟨rfl, HB1.out⟩
set_option maxRecDepth 100000 in
set_option maxHeartbeats 16000000 in
theorem c_rCopy {w : World} {B R n i Dm : Nat} {τ : Nat → Nat} {xs : List Value} {T : List Nod} {d : Nat → Nat} (h : RSx B R T n xs τ w) (hW : WF T d) (hDm : ∀ k, k < T.length → d k ≤ Dm) (hT : T.length ≤ 400) (hF : FewT T) (hn : n ≤ 1000000) (hi : i < T.length) (hi0 : i ≠ 0) (hlen : T.length + (und T (Dm + 1) i).length ≤ 400) :
    Calls Tryz.prog 36 #[.pointer (some ⟨R, 0, none⟩), .int .i64 (i : Int)] w (fun e w' => e = .returned (.tuple #[.int .i64 (T.length : Int), .int .i64 0]) ∧ ROpX B R (rcA T (und T (Dm + 1) i) (und T (Dm + 1) i).length) T n xs τ w w') := by
  have HH := Lib.hid (c_rHas h.rs i hi hT)
  have HU := Lib.hid (c_rUnderF hW hDm hT (Dm + 1) w i h.rs hi (by omega))
  obtain ⟨l, hl⟩ : ∃ l, l = und T (Dm + 1) i := ⟨_, rfl⟩
  have hll : ∀ x ∈ l, x < T.length := fun x hx => (und_mem hW (Dm + 1) i hi x (by rw [← hl]; exact hx)).1
  have hlp : 0 < l.length := by rw [hl]; exact und_pos _ _ _
  rw [← hl] at HU hlen ⊢
  obtain ⟨N, hN⟩ : ∃ N, N = l.length := ⟨_, rfl⟩
  obtain ⟨L, cap, tv, M, h1, hM⟩ := h
  have hlM : M.length = T.length := by rw [← hM]; simp
  obtain ⟨m, hm⟩ : ∃ m, m = T.length := ⟨_, rfl⟩
  have HKP : Hid (∀ W', Below w.heap.size w W' → Calls Tryz.prog 51 #[.pointer (some ⟨R, 0, none⟩)] W' (KpRet B R L cap n xs τ M W')) := fun W' hb => c_rKeep (h1.below hb) (by omega) (hF.few hM) hn
  have hmp : 0 < m := by omega
  have hmN4 : m + N ≤ 400 := by omega
  have hmN : ¬ (400 : Int) < ((m + N : Nat) : Int) := by omega
  have hwr : IntKind.i64.wrap ((m : Int) + (N : Int)) = ((m + N : Nat) : Int) := by rw [IntWalk.i64_in _ (by omega)]; simp
  have bi0 : ((i : Int) == 0) = false := by rw [beq_eq_false_iff_ne]; omega
  obtain ⟨g0, _⟩ := h1.heads
  rw [hlM, ← hm] at g0
  have hr := h1.ltR
  have HG0 : Hid (∀ W', Below w.heap.size w W' → W'.cell? ⟨R, 0, none⟩ = some (.slice (some ⟨L, 0, none⟩) m cap) ∧ R < W'.heap.size) := fun W' hb => ⟨(hb.cell (p := ⟨R, 0, none⟩) hr).trans g0, Nat.lt_of_lt_of_le hr hb.size⟩
  have HN := Lib.hid hN
  have HM := Lib.hid hM
  have HLM := Lib.hid (hlM.trans hm.symm)
  have HMT := Lib.hid hm
  have HLL := Lib.hid hll
  have HFT := Lib.hid hF
  have HW := Lib.hid hW
  have H1 := Lib.hid h1
  have hNp : 0 < N := by omega
  clear h1 hM hlM hm hN g0 hr hW hDm hT hi hi0 hlen hl hlp hF hn hll
  go_enter Tryz.func36, Tryz.ntmps36
  go_upto_region 7 with (first
    | (go_at_call 43; refine (HH.out).mono ?_; rintro e w' ⟨rfl, rfl⟩)
    | (go_at_call 19; refine (HU.out).mono ?_; rintro e w1 ⟨v, rfl, ho1, hb1⟩; rw [← HN.out] at ho1; obtain ⟨gl, cl, rfl, _, _⟩ := ho1.form hNp; have HO1 := Lib.hid ho1; have HB1 := Lib.hid hb1; clear ho1 hb1))
  obtain ⟨g0, hr⟩ := HG0.out _ HB1.out
  go_upto_region 10 with (go_at_call 51; refine (HKP.out _ HB1.out).mono ?_; rintro e w2 ⟨⟨u, rfl⟩, tv2, v2, τ2, hi2, hkd⟩; have HKD := Lib.hid (hkd.pre HB1.out (fun k hk => (H1.out.tB k hk).2)); have H2 := Lib.hid hkd.rt; have HKW := Lib.hid hkd.kp; have HLT1 := Lib.hid hkd.lt; clear hkd)
  have hτ0 : ∀ k, w.heap.size ≤ k → ¬ τ k ≠ 0 := fun k hk e => by have := (H1.out.tB k e).2; omega
  have HO2 : Hid (w2.ownsRow w.heap.size 3 1 (.slice (some ⟨gl, 0, none⟩) N cl) N (kic l)) := own_keep HO1.out (fun k hk => HKW.out.block k (own_lt HO1.out hk).2 (hτ0 k (own_lt HO1.out hk).1))
  have HTL : Hid (τ2 gl = 0) := by
    unfold Hid
    refine Decidable.byContradiction fun e => ?_
    have h1 := own_lt HO1.out (k := gl) rfl
    exact hτ0 gl h1.1 (HLT1.out gl h1.2 e)
  have HC0 : Hid (CpL B R (n + 1) tv2 (xs ++ [v2]) τ2 T T w2 w2) := ⟨_, _, _, _, _, RC.start H2.out (HLM.out.trans HMT.out) (by have := HMT.out; omega), HM.out, fun _ _ e => e, Kept.refl _ _⟩
  obtain ⟨p0, _⟩ := H2.out.heads
  rw [HLM.out] at p0
  have pr := H2.out.ltR
  clear hτ0 g0 hr
  go_upto_region 11 with fail
  go_wp2_with fail
  go_loopw [9] (fun v wr => ∃ a : Nat, a ≤ N ∧ v = .int .i64 (a : Int) ∧ Hid (CpL B R (n + 1) tv2 (xs ++ [v2]) τ2 T (rcA T l a) w2 wr)) (fun v _ => N - (intOf v).toNat)
  case atStart => exact ⟨0, by omega, rfl, HC0.out⟩
  case round =>
    obtain ⟨a, ha, rfl, HC⟩ := hrel
    obtain ⟨w3, rfl⟩ : ∃ w3 : World, w3 = wr := ⟨_, rfl⟩
    by_cases hlt : a < N
    · have hai : (a : Int) < (N : Int) := by omega
      obtain ⟨L3, cap3, τ3, σ3, M3, h3, hm3, hlt3, hk3⟩ := HC.out
      obtain ⟨x, hx⟩ : ∃ x, l[a]? = some x := ⟨_, List.getElem?_eq_getElem (by have := HN.out; omega)⟩
      have hxT := HLL.out x (List.mem_of_getElem? hx)
      have hM3l : M3.length = m + a := by
        have := congrArg List.length hm3
        rw [List.length_map, rcA_len, ← HMT.out] at this; exact this
      obtain ⟨y, hy, hyx⟩ := nv_get hm3 (ndA_get (i := x) (by rw [rcA_len]; omega))
      rw [(rcA_ext T l a).eq x hxT] at hyx
      obtain ⟨q, hq⟩ : ∃ q, q = m + a := ⟨_, rfl⟩
      obtain ⟨p0, _, pf, _⟩ := h3.rt.heads
      rw [hM3l, ← hq] at p0
      obtain ⟨⟨a0, a1, a2⟩, a3, a4, a5⟩ := h3.rt.cell hy
      have hr3 := h3.rt.ltR
      have hrL := h3.rt.ltL
      have ho3 := own_keep HO2.out (fun k hk => hk3.block k (own_lt HO2.out hk).2 (fun e => e (by obtain rfl : gl = k := Option.some.inj hk; exact HTL.out)))
      have c0 := ho3.cells (g := gl) rfl a (.int .i64 (x : Int)) (by unfold kic; rw [List.getElem?_map, hx]; rfl)
      rw [add_none, Nat.zero_add] at c0
      have hgl : gl < w3.heap.size := (own_lt ho3 (k := gl) rfl).2
      have HYA := Lib.hid (RdS.of_own (h3.rt.at_ x y hy))
      have HYK := Lib.hid ((h3.rt.ki x y hy).toS (lim := w3.heap.size) (fun k hz => (h3.rt.tB k (by rw [show τ3 k = 4 from hz]; omega)).2))
      obtain ⟨_, Aa, ca, hva, _, _⟩ := HYA.out
      obtain ⟨_, Ak, ck, hvk, _, _⟩ := HYK.out
      obtain ⟨xk, hxk⟩ : ∃ q, q = y.x.k := ⟨_, rfl⟩
      obtain ⟨xt, hxt⟩ : ∃ q, q = y.x.tag := ⟨_, rfl⟩
      obtain ⟨xx, hxx⟩ : ∃ q, q = y.x.txt := ⟨_, rfl⟩
      obtain ⟨xp, hxp⟩ : ∃ q, q = y.x.pa := ⟨_, rfl⟩
      obtain ⟨na, hna⟩ : ∃ q, q = y.x.at_.length := ⟨_, rfl⟩
      obtain ⟨nk, hnk⟩ : ∃ q, q = y.x.ki.length := ⟨_, rfl⟩
      obtain ⟨la, hla⟩ : ∃ q, q = atc y.x.at_ := ⟨_, rfl⟩
      have HOA : Hid (∀ u ∈ la, u.oneCell' = true) := by rw [hla]; exact one_atc _
      have hn1 : na ≤ 1000000 := by rw [hna, hyx]; exact (HFT.out _ (List.mem_of_getElem? (ndA_get hxT))).1
      rw [hva] at a3 HYA
      rw [hvk] at a5 HYK
      rw [← hxk] at a0; rw [← hxt] at a1; rw [← hxx] at a2; rw [← hxp] at a4; rw [← hna] at a3; rw [← hnk] at a5
      rw [← hna, ← hla] at HYA
      have HXA := Lib.hid (And.intro hxk (And.intro hxt (And.intro hxx hxp)))
      have HXB := Lib.hid (And.intro hna hla)
      have HY := Lib.hid hy
      have HYX := Lib.hid hyx
      have H3 := Lib.hid h3
      have HM3 := Lib.hid hm3
      have HL3 := Lib.hid hlt3
      have HK3 := Lib.hid hk3
      have HML := Lib.hid hM3l
      have HQ := Lib.hid hq
      have HX := Lib.hid hx
      have hxq : (x : Int) < (q : Int) := by have := HMT.out; omega
      have h0x : 0 ≤ (x : Int) := by omega
      have hbz : w2.heap.size ≤ w3.heap.size := hk3.size
      clear h3 hm3 hlt3 hk3 hx hxT hM3l hy hyx hq ho3 hva hvk hxk hxt hxx hxp hna hnk hla HYK HC
      obtain ⟨bn, hbn⟩ : ∃ bn, bn = w3.heap.size := ⟨_, rfl⟩
      have HBN := Lib.hid hbn
      have HKX : Hid (∀ W', Below w3.heap.size w3 W' → (W'.cell? ⟨R, 0, none⟩ = some (.slice (some ⟨L3, 0, none⟩) q cap3) ∧ W'.cell? ⟨gl, a, none⟩ = some (.int .i64 (x : Int)) ∧ W'.cell? ⟨L3, x * 6, none⟩ = some (.int .i64 xk) ∧ W'.cell? ⟨L3, x * 6 + 1, none⟩ = some (.string xt) ∧ W'.cell? ⟨L3, x * 6 + 2, none⟩ = some (.string xx) ∧ W'.cell? ⟨L3, x * 6 + 3, none⟩ = some (.slice Aa na ca) ∧ W'.cell? ⟨L3, x * 6 + 4, none⟩ = some (.int .i64 xp) ∧ W'.cell? ⟨L3, x * 6 + 5, none⟩ = some (.slice Ak nk ck))) := fun W' hb =>
        ⟨(hb.cell (p := ⟨R, 0, none⟩) hr3).trans p0, (hb.cell (p := ⟨gl, a, none⟩) hgl).trans c0, (hb.cell (p := ⟨L3, _, none⟩) hrL).trans a0, (hb.cell (p := ⟨L3, _, none⟩) hrL).trans a1, (hb.cell (p := ⟨L3, _, none⟩) hrL).trans a2, (hb.cell (p := ⟨L3, _, none⟩) hrL).trans a3, (hb.cell (p := ⟨L3, _, none⟩) hrL).trans a4, (hb.cell (p := ⟨L3, _, none⟩) hrL).trans a5⟩
      clear hbn
      go_upto_region 14 with fail
      go_cut [10] (fun v10 wx => v10 = .pointer (some ⟨bn, 0, none⟩) ∧ Hid (Below w3.heap.size w3 wx ∧ Bk wx bn 46 #[.int .i64 xk, .string xt, .string xx, .slice Aa na ca, .int .i64 xp, .slice Ak nk ck]))
      case first =>
        go_region_held3 (fun W' => W'.cell? ⟨R, 0, none⟩ = some (.slice (some ⟨L3, 0, none⟩) q cap3) ∧ W'.cell? ⟨gl, a, none⟩ = some (.int .i64 (x : Int)) ∧ W'.cell? ⟨L3, x * 6, none⟩ = some (.int .i64 xk) ∧ W'.cell? ⟨L3, x * 6 + 1, none⟩ = some (.string xt) ∧ W'.cell? ⟨L3, x * 6 + 2, none⟩ = some (.string xx) ∧ W'.cell? ⟨L3, x * 6 + 3, none⟩ = some (.slice Aa na ca) ∧ W'.cell? ⟨L3, x * 6 + 4, none⟩ = some (.int .i64 xp) ∧ W'.cell? ⟨L3, x * 6 + 5, none⟩ = some (.slice Ak nk ck))
          (first | exact HKX.out _ (Below.refl _ _) | exact HKX.out _ (bl_drew (Below.refl _ _)) | exact HKX.out _ (bl_drew (bl_alloc (Below.refl _ _) _)) | exact HKX.out _ (bl_set (bl_drew (bl_alloc (Below.refl _ _) _)) _ _ (by simp) _))
          (fail)
        all_goals
          go_wp2_with fail
          go_meet
          exact ⟨by rw [HBN.out], bl_drew (bl_alloc (Below.refl _ _) _), Bk.drew (bk_new' _ _ _ HBN.out)⟩
      case rest =>
        obtain ⟨rfl, hmid⟩ := hcut
        obtain ⟨hb4, hbn4⟩ := hmid.out
        obtain ⟨w4, rfl⟩ : ∃ w4 : World, w4 = wc := ⟨_, rfl⟩
        have e0 := hbn4.cell 0; have e1 := hbn4.cell 1; have e2 := hbn4.cell 2; have e3 := hbn4.cell 3
        have lb4 := hbn4.lt
        have HBN4 := Lib.hid hbn4
        have HB4 := Lib.hid hb4
        clear hmid hbn4 hb4 p0 c0 a0 a1 a2 a3 a4 a5 HKX pf hr3 hrL hgl
        go_upto_region 16 with fail
        obtain ⟨bc, hbc⟩ : ∃ bc, bc = w4.heap.size := ⟨_, rfl⟩
        obtain ⟨w5, hw5⟩ : ∃ w5, w5 = w4.alloc (.cells #[.int .i64 xk, .string xt, .string xx, .slice none 0 0, .int .i64 (-1), .slice none 0 0] 46) := ⟨_, rfl⟩
        have hbk : Bk w5 bc 46 #[.int .i64 xk, .string xt, .string xx, .slice none 0 0, .int .i64 (-1), .slice none 0 0] := by rw [hw5, hbc]; exact Bk.new _ _ _
        have hbl : Below w4.heap.size w4 w5 := by rw [hw5]; exact bl_alloc (Below.refl _ _) _
        rw [← hw5, ← hbc]
        have HBC := Lib.hid hbk
        have HB5 := Lib.hid hbl
        have HBE := Lib.hid hbc
        have f3 := hbk.cell 3
        have f4 := hbk.free 3
        have lbc := hbk.lt
        have e3' := (HBN4.out.below hbl HBN4.out.lt).cell 3
        have lb5 : bn < w5.heap.size := Nat.lt_of_lt_of_le lb4 hbl.size
        have hz5 : w3.heap.size ≤ w5.heap.size := Nat.le_trans HB4.out.size hbl.size
        clear hw5 hbc hbk hbl e0 e1 e2 e3 lb4
        go_upto_region 17 with (at_builtin; refine wp_spread rfl _ _ 37 rfl w3.heap.size 79 Tryz.underlying37 inf_A rfl (by omega) (.slice none 0 0) 0 [] rfl (World.ownsRow_nil _ _ _ _) w3.heap.size (.slice Aa na ca) na la rfl (HYA.out.below (bl_trans HB4.out HB5.out)) HOA.out (by unfold maxLen; omega) (by omega) hz5 ?_; intro v6 w6 hown6 hgrow6 hat6; rw [Nat.zero_add, List.nil_append] at hown6; obtain ⟨_, A6, c6, rfl, _, _⟩ := RdS.of_own hown6; have HO6 := Lib.hid hown6; have HA6 : Hid (∀ q, (Value.slice A6 na c6).ownBlock = some q → q = w5.heap.size) := (fun q e => by rcases hat6 with e2 | e2; (· rw [e2] at e; cases e); (· rw [e2] at e; injection e with e; exact e.symm)); have HG6 := Lib.hid hgrow6; have hbk6 := HBC.out.grown hgrow6 (by simp [Value.ownBlock]); have HBK6 := Lib.hid hbk6; have q3 := hbk6.cell 3; have q4 := hbk6.free 3; have q5 := hbk6.lt; clear hown6 hgrow6 hat6 hbk6)
        obtain ⟨w7, hw7⟩ : ∃ w7, w7 = w6.setCell ⟨bc, 3, none⟩ (.slice A6 na c6) := ⟨_, rfl⟩
        have hbk7 : Bk w7 bc 46 #[.int .i64 xk, .string xt, .string xx, .slice A6 na c6, .int .i64 (-1), .slice none 0 0] := by rw [hw7]; exact HBK6.out.set_ 3 _
        have hbl4 : Below w4.heap.size w4 w7 := by rw [hw7]; exact bl_set (HB5.out.grown HG6.out HB5.out.size (fun k hk => by simp [Value.ownBlock] at hk)) bc 3 (by rw [HBE.out]; exact Nat.le_refl _) _
        have hbl7 : Below w3.heap.size w3 w7 := bl_trans HB4.out hbl4
        have hs7 : w7.heap.size = w6.heap.size := by rw [hw7]; simp [World.setCell]
        have HA7 : Hid (w7.ownsRow w3.heap.size 79 2 (.slice A6 na c6) na la) := own_keep HO6.out (fun q hq => by rw [hw7]; exact Below.heap_setCell _ ⟨bc, 3, none⟩ _ q (fun e => by have h1 := HA6.out q hq; have h2 := HBC.out.lt; have e2 : q = bc := e; omega))
        have HFA : Hid (∀ q, (Value.slice A6 na c6).ownBlock = some q → w3.heap.size ≤ q ∧ q < w7.heap.size ∧ q ≠ bc) := fun q hq => by
          have h1 := HA6.out q hq; have h2 := HBC.out.lt; have h3 := own_lt HO6.out hq
          exact ⟨h3.1, by rw [hs7]; exact h3.2, by omega⟩
        have HBN7 : Hid (Bk w7 bn 46 #[.int .i64 xk, .string xt, .string xx, .slice Aa na ca, .int .i64 xp, .slice Ak nk ck] ∧ bn ≠ bc ∧ w3.heap.size ≤ bn ∧ bn < w7.heap.size) := ⟨HBN4.out.below hbl4 HBN4.out.lt, by have := HBN4.out.lt; rw [HBE.out]; omega, by rw [HBN.out]; exact Nat.le_refl _, Nat.lt_of_lt_of_le HBN4.out.lt hbl4.size⟩
        have HJ0 : Hid (CpJ B R L3 cap3 (n + 1) tv2 (xs ++ [v2]) τ3 σ3 M3 τ2 T (rcA T l a) bc w3.heap.size w7.heap.size #[.int .i64 xk, .string xt, .string xx, .slice A6 na c6, .int .i64 (-1), .slice none 0 0] w2 w7 w7) :=
          ⟨H3.out.below hbl7, HM3.out, HL3.out, HK3.out.then_ (Kept.of_below hbl7 (fun _ => False)) (fun _ _ e => e.elim), fun k h1 h2 => Decidable.byContradiction fun e => by (have := (H3.out.rt.tB k e).2; omega), Nat.le_refl _, ⟨hbz, by rw [HBE.out]; exact HB4.out.size, hbk7.lt⟩, fun _ _ _ _ => rfl, hbk7⟩
        rw [← hw7]
        clear hw7 hbk7 hbl4 hbl7 hs7 q3 q4 q5 f3 f4 lbc e3' lb5 hz5 HBK6 HG6 HO6 HA6 HBN4 HB4 HB5 HBC HC0
        go_wp2_with fail
        go_loopw [12] (fun v wx => ∃ k : Nat, k ≤ a ∧ v = .int .i64 (k : Int) ∧ Hid (∃ L cap τ σ M, CpJ B R L cap (n + 1) tv2 (xs ++ [v2]) τ σ M τ2 T (rcI T.length l xp a k (rcA T l a)).1 bc w3.heap.size w7.heap.size #[.int .i64 xk, .string xt, .string xx, .slice A6 na c6, .int .i64 (rcI T.length l xp a k (rcA T l a)).2, .slice none 0 0] w2 w7 wx)) (fun v _ => a - (intOf v).toNat)
        case atStart => exact ⟨0, by omega, rfl, _, _, _, _, _, HJ0.out⟩
        case round =>
          obtain ⟨k, hk, rfl, HJ⟩ := hrel
          obtain ⟨L5, cap5, τ5, σ5, M5, hj⟩ := HJ.out
          have hM5l : M5.length = q := by
            have := congrArg List.length hj.mp
            rw [List.length_map, rcI_len, rcA_len, ← HMT.out, ← HQ.out] at this; exact this
          obtain ⟨p0, _, pf, _⟩ := hj.rc.rt.heads
          rw [hM5l] at p0
          have hr5 := hj.rc.rt.ltR
          have hrL5 := hj.rc.rt.ltL
          have HJ5 := Lib.hid hj
          have HM5 := Lib.hid hM5l
          by_cases hka : k < a
          · have hkai : (k : Int) < (a : Int) := by omega
            obtain ⟨z, hz⟩ : ∃ z, l[k]? = some z := ⟨_, List.getElem?_eq_getElem (by have := HN.out; omega)⟩
            have ho5 := own_keep HO2.out (fun i hi => hj.kp.block i (own_lt HO2.out hi).2 (fun e => e (by obtain rfl : gl = i := Option.some.inj hi; exact HTL.out)))
            have c0 := ho5.cells (g := gl) rfl k (.int .i64 (z : Int)) (by unfold kic; rw [List.getElem?_map, hz]; rfl)
            rw [add_none, Nat.zero_add] at c0
            have hgl := (own_lt ho5 (k := gl) rfl).2
            have hbnx : Bk wr bn 46 #[.int .i64 xk, .string xt, .string xx, .slice Aa na ca, .int .i64 xp, .slice Ak nk ck] := (hj.sm bn HBN7.out.2.2.1 HBN7.out.2.2.2 HBN7.out.2.1).trans HBN7.out.1
            have n4 := hbnx.cell 4
            have lbn := hbnx.lt
            by_cases hzp : (z : Int) = xp
            · have HS : Hid (rcI T.length l xp a (k + 1) (rcA T l a) = (att T.length k (T.length + a) (rcI T.length l xp a k (rcA T l a)).1, ((T.length + k : Nat) : Int))) := by
                unfold Hid
                rw [rcI, if_pos (by rw [getD_of hz]; exact hzp)]
              obtain ⟨y5, hy5, hyx5⟩ := nv_get hj.mp (ndA_get (i := m + k) (by rw [rcI_len, rcA_len]; have := HMT.out; omega))
              obtain ⟨hown5, htag5⟩ := hj.rc.new (m + k) y5 hy5 (by have := HMT.out; omega)
              obtain ⟨_, Ak5, ck5, hvk5, _, _⟩ := RdS.of_own hown5
              obtain ⟨nk5, hnk5⟩ : ∃ nk5, nk5 = y5.x.ki.length := ⟨_, rfl⟩
              obtain ⟨Kk, hKk⟩ : ∃ Kk, Kk = y5.x.ki := ⟨_, rfl⟩
              rw [← hnk5] at hvk5
              rw [hvk5, ← hnk5, ← hKk] at hown5
              rw [hvk5] at htag5
              have hnk6 : nk5 ≤ 1000000 := by
                have h1 := rcI_ki (l := l) (pa := xp) (a := a) k _ (rcA_ki T l a (by omega)) (m + k) (by have := HMT.out; omega)
                rw [hnk5, hyx5]
                have h2 : a * 400 ≤ 400 * 400 := Nat.mul_le_mul_right _ (by omega)
                omega
              subst hzp
              have hqa := HQ.out
              obtain ⟨j, hj0⟩ : ∃ j, j = m + k := ⟨_, rfl⟩
              rw [← hj0] at hy5 hyx5 htag5
              have hwk : IntKind.i64.wrap ((m : Int) + (k : Int)) = (j : Int) := by rw [IntWalk.i64_in _ (by omega)]; omega
              have hwa : IntKind.i64.wrap ((m : Int) + (a : Int)) = (q : Int) := by rw [IntWalk.i64_in _ (by omega)]; omega
              have hmkq : (j : Int) < (q : Int) := by omega
              have h0mk : 0 ≤ (j : Int) := by omega
              have HJM := Lib.hid hj0
              have HY5 := Lib.hid hy5
              have HYX5 := Lib.hid hyx5
              have HVK5 := Lib.hid hvk5
              have HNK5 := Lib.hid hnk5
              have HKK5 := Lib.hid hKk
              have HTG5 := Lib.hid htag5
              have HOW5 := Lib.hid hown5
              clear hj0 hqa hz ho5 hbnx hy5 hyx5 hvk5 hnk5 hKk htag5 hown5 hj hM5l HJ HJ0 HBN7
              go_upto_region 20 with fail
              go_quiet (fail)
              obtain ⟨w8, hw8⟩ : ∃ w8, w8 = wr.drewN nq := ⟨_, rfl⟩
              rw [← hw8]
              have HJ8 := Lib.hid (HJ5.out.below (w' := w8) (by rw [hw8]; exact bl_drewN (Below.refl _ _) _))
              have f4 := HJ8.out.bk.free 4
              have f5 := HJ8.out.bk.cell 4
              have lbc := HJ8.out.bk.lt
              have HOW8 : Hid (w8.ownsRow B 3 1 (.slice Ak5 nk5 ck5) nk5 (kic Kk)) := own_keep HOW5.out (fun _ _ => by rw [hw8]; rfl)
              clear hw8 c0 n4 lbn hgl p0 pf hr5 hrL5
              go_upto_region 22 with fail
              obtain ⟨w9, hw9⟩ : ∃ w9, w9 = w8.setCell ⟨bc, 4, none⟩ (.int .i64 (j : Int)) := ⟨_, rfl⟩
              rw [← hw9]
              have HJ9 : Hid (CpJ B R L5 cap5 (n + 1) tv2 (xs ++ [v2]) τ5 σ5 M5 τ2 T (rcI T.length l (z : Int) a k (rcA T l a)).1 bc w3.heap.size w7.heap.size #[.int .i64 xk, .string xt, .string xx, .slice A6 na c6, .int .i64 (j : Int), .slice none 0 0] w2 w7 w9) := by rw [hw9]; exact HJ8.out.setC 4 _
              have HOW9 : Hid (w9.ownsRow B 3 1 (.slice Ak5 nk5 ck5) nk5 (kic Kk)) := own_keep HOW8.out (fun i hi => by
                rw [hw9]
                exact Below.heap_setCell w8 ⟨bc, 4, none⟩ _ i (fun e => by
                  have h1 := (HTG5.out i hi).1
                  have h2 := HJ8.out.zr bc HJ8.out.bd.2.1 HJ8.out.bd.2.2
                  rw [show i = bc from e] at h1; omega))
              obtain ⟨yv, hyv⟩ : ∃ yv, yv = Value.slice Ak5 nk5 ck5 := ⟨_, rfl⟩
              have hp9 := HJ9.out.rc.rt.heads.1
              rw [HM5.out] at hp9
              have hc9 := (HJ9.out.rc.rt.cell HY5.out).2.2.2
              rw [HVK5.out] at hc9
              have hR9 : (Value.slice Ak5 nk5 ck5).ownBlock ≠ some R := fun e => by have h1 := (HTG5.out R e).1; have h2 := HJ9.out.rc.rt.tR; omega
              have hL9 : (Value.slice Ak5 nk5 ck5).ownBlock ≠ some L5 := fun e => by have h1 := (HTG5.out L5 e).1; have h2 := HJ9.out.rc.rt.tL; omega
              have hrR := HJ9.out.rc.rt.ltR
              have hrL := HJ9.out.rc.rt.ltL
              have hfr := HJ9.out.rc.rt.free (j * 6 + 5)
              have HKS : Hid (∀ W', Kept w9 W' (fun i => (Value.slice Ak5 nk5 ck5).ownBlock = some i) → (W'.cell? ⟨R, 0, none⟩ = some (.slice (some ⟨L5, 0, none⟩) q cap5) ∧ W'.cell? ⟨L5, j * 6 + 5, none⟩ = some (.slice Ak5 nk5 ck5))) := fun W' hk =>
                ⟨(World.cell?_of_block (a := ⟨R, 0, none⟩) (hk.block R hrR hR9)).trans hp9, (World.cell?_of_block (a := ⟨L5, j * 6 + 5, none⟩) (hk.block L5 hrL hL9)).trans hc9⟩
              have HFZ : Hid (∀ W', Kept w9 W' (fun i => (Value.slice Ak5 nk5 ck5).ownBlock = some i) → (W'.frozen? ⟨L5, j * 6 + 5, none⟩ = false ∧ L5 < W'.heap.size ∧ R < W'.heap.size)) := fun W' hk => by
                refine ⟨?_, Nat.lt_of_lt_of_le hrL hk.size, Nat.lt_of_lt_of_le hrR hk.size⟩
                have h1 := hk.block L5 hrL hL9
                unfold World.frozen? at hfr ⊢
                rw [h1]; exact hfr
              have hB9 : B ≤ w9.heap.size := HJ9.out.rc.rt.hB
              clear hw9 hyv yv hR9 hL9 f4 f5 lbc HJ8 HOW8 HJ5 HOW5
              refine wp_regionE (S := (fun W' => W'.cell? ⟨R, 0, none⟩ = some (.slice (some ⟨L5, 0, none⟩) q cap5) ∧ W'.cell? ⟨L5, j * 6 + 5, none⟩ = some (.slice Ak5 nk5 ck5))) [24] (by kernel_rfl) ?_ (fun hHeld => ?_)
              · (try dsimp only)
                (first | with_reducible exact HKS.out _ (Kept.refl _ _) | with_reducible exact HKS.out _ (Kept.refl _ _).drew | with_reducible exact HKS.out _ ((Kept.refl _ _).alloc _).drew | with_reducible exact HKS.out _ HK10.out)
              refine wpAnyE_take0 (i := 0) (v := ?_) rfl (by kernel_rfl) (by kernel_rfl) (by kernel_rfl) (by kernel_rfl) (fun _ _ _ h => h) (Or.inl ⟨by rfl, ?_⟩) (fun _ => by assumption) ?_
              rotate_left
              · ((intro w hSw; clear hSw; go_simp); (try with_reducible rfl))
              try simp only [Act.put, List.setIfInBounds_toArray, List.set_cons_zero, List.set_cons_succ]
              refine wpAnyE_take0 (i := 1) (v := ?_) rfl (by kernel_rfl) (by kernel_rfl) (by kernel_rfl) (by kernel_rfl) (fun _ _ _ h => h) (Or.inl ⟨by rfl, ?_⟩) (fun _ => by assumption) ?_
              rotate_left
              · ((intro w hSw; clear hSw; go_simp); (try with_reducible rfl))
              try simp only [Act.put, List.setIfInBounds_toArray, List.set_cons_zero, List.set_cons_succ]
              refine wpAnyE_take0 (i := 2) (v := ?_) rfl (by kernel_rfl) (by kernel_rfl) (by kernel_rfl) (by kernel_rfl) (fun _ _ _ h => h) (Or.inl ⟨by rfl, ?_⟩) (fun _ => by assumption) ?_
              rotate_left
              · ((intro w hSw; clear hSw; go_simp); (try with_reducible rfl))
              try simp only [Act.put, List.setIfInBounds_toArray, List.set_cons_zero, List.set_cons_succ]
              refine wpAnyE_take (i := 3) (v := ?_) rfl (by kernel_rfl) (by kernel_rfl) (by kernel_rfl) (by kernel_rfl) (fun _ _ _ h => h) (Or.inl ⟨by rfl, ?_⟩) (by assumption) ?_
              rotate_left
              · ((intro w hSw; (try dsimp only at hSw); go_simp); (try with_reducible rfl))
              try simp only [Act.put, List.setIfInBounds_toArray, List.set_cons_zero, List.set_cons_succ]
              refine wpAnyE_take0 (i := 4) (v := ?_) rfl (by kernel_rfl) (by kernel_rfl) (by kernel_rfl) (by kernel_rfl) (fun _ _ _ h => h) (Or.inl ⟨by rfl, ?_⟩) (fun _ => by assumption) ?_
              rotate_left
              · ((intro w hSw; clear hSw; go_simp); (try with_reducible rfl))
              try simp only [Act.put, List.setIfInBounds_toArray, List.set_cons_zero, List.set_cons_succ]
              refine wpAnyE_take0 (i := 5) (v := ?_) rfl (by kernel_rfl) (by kernel_rfl) (by kernel_rfl) (by kernel_rfl) (fun _ _ _ h => h) (Or.inl ⟨by rfl, ?_⟩) (fun _ => by assumption) ?_
              rotate_left
              · ((intro w hSw; clear hSw; go_simp); (try with_reducible rfl))
              try simp only [Act.put, List.setIfInBounds_toArray, List.set_cons_zero, List.set_cons_succ]
              refine wpAnyE_take0 (i := 6) (v := (.int .i64 (j : Int))) rfl (by kernel_rfl) (by kernel_rfl) (by kernel_rfl) (by kernel_rfl) (fun _ _ _ h => h) (Or.inl ⟨by rfl, ?_⟩) (fun _ => by assumption) ?_
              skip
              · ((intro w hSw; clear hSw; go_simp); (try rw [hwk]))
              try simp only [Act.put, List.setIfInBounds_toArray, List.set_cons_zero, List.set_cons_succ]
              refine wpAnyE_take0 (i := 7) (v := ?_) rfl (by kernel_rfl) (by kernel_rfl) (by kernel_rfl) (by kernel_rfl) (fun _ _ _ h => h) (Or.inl ⟨by rfl, ?_⟩) (fun _ => by assumption) ?_
              rotate_left
              · ((intro w hSw; clear hSw; go_simp); (try with_reducible rfl))
              try simp only [Act.put, List.setIfInBounds_toArray, List.set_cons_zero, List.set_cons_succ]
              refine wpAnyE_take0 (i := 8) (v := ?_) rfl (by kernel_rfl) (by kernel_rfl) (by kernel_rfl) (by kernel_rfl) (fun _ _ _ h => h) (Or.inl ⟨by rfl, ?_⟩) (fun _ => by assumption) ?_
              rotate_left
              · ((intro w hSw; clear hSw; go_simp); (try with_reducible rfl))
              try simp only [Act.put, List.setIfInBounds_toArray, List.set_cons_zero, List.set_cons_succ]
              refine wpAnyE_take0 (i := 9) (v := ?_) rfl (by kernel_rfl) (by kernel_rfl) (by kernel_rfl) (by kernel_rfl) (fun _ _ _ h => h) (Or.inl ⟨by rfl, ?_⟩) (fun _ => by assumption) ?_
              rotate_left
              · ((intro w hSw; clear hSw; go_simp); (try with_reducible rfl))
              try simp only [Act.put, List.setIfInBounds_toArray, List.set_cons_zero, List.set_cons_succ]
              refine wpAnyE_take (i := 10) (v := ?_) rfl (by kernel_rfl) (by kernel_rfl) (by kernel_rfl) (by kernel_rfl) (fun _ _ _ h => h) (Or.inl ⟨by rfl, ?_⟩) (by assumption) ?_
              rotate_left
              · ((intro w hSw; (try dsimp only at hSw); go_simp); (try with_reducible rfl))
              try simp only [Act.put, List.setIfInBounds_toArray, List.set_cons_zero, List.set_cons_succ]
              refine wpAnyE_take0 (i := 11) (v := ?_) rfl (by kernel_rfl) (by kernel_rfl) (by kernel_rfl) (by kernel_rfl) (fun _ _ _ h => h) (Or.inl ⟨by rfl, ?_⟩) (fun _ => by assumption) ?_
              rotate_left
              · ((intro w hSw; clear hSw; go_simp); (try with_reducible rfl))
              try simp only [Act.put, List.setIfInBounds_toArray, List.set_cons_zero, List.set_cons_succ]
              refine wpAnyE_take0 (i := 12) (v := ?_) rfl (by kernel_rfl) (by kernel_rfl) (by kernel_rfl) (by kernel_rfl) (fun _ _ _ h => h) (Or.inl ⟨by rfl, ?_⟩) (fun _ => by assumption) ?_
              rotate_left
              · ((intro w hSw; clear hSw; go_simp); (try with_reducible rfl))
              try simp only [Act.put, List.setIfInBounds_toArray, List.set_cons_zero, List.set_cons_succ]
              refine wpAnyE_take0 (i := 13) (v := (.int .i64 (j : Int))) rfl (by kernel_rfl) (by kernel_rfl) (by kernel_rfl) (by kernel_rfl) (fun _ _ _ h => h) (Or.inl ⟨by rfl, ?_⟩) (fun _ => by assumption) ?_
              skip
              · ((intro w hSw; clear hSw; go_simp); (try rw [hwk]))
              try simp only [Act.put, List.setIfInBounds_toArray, List.set_cons_zero, List.set_cons_succ]
              refine wpAnyE_take0 (i := 14) (v := ?_) rfl (by kernel_rfl) (by kernel_rfl) (by kernel_rfl) (by kernel_rfl) (fun _ _ _ h => h) (Or.inl ⟨by rfl, ?_⟩) (fun _ => by assumption) ?_
              rotate_left
              · ((intro w hSw; clear hSw; go_simp); (try with_reducible rfl))
              try simp only [Act.put, List.setIfInBounds_toArray, List.set_cons_zero, List.set_cons_succ]
              refine wpAnyE_take0 (i := 15) (v := ?_) rfl (by kernel_rfl) (by kernel_rfl) (by kernel_rfl) (by kernel_rfl) (fun _ _ _ h => h) (Or.inl ⟨by rfl, ?_⟩) (fun _ => by assumption) ?_
              rotate_left
              · ((intro w hSw; clear hSw; go_simp); (try with_reducible rfl))
              try simp only [Act.put, List.setIfInBounds_toArray, List.set_cons_zero, List.set_cons_succ]
              refine wpAnyE_take (i := 16) (v := ?_) rfl (by kernel_rfl) (by kernel_rfl) (by kernel_rfl) (by kernel_rfl) (fun _ _ _ h => h) (Or.inl ⟨by rfl, ?_⟩) (by assumption) ?_
              rotate_left
              · ((intro w hSw; (try dsimp only at hSw); go_simp); (try with_reducible rfl))
              try simp only [Act.put, List.setIfInBounds_toArray, List.set_cons_zero, List.set_cons_succ]
              refine wpAnyE_take0 (i := 17) (v := ?_) rfl (by kernel_rfl) (by kernel_rfl) (by kernel_rfl) (by kernel_rfl) (fun _ _ _ h => h) (Or.inl ⟨by rfl, ?_⟩) (fun _ => by assumption) ?_
              rotate_left
              · ((intro w hSw; clear hSw; go_simp); (try with_reducible rfl))
              try simp only [Act.put, List.setIfInBounds_toArray, List.set_cons_zero, List.set_cons_succ]
              refine wpAnyE_take0 (i := 18) (v := ?_) rfl (by kernel_rfl) (by kernel_rfl) (by kernel_rfl) (by kernel_rfl) (fun _ _ _ h => h) (Or.inl ⟨by rfl, ?_⟩) (fun _ => by assumption) ?_
              rotate_left
              · ((intro w hSw; clear hSw; go_simp); (try with_reducible rfl))
              try simp only [Act.put, List.setIfInBounds_toArray, List.set_cons_zero, List.set_cons_succ]
              refine wpAnyE_take0 (i := 19) (v := (.int .i64 (q : Int))) rfl (by kernel_rfl) (by kernel_rfl) (by kernel_rfl) (by kernel_rfl) (fun _ _ _ h => h) (Or.inl ⟨by rfl, ?_⟩) (fun _ => by assumption) ?_
              skip
              · ((intro w hSw; clear hSw; go_simp); (try rw [hwa]))
              try simp only [Act.put, List.setIfInBounds_toArray, List.set_cons_zero, List.set_cons_succ]
              refine wpAnyE_ready (rs := [20]) (by kernel_rfl) (by simp) ?_
              refine AllE.cons rfl (fun K hK => ?_) ?_
              · go_simp
                refine hK.out _ _ ?_ (fun hHeld => ?_)
                · (try dsimp only)
                  (first | with_reducible exact HKS.out _ (Kept.refl _ _) | with_reducible exact HKS.out _ (Kept.refl _ _).drew | with_reducible exact HKS.out _ ((Kept.refl _ _).alloc _).drew | with_reducible exact HKS.out _ HK10.out)
                clear hK K
                try simp only [Act.put, List.setIfInBounds_toArray, List.set_cons_zero, List.set_cons_succ]
                refine wpAnyE_ready (rs := [21]) (by kernel_rfl) (by simp) ?_
                refine AllE.cons rfl (fun K hK => ?_) ?_
                · (refine step_push (by rfl) _ _ _ (by rfl) B 3 Tryz.underlying38 inf_I rfl (by decide) (.slice Ak5 nk5 ck5) nk5 (kic Kk) _ [.int .i64 (q : Int)] (by rfl) (by rfl) (own_drew (HOW9.out.alloc _)) (Bk.drew (Bk.new _ _ _)) rfl (by simp [Value.oneCell']) (by omega) (by omega) (by simp; omega) ?_; intro g9 c9 w10 hpu; have HPU := Lib.hid hpu; have HK10 : Hid (Kept w9 w10 (fun i => (Value.slice Ak5 nk5 ck5).ownBlock = some i)) := ((Kept.refl _ _).alloc _).drew.then_ hpu.kept (fun _ _ e => e); obtain ⟨f6, l6, lR6⟩ := (HFZ.out _ HK10.out); clear hpu)
                  refine hK.out _ _ ?_ (fun hHeld => ?_)
                  · (try dsimp only)
                    (first | with_reducible exact HKS.out _ (Kept.refl _ _) | with_reducible exact HKS.out _ (Kept.refl _ _).drew | with_reducible exact HKS.out _ ((Kept.refl _ _).alloc _).drew | with_reducible exact HKS.out _ HK10.out)
                  clear hK K
                  try simp only [Act.put, List.setIfInBounds_toArray, List.set_cons_zero, List.set_cons_succ]
                  refine wpAnyE_take0 (i := 22) (v := ?_) rfl (by kernel_rfl) (by kernel_rfl) (by kernel_rfl) (by kernel_rfl) (fun _ _ _ h => h) (Or.inl ⟨by rfl, ?_⟩) (fun _ => by assumption) ?_
                  rotate_left
                  · ((intro w hSw; clear hSw; go_simp); (try with_reducible rfl))
                  try simp only [Act.put, List.setIfInBounds_toArray, List.set_cons_zero, List.set_cons_succ]
                  refine wpAnyE_take0 (i := 23) (v := ?_) rfl (by kernel_rfl) (by kernel_rfl) (by kernel_rfl) (by kernel_rfl) (fun _ _ _ h => h) (Or.inl ⟨by rfl, ?_⟩) (fun _ => by assumption) ?_
                  rotate_left
                  · ((intro w hSw; clear hSw; go_simp); (try with_reducible rfl))
                  try simp only [Act.put, List.setIfInBounds_toArray, List.set_cons_zero, List.set_cons_succ]
                  refine wpAnyE_ready (rs := [24]) (by kernel_rfl) (by simp) ?_
                  refine AllE.last rfl (by kernel_rfl) (fun K hK => ?_) ?_
                  · go_simp
                    refine hK.out _ _ ?_
                    clear hK K
                    try simp only [Act.put, List.setIfInBounds_toArray, List.set_cons_zero, List.set_cons_succ]
                    refine wpAnyE_done (by kernel_rfl) ?_ _
                    go_wp2_with fail
                    go_roundw
                    case rel =>
                      have hmt := HMT.out
                      have hjm := HJM.out
                      have hqa := HQ.out
                      have hPS : Pushed ((w9.alloc (.cells #[.int .i64 (q : Int)] 3)).drew) B 3 1 y5.vk y5.x.ki.length (kic y5.x.ki) [.int .i64 (q : Int)] (.slice (some ⟨g9, 0, none⟩) (nk5 + 1) c9) w10 := by
                        rw [HVK5.out, ← HNK5.out, ← HKK5.out]
                        exact ⟨HPU.out.own, HPU.out.grown, HPU.out.at_.elim (fun e => .inl (by rw [e]; rfl)) (fun e => .inr ⟨g9, Nat.le_of_eq e.symm, rfl⟩), own_drew (HOW9.out.alloc _)⟩
                      obtain ⟨τ6, σ6, h6⟩ := (HJ9.out.below (bl_drew (bl_alloc (Below.refl _ _) _))).kid HY5.out (by omega) hPS
                      refine ⟨k + 1, by omega, by go_num, L5, cap5, τ6, σ6, M5.set j ⟨kiS y5.x (y5.x.ki ++ [q]), y5.va, .slice (some ⟨g9, 0, none⟩) (nk5 + 1) c9⟩, ?_⟩
                      have e1 : att T.length k (T.length + a) (rcI T.length l (z : Int) a k (rcA T l a)).1 = (rcI T.length l (z : Int) a k (rcA T l a)).1.set j (kiS y5.x (y5.x.ki ++ [q])) := by
                        unfold att
                        rw [show T.length + k = j by omega, show T.length + a = q by omega, HYX5.out]
                      rw [HS.out, e1, show T.length + k = j by omega]
                      exact h6
                    case measure => simp [intOf]; omega
                  exact AllE.nil
                exact AllE.nil
              exact AllE.nil
            · have HS : Hid (rcI T.length l xp a (k + 1) (rcA T l a) = rcI T.length l xp a k (rcA T l a)) := by
                unfold Hid
                rw [rcI, if_neg (by rw [getD_of hz]; exact hzp)]
              have hzb : ((z : Int) == xp) = false := by rw [beq_eq_false_iff_ne]; exact hzp
              clear hz ho5 hbnx hj hM5l HJ HJ0 HBN7 hzp
              go_upto_region 20 with fail
              go_quiet (fail)
              go_wp2_with fail
              go_roundw
              case rel => exact ⟨k + 1, by omega, by go_num, L5, cap5, τ5, σ5, M5, by rw [HS.out]; exact HJ5.out.below (bl_drewN (Below.refl _ _) _)⟩
              case measure => simp [intOf]; omega
          · obtain rfl : k = a := by omega
            obtain ⟨i0, hi0, hz0, hz1, hz2⟩ := info_parts inf_rNode
            have hq4 : q ≤ 400 := by have := HQ.out; omega
            obtain ⟨pn, hpn⟩ : ∃ pn, pn = (rcI T.length l xp k k (rcA T l k)).2 := ⟨_, rfl⟩
            rw [← hpn] at HJ5
            have HPN := Lib.hid hpn
            have b0 := HJ5.out.bk.cell 0; have b1 := HJ5.out.bk.cell 1; have b2 := HJ5.out.bk.cell 2; have b3 := HJ5.out.bk.cell 3; have b4 := HJ5.out.bk.cell 4; have b5 := HJ5.out.bk.cell 5
            have lbc := HJ5.out.bk.lt
            have hrow0 := HJ5.out.rc.rt.row
            rw [hM5l] at hrow0
            have HROW := Lib.hid hrow0
            have HNRL := Lib.hid HJ5.out.rc.rt.ne
            clear hj hM5l hrow0 HJ HJ0 hpn HBN7
            go_upto_region 23 with fail
            have hnRL : R ≠ L5 := HNRL.out
            have hnCL : bc ≠ L5 := fun e => by have h1 := HJ5.out.zr bc HJ5.out.bd.2.1 HJ5.out.bd.2.2; have h2 := HJ5.out.rc.rt.tL; rw [e] at h1; omega
            have HKS : Hid (∀ W', Kept wr W' (fun i => i = L5) → (W'.cell? ⟨R, 0, none⟩ = some (.slice (some ⟨L5, 0, none⟩) q cap5) ∧ W'.cell? ⟨bc, 0, none⟩ = some (.int .i64 xk) ∧ W'.cell? ⟨bc, 1, none⟩ = some (.string xt) ∧ W'.cell? ⟨bc, 2, none⟩ = some (.string xx) ∧ W'.cell? ⟨bc, 3, none⟩ = some (.slice A6 na c6) ∧ W'.cell? ⟨bc, 4, none⟩ = some (.int .i64 pn) ∧ W'.cell? ⟨bc, 5, none⟩ = some (.slice none 0 0))) := fun W' hk => by
              have h1 := hk.block bc lbc hnCL
              exact ⟨(World.cell?_of_block (a := ⟨R, 0, none⟩) (hk.block R hr5 hnRL)).trans p0, (World.cell?_of_block (a := ⟨bc, 0, none⟩) h1).trans b0, (World.cell?_of_block (a := ⟨bc, 1, none⟩) h1).trans b1, (World.cell?_of_block (a := ⟨bc, 2, none⟩) h1).trans b2, (World.cell?_of_block (a := ⟨bc, 3, none⟩) h1).trans b3, (World.cell?_of_block (a := ⟨bc, 4, none⟩) h1).trans b4, (World.cell?_of_block (a := ⟨bc, 5, none⟩) h1).trans b5⟩
            refine wp_regionE (S := (fun W' => W'.cell? ⟨R, 0, none⟩ = some (.slice (some ⟨L5, 0, none⟩) q cap5) ∧ W'.cell? ⟨bc, 0, none⟩ = some (.int .i64 xk) ∧ W'.cell? ⟨bc, 1, none⟩ = some (.string xt) ∧ W'.cell? ⟨bc, 2, none⟩ = some (.string xx) ∧ W'.cell? ⟨bc, 3, none⟩ = some (.slice A6 na c6) ∧ W'.cell? ⟨bc, 4, none⟩ = some (.int .i64 pn) ∧ W'.cell? ⟨bc, 5, none⟩ = some (.slice none 0 0))) [10] (by kernel_rfl) ?_ (fun hHeld => ?_)
            · (try dsimp only)
              (first | with_reducible exact HKS.out _ (Kept.refl _ _) | with_reducible exact HKS.out _ (Kept.refl _ _).drew | with_reducible exact HKS.out _ ((Kept.refl _ _).alloc _).drew | with_reducible exact HKS.out _ HK6.out)
            refine wpAnyE_take0 (i := 0) (v := ?_) rfl (by kernel_rfl) (by kernel_rfl) (by kernel_rfl) (by kernel_rfl) (fun _ _ _ h => h) (Or.inl ⟨by rfl, ?_⟩) (fun _ => by assumption) ?_
            rotate_left
            · ((intro w hSw; clear hSw; go_simp); (try with_reducible rfl))
            try simp only [Act.put, List.setIfInBounds_toArray, List.set_cons_zero, List.set_cons_succ]
            refine wpAnyE_take0 (i := 1) (v := ?_) rfl (by kernel_rfl) (by kernel_rfl) (by kernel_rfl) (by kernel_rfl) (fun _ _ _ h => h) (Or.inl ⟨by rfl, ?_⟩) (fun _ => by assumption) ?_
            rotate_left
            · ((intro w hSw; clear hSw; go_simp); (try with_reducible rfl))
            try simp only [Act.put, List.setIfInBounds_toArray, List.set_cons_zero, List.set_cons_succ]
            refine wpAnyE_take0 (i := 2) (v := ?_) rfl (by kernel_rfl) (by kernel_rfl) (by kernel_rfl) (by kernel_rfl) (fun _ _ _ h => h) (Or.inl ⟨by rfl, ?_⟩) (fun _ => by assumption) ?_
            rotate_left
            · ((intro w hSw; clear hSw; go_simp); (try with_reducible rfl))
            try simp only [Act.put, List.setIfInBounds_toArray, List.set_cons_zero, List.set_cons_succ]
            refine wpAnyE_take0 (i := 3) (v := ?_) rfl (by kernel_rfl) (by kernel_rfl) (by kernel_rfl) (by kernel_rfl) (fun _ _ _ h => h) (Or.inl ⟨by rfl, ?_⟩) (fun _ => by assumption) ?_
            rotate_left
            · ((intro w hSw; clear hSw; go_simp); (try with_reducible rfl))
            try simp only [Act.put, List.setIfInBounds_toArray, List.set_cons_zero, List.set_cons_succ]
            refine wpAnyE_take (i := 4) (v := ?_) rfl (by kernel_rfl) (by kernel_rfl) (by kernel_rfl) (by kernel_rfl) (fun _ _ _ h => h) (Or.inl ⟨by rfl, ?_⟩) (by assumption) ?_
            rotate_left
            · ((intro w hSw; (try dsimp only at hSw); go_simp); (try with_reducible rfl))
            try simp only [Act.put, List.setIfInBounds_toArray, List.set_cons_zero, List.set_cons_succ]
            refine wpAnyE_take (i := 5) (v := ?_) rfl (by kernel_rfl) (by kernel_rfl) (by kernel_rfl) (by kernel_rfl) (fun _ _ _ h => h) (Or.inl ⟨by rfl, ?_⟩) (by assumption) ?_
            rotate_left
            · ((intro w hSw; (try dsimp only at hSw); go_simp); (try with_reducible rfl))
            try simp only [Act.put, List.setIfInBounds_toArray, List.set_cons_zero, List.set_cons_succ]
            refine wpAnyE_ready (rs := [6]) (by kernel_rfl) (by simp) ?_
            refine AllE.cons rfl (fun K hK => ?_) ?_
            · go_simp
              refine hK.out _ _ ?_ (fun hHeld => ?_)
              · (try dsimp only)
                (first | with_reducible exact HKS.out _ (Kept.refl _ _) | with_reducible exact HKS.out _ (Kept.refl _ _).drew | with_reducible exact HKS.out _ ((Kept.refl _ _).alloc _).drew | with_reducible exact HKS.out _ HK6.out)
              clear hK K
              try simp only [Act.put, List.setIfInBounds_toArray, List.set_cons_zero, List.set_cons_succ]
              refine wpAnyE_ready (rs := [7]) (by kernel_rfl) (by simp) ?_
              refine AllE.cons rfl (fun K hK => ?_) ?_
              · (refine step_append_row (w := (wr.alloc (.cells #[.int .i64 xk, .string xt, .string xx, .slice A6 na c6, .int .i64 pn, .slice none 0 0] 46)).drew) (by rfl) _ _ _ (by rfl) 46 i0 _ 6 96 Tryz.underlying25 hi0 hz0 hz1 hz2 rfl (by omega) L5 cap5 q (M5.flatMap nvc) (by rfl) (HROW.out.at_ (heap_alloc_old wr _ HJ5.out.rc.rt.ltL)) ⟨wr.heap.size, 0, none⟩ 1 1 #[.int .i64 xk, .string xt, .string xx, .slice A6 na c6, .int .i64 pn, .slice none 0 0].toList (by rfl) (by rfl) (World.news_of_block (cs := #[.int .i64 xk, .string xt, .string xx, .slice A6 na c6, .int .i64 pn, .slice none 0 0]) (t := 46) (fr := (0, 0)) (heap_alloc_new wr _)) (by simp [Value.oneCell']) (by omega) (by unfold maxLen; omega) (by omega) ?_; intro gg cap6 w6 hrow hgrow hat hlt; have HRW := Lib.hid hrow; have HGR := Lib.hid hgrow; have HAT := Lib.hid hat; have HGL := Lib.hid hlt; have hkR := (Bk.drew (HJ5.out.rc.rt.root.alloc _)).grown hgrow (fun e => HNRL.out (Option.some.inj e)); have q1 := hkR.cell 0; have q2 := hkR.free 0; have q3 := hkR.lt; have HK6 : Hid (Kept wr w6 (fun i => i = L5)) := ((Kept.refl _ _).alloc _).drew.then_ (Kept.grown hgrow (fun i => i = L5) (fun i e => (Option.some.inj e).symm)) (fun _ _ e => e); clear hrow hgrow hat hkR)
                refine hK.out _ _ ?_ (fun hHeld => ?_)
                · (try dsimp only)
                  (first | with_reducible exact HKS.out _ (Kept.refl _ _) | with_reducible exact HKS.out _ (Kept.refl _ _).drew | with_reducible exact HKS.out _ ((Kept.refl _ _).alloc _).drew | with_reducible exact HKS.out _ HK6.out)
                clear hK K
                try simp only [Act.put, List.setIfInBounds_toArray, List.set_cons_zero, List.set_cons_succ]
                refine wpAnyE_take0 (i := 8) (v := ?_) rfl (by kernel_rfl) (by kernel_rfl) (by kernel_rfl) (by kernel_rfl) (fun _ _ _ h => h) (Or.inl ⟨by rfl, ?_⟩) (fun _ => by assumption) ?_
                rotate_left
                · ((intro w hSw; clear hSw; go_simp); (try with_reducible rfl))
                try simp only [Act.put, List.setIfInBounds_toArray, List.set_cons_zero, List.set_cons_succ]
                refine wpAnyE_take0 (i := 9) (v := ?_) rfl (by kernel_rfl) (by kernel_rfl) (by kernel_rfl) (by kernel_rfl) (fun _ _ _ h => h) (Or.inl ⟨by rfl, ?_⟩) (fun _ => by assumption) ?_
                rotate_left
                · ((intro w hSw; clear hSw; go_simp); (try with_reducible rfl))
                try simp only [Act.put, List.setIfInBounds_toArray, List.set_cons_zero, List.set_cons_succ]
                refine wpAnyE_ready (rs := [10]) (by kernel_rfl) (by simp) ?_
                refine AllE.last rfl (by kernel_rfl) (fun K hK => ?_) ?_
                · go_simp
                  refine hK.out _ _ ?_
                  clear hK K
                  try simp only [Act.put, List.setIfInBounds_toArray, List.set_cons_zero, List.set_cons_succ]
                  refine wpAnyE_done (by kernel_rfl) ?_ _
                  go_wp2_with fail
                  go_roundw
                  case rel =>
                    have hmt := HMT.out
                    have hqa := HQ.out
                    have hml := HM5.out
                    obtain ⟨x1, x2, x3, x4⟩ := HXA.out
                    obtain ⟨x5, x6⟩ := HXB.out
                    have e0 : nvc ⟨cpN (ndA T x) pn, .slice A6 na c6, .slice none 0 0⟩ = #[.int .i64 xk, .string xt, .string xx, .slice A6 na c6, .int .i64 pn, .slice none 0 0].toList := by
                      rw [x1, x2, x3, HYX.out]; rfl
                    have hrw := HRW.out
                    rw [← e0, ← hml] at hrw
                    have h9 := HJ5.out.app (by omega) ⟨cpN (ndA T x) pn, .slice A6 na c6, .slice none 0 0⟩ (by
                      show w7.ownsRow B 79 2 (.slice A6 na c6) (ndA T x).at_.length (atc (ndA T x).at_)
                      rw [← HYX.out, ← x5, ← x6]
                      exact own_mono HA7.out H3.out.rt.hB) HFA.out ⟨rfl, rfl⟩ (bl_drew (bl_alloc (Below.refl _ _) _)) hrw HGR.out HAT.out HGL.out
                    rw [hml] at h9
                    have e1 : rcA T l (k + 1) = (rcI T.length l xp k k (rcA T l k)).1 ++ [cpN (ndA T x) pn] := by
                      rw [rcA, getD_of HX.out, HPN.out, show (ndA T x).pa = xp by rw [x4, HYX.out]]
                    exact ⟨k + 1, by omega, by go_num, by rw [e1]; exact h9⟩
                  case measure => simp [intOf]; omega
                exact AllE.nil
              exact AllE.nil
            exact AllE.nil
    · obtain rfl : a = N := by omega
      go_wp2_with fail
      go_ret2
      obtain ⟨L3, cap3, τ3, σ3, M3, h3, hm3, hlt3, hk3⟩ := HC.out
      refine ⟨by rw [HMT.out]; rfl, HKD.out.then_ HM.out ⟨_, _, _, _, h3.rt, by rw [hm3, HN.out]⟩ hlt3 hk3⟩
end Go.Proofs.YtimlmekgapdkiaaGreatDoor

