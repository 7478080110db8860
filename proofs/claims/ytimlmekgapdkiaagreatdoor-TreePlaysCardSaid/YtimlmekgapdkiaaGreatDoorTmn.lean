/- the tree: Put -/
import Derived.Test.YtimlmekgapdkiaaGreatDoorTmm
namespace Go.Proofs.YtimlmekgapdkiaaGreatDoor
set_option linter.unusedVariables false
set_option linter.unusedSimpArgs false
open Go.RowKit Go.Cas

/-- what Put asks of slices.Insert -/
def InsOk (at_ : Nat) (l : List Nat) (i : Nat) : Prop := ∀ (w : World) (base vb : Nat) (v : Value), w.ownsRow base 3 1 v l.length (kic l) → w.heap[vb]? = some (.cells #[.int .i64 (i : Int)] 3 (0, 0)) → v.ownBlock ≠ some vb → base ≤ w.heap.size →
  Calls Tryz.prog 54 #[v, .int .i64 (at_ : Int), .slice (some ⟨vb, 0, none⟩) 1 1] w (InsRet w base v (l.length + 1) (kic (insA l at_ i)))
theorem insOk_end (l : List Nat) (i : Nat) (hl : l.length ≤ 1000000000) : InsOk l.length l i := by
  intro w base vb v h hb _ hbase
  have := c_Insert_end h hl (vb := vb) (x := (i : Int)) (cell_of_row w vb 0 _ _ _ hb) hbase
  rw [insA_end]
  have e : kic (l ++ [i]) = kic l ++ [.int .i64 (i : Int)] := by simp [kic]
  rw [e]
  exact this
def PtMid1 (B R L cap : Nat) (uv : Value) (Z : Nat → Prop) (M : List NV) (T : List Nod) (D : List (Value × List Nod)) (F : Nat → Prop) (v0 back : Value) (b b4 p : Nat) (w3 wx : World) : Prop :=
  TSi B R L cap uv Z M T D F wx ∧ Below w3.heap.size w3 wx ∧ Bk wx b 23 #[.pointer (some ⟨R, 0, none⟩)] ∧ Bk wx (b + 1) 3 #[.int .i64 (p : Int)] ∧ Bk wx b4 1 #[back] ∧ Bk wx (b4 + 1) 38 #[v0]
def PtMid2 (B R L cap : Nat) (uv : Value) (Z : Nat → Prop) (M : List NV) (T : List Nod) (D : List (Value × List Nod)) (F : Nat → Prop) (y : NV) (v6 : Value) (ks : List Nat) (p : Nat) (w wx : World) : Prop :=
  ∃ Z6 F6, TSi B R L cap uv Z6 (M.set p (setKi y v6 ks)) T D F6 wx ∧ (∀ k, k < w.heap.size → F6 k → F k) ∧ (∀ k, Z k → Z6 k) ∧ Kept w wx (fun k => k = L)
set_option maxRecDepth 100000 in
set_option maxHeartbeats 16000000 in
theorem c_Put {w : World} {B R p i at_ : Nat} {F : Nat → Prop} {T : List Nod} {d : Nat → Nat} {D : List (Value × List Nod)} {x : Nod} (h : TS B R T D F w) (hW : WF T d) (hD : D.length ≤ 1000000000000) (hT : T.length ≤ 400) (hx : T[p]? = some x) (hi : i < T.length) (hi0 : i ≠ 0)
    (hk : x.k = 1 ∨ x.k = 2) (ha : ¬ Anc T i p) (hat : at_ ≤ (ndA (cutE T i) p).ki.length) (hcut : ∀ w2, TS B R T D F w2 → Calls Tryz.prog 53 #[.pointer (some ⟨R, 0, none⟩), .int .i64 (i : Int)] w2 (CtRet B R i T D F w2)) (hins : InsOk at_ (ndA (cutE T i) p).ki i) :
    Calls Tryz.prog 25 #[.pointer (some ⟨R, 0, none⟩), .int .i64 (p : Int), .int .i64 (i : Int), .int .i64 (at_ : Int)] w (StRet B R (putG T p i at_) T D F w) := by
  have hp := (List.getElem?_eq_some_iff.1 hx).1
  obtain ⟨b, hb⟩ : ∃ b, b = w.heap.size := ⟨_, rfl⟩
  obtain ⟨w1, hw1⟩ : ∃ w1, w1 = (w.alloc (.cells #[.pointer (some ⟨R, 0, none⟩)] 23)).alloc (.cells #[.int .i64 (p : Int)] 3) := ⟨_, rfl⟩
  have hbk0 : Bk w1 b 23 #[.pointer (some ⟨R, 0, none⟩)] := by rw [hw1, hb]; exact (Bk.new _ _ _).alloc _
  have hbk1 : Bk w1 (b + 1) 3 #[.int .i64 (p : Int)] := by rw [hw1, hb]; exact bk_new' _ _ _ (by simp)
  have hbl : Below w.heap.size w w1 := by rw [hw1]; exact bl_alloc (bl_alloc (Below.refl _ _) _) _
  have hsz : w1.heap.size = b + 2 := by rw [hw1, hb]; simp
  have h2 := h.below hbl
  have H := Lib.hid h
  have HS1 := Lib.hid h2
  have HBL := Lib.hid hbl
  have HBK0 := Lib.hid hbk0
  have HBK1 := Lib.hid hbk1
  have HB := Lib.hid hb
  have HSZ := Lib.hid hsz
  have HW1 := Lib.hid hw1
  have HWF := Lib.hid hW
  have HD := Lib.hid hD
  have HT := Lib.hid hT
  have HX := Lib.hid hx
  have HI := Lib.hid hi
  have HA := Lib.hid ha
  have HCUT := Lib.hid hcut
  have HINS := Lib.hid hins
  have HAT := Lib.hid hat
  obtain ⟨L, cap, uv, Z, M, h1, hM⟩ := h2
  obtain ⟨y, hy, hyx⟩ := nv_get hM hx
  obtain ⟨yi, hyi, hyix⟩ := nv_get hM (ndA_get hi)
  have hlM : M.length = T.length := by rw [← hM]; simp
  have HIS1 := Lib.hid (c_is_yes h1.ns p (by omega) (by omega))
  have HIS2 := Lib.hid (c_is_yes h1.ns i (by omega) (by omega))
  have HWI : Hid (∀ n, Calls Tryz.prog 52 #[.pointer (some ⟨R, 0, none⟩), .int .i64 (p : Int), .int .i64 (i : Int)] (w1.drewN n) fun e w' => e = .returned (.bool false) ∧ w1.drewN n = w') := fun n => by
    have := c_within (i := i) (HS1.out.drewN n) hW hT hp
    rw [ancB_false.2 ha] at this
    exact this
  have e0 : w1.cell? ⟨b, 0, none⟩ = some (.pointer (some ⟨R, 0, none⟩)) := hbk0.cell 0
  have e1 : w1.cell? ⟨b + 1, 0, none⟩ = some (.int .i64 (p : Int)) := hbk1.cell 0
  have l1 := hbk1.lt
  obtain ⟨g0, _⟩ := h1.ns.heads
  have hr := h1.ns.ltR
  have hrL := h1.ns.ltL
  obtain ⟨⟨a0, _, _⟩, _, _, a5⟩ := h1.ns.cell hy
  obtain ⟨_, _, a4i, _⟩ := h1.ns.cell hyi
  rw [hyx] at a0
  rw [hyix] at a4i
  have hpM : (p : Int) < (M.length : Int) := by omega
  have h0p : 0 ≤ (p : Int) := by omega
  have hiM : (i : Int) < (M.length : Int) := by omega
  have h0i : 0 ≤ (i : Int) := by omega
  have hii0 : ¬ (i : Int) = 0 := by omega
  have hii1 : ((i : Int) == 0) = false := by rw [beq_eq_false_iff_ne]; exact hii0
  have hrk := (h1.ns.rd y (List.mem_of_getElem? hy)).2
  rw [hyx] at hrk
  obtain ⟨vk, hvk⟩ : ∃ vk, vk = y.vk := ⟨_, rfl⟩
  rw [← hvk] at a5 hrk
  obtain ⟨_, A2, c2, rfl, _, _⟩ := hrk
  obtain ⟨xk, hxk⟩ : ∃ xk, xk = x.k := ⟨_, rfl⟩
  obtain ⟨pi, hpi⟩ : ∃ pi, pi = (ndA T i).pa := ⟨_, rfl⟩
  obtain ⟨nk, hnk⟩ : ∃ nk, nk = x.ki.length := ⟨_, rfl⟩
  rw [← hxk] at a0 hk
  rw [← hpi] at a4i
  rw [← hnk] at a5
  have hnk4 : nk ≤ 400 := by
    have := nodup_lt T.length x.ki (by have := hW.nd p hp; rwa [ndA_eq hx] at this) (fun k hk => (hW.ki p hp k (by rw [ndA_eq hx]; exact hk)).1)
    omega
  have hki : nk = if pi = (p : Int) then (ndA (cutE T i) p).ki.length + 1 else (ndA (cutE T i) p).ki.length := by
    have hne : p ≠ i := fun e => ha (e ▸ .refl)
    by_cases hq : 0 ≤ pi
    · obtain ⟨q, hq2⟩ := Int.eq_ofNat_of_zero_le hq
      have hpa : (ndA T i).pa = (q : Int) := by rw [← hpi]; exact hq2
      rw [cutE_nd hW hi hpa, if_neg hne]
      by_cases hpq : p = q
      · subst hpq
        rw [if_pos rfl, if_pos hq2]
        have hm := hW.up i hi (by rw [← hpi]; exact hq)
        rw [hpa] at hm
        have e : ((p : Int)).toNat = p := rfl
        rw [e] at hm
        show nk = ((ndA T p).ki.erase i).length + 1
        rw [List.length_erase_of_mem hm, hnk, ← ndA_eq hx]
        have := List.length_pos_of_mem hm
        omega
      · rw [if_neg hpq, if_neg (by omega), hnk, ndA_eq hx]
    · rw [if_neg (by omega), cutE_none (by rw [← hpi]; omega), hnk, ndA_eq hx]
  have HKI := Lib.hid hki
  have HPI := Lib.hid hpi
  obtain ⟨nl, hnl⟩ : ∃ nl, nl = (ndA (cutE T i) p).ki.length := ⟨_, rfl⟩
  rw [← hnl] at hki hat
  have HNL := Lib.hid hnl
  have hai : (at_ : Int) ≤ (nl : Int) := by omega
  have h0a : 0 ≤ (at_ : Int) := by omega
  have hk1 : (xk = 1 ∨ xk = 2) := hk
  clear h hW hD hT hx hi hi0 ha hat hcut hins hp hb hw1 hbk0 hbk1 hbl hsz h1 hM hy hyx hyi hyix hlM hvk hxk hpi hnk hnl
  have hk2 : pi = (p : Int) ∧ nk = nl + 1 ∨ ¬ pi = (p : Int) ∧ (pi == (p : Int)) = false ∧ nk = nl := by
    by_cases hpp : pi = (p : Int)
    · exact .inl ⟨hpp, by rw [if_pos hpp] at hki; exact hki⟩
    · exact .inr ⟨hpp, by rw [beq_eq_false_iff_ne]; exact hpp, by rw [if_neg hpp] at hki; exact hki⟩
  clear hki HKI HPI
  rcases hk2 with ⟨rfl, rfl⟩ | ⟨hpp, hpp2, rfl⟩
  all_goals
    rcases hk1 with rfl | rfl
    all_goals
      go_enter Tryz.func25, Tryz.ntmps25
      go_upto_region 1 with fail
      rw [← HW1.out, ← HB.out]
      go_upto_region 3 with (first | (go_at_call 45; first | (with_reducible refine (HIS1.out).mono ?_) | (with_reducible refine (HIS2.out).mono ?_)); rintro e w' ⟨rfl, rfl⟩)
      go_quiet (fail)
      go_upto_region 6 with (go_at_call 52; refine (HWI.out _).mono ?_; rintro e w' ⟨rfl, rfl⟩)
      go_quiet (fail)
      go_upto_region 7 with fail
      go_quiet (fail)
      go_upto_region 12 with (go_at_call 53; refine (HCUT.out _ (HS1.out.drewN _)).mono ?_; rintro e w3 ⟨back, L3, cap3, uv3, Z3, M3, F3, rfl, hS3, hM3, hF3, hK3, hU3⟩; obtain ⟨fn, cs, rfl, _⟩ := hU3 0; have HS3 := Lib.hid hS3; have HM3 := Lib.hid hM3; have HF3 := Lib.hid hF3; have HK3 := Lib.hid hK3; have HU3 := Lib.hid hU3; clear hS3 hM3 hF3 hK3 hU3)
      obtain ⟨y3, hy3, hy3x⟩ := nv_get HM3.out (ndA_get (T := cutE T i) (i := p) (by rw [cutE_len]; exact (List.getElem?_eq_some_iff.1 HX.out).1))
      obtain ⟨b4, hb4⟩ : ∃ b4, b4 = w3.heap.size := ⟨_, rfl⟩
      rw [← hb4]
      obtain ⟨w4, hw4⟩ : ∃ w4, w4 = w3.alloc (.cells #[.func (.func fn) #[] cs] 1) := ⟨_, rfl⟩
      rw [← hw4]
      have hbl4 : Below w3.heap.size w3 w4 := by rw [hw4]; exact bl_alloc (Below.refl _ _) _
      have h4 := HS3.out.below hbl4
      have hFb : ∀ k, w.heap.size ≤ k → ¬ F k := fun k hk => H.out.new_ hk
      have hq0 : Bk w3 b 23 #[.pointer (some ⟨R, 0, none⟩)] := HK3.out.bk (HBK0.out.drewN _) (hFb b (by have := HB.out; omega))
      have hq1 : Bk w3 (b + 1) 3 #[.int .i64 (p : Int)] := HK3.out.bk (HBK1.out.drewN _) (hFb (b + 1) (by have := HB.out; omega))
      have hq4 : Bk w4 b4 1 #[.func (.func fn) #[] cs] := by rw [hw4]; exact bk_new' _ _ _ hb4
      have hc0 := hq0.below hbl4 hq0.lt
      have hc1 := hq1.below hbl4 hq1.lt
      have hsz4 : w4.heap.size = b4 + 1 := by rw [hw4, hb4]; simp
      obtain ⟨vk3, hvk3⟩ : ∃ vk3, vk3 = y3.vk := ⟨_, rfl⟩
      have hF4 : ∀ W', Below w4.heap.size w4 W' → (W'.cell? ⟨b, 0, none⟩ = some (.pointer (some ⟨R, 0, none⟩)) ∧ W'.cell? ⟨b + 1, 0, none⟩ = some (.int .i64 (p : Int)) ∧ W'.cell? ⟨R, 0, none⟩ = some (.slice (some ⟨L3, 0, none⟩) M3.length cap3) ∧ W'.cell? ⟨L3, p * 6 + 5, none⟩ = some vk3) := fun W' hb => by
        have n1 := h4.ns.below hb
        refine ⟨(hc0.below hb hc0.lt).cell 0, (hc1.below hb hc1.lt).cell 0, n1.heads.1, ?_⟩
        rw [hvk3]
        exact (n1.cell hy3).2.2.2
      have hrk3 := (h4.ns.rd y3 (List.mem_of_getElem? hy3)).2
      rw [← hvk3] at hrk3
      have hp3 : (p : Int) < (M3.length : Int) := by have := (List.getElem?_eq_some_iff.1 hy3).1; omega
      have hl3 : M3.length ≤ 400 := by have := congrArg List.length HM3.out; rw [cutE_len] at this; simp at this; have := HT.out; omega
      obtain ⟨_, A3, c3, rfl, _, _⟩ := hrk3
      have HF4 := Lib.hid hF4
      have HS4 := Lib.hid h4
      have HC0 := Lib.hid hc0
      have HC1 := Lib.hid hc1
      have HQ4 := Lib.hid hq4
      have HB4 := Lib.hid hb4
      have HSZ4 := Lib.hid hsz4
      have HW4 := Lib.hid hw4
      have HBL4 := Lib.hid hbl4
      have HVK3 := Lib.hid hvk3
      have HY3 := Lib.hid hy3
      have HY3X := Lib.hid hy3x
      clear hb4 hw4 hbl4 h4 hFb hq0 hq1 hq4 hc0 hc1 hsz4 hvk3 hF4 hy3 hy3x e0 e1 l1 g0 hr hrL a0 a5 a4i
      go_cut [12] (fun v12 wx => v12 = .pointer (some ⟨b4 + 1, 0, none⟩) ∧ Hid (PtMid1 B R L3 cap3 uv3 Z3 M3 T D F3 (.slice A3 y3.x.ki.length c3) (.func (.func fn) #[] cs) b b4 p w3 wx))
      case first =>
        go_region_held3 (fun w' => w'.cell? ⟨b, 0, none⟩ = some (.pointer (some ⟨R, 0, none⟩)) ∧ w'.cell? ⟨b + 1, 0, none⟩ = some (.int .i64 (p : Int)) ∧ w'.cell? ⟨R, 0, none⟩ = some (.slice (some ⟨L3, 0, none⟩) M3.length cap3) ∧ w'.cell? ⟨L3, p * 6 + 5, none⟩ = some (.slice A3 y3.x.ki.length c3))
          (first | exact HF4.out _ (Below.refl _ _) | exact HF4.out _ (bl_drew (Below.refl _ _)) | exact HF4.out _ (bl_drew (bl_alloc (Below.refl _ _) _)) | exact HF4.out _ (bl_set (bl_drew (bl_alloc (Below.refl _ _) _)) _ _ (by simp) _))
          (fail)
        all_goals
          go_wp2_with fail
          go_meet
          exact ⟨by rw [HSZ4.out], HS4.out.below (bl_drew (bl_alloc (Below.refl _ _) _)), bl_trans HBL4.out (bl_drew (bl_alloc (Below.refl _ _) _)), Bk.drew (HC0.out.alloc _), Bk.drew (HC1.out.alloc _), Bk.drew (HQ4.out.alloc _), Bk.drew (bk_new' _ _ _ HSZ4.out.symm)⟩
      case rest =>
        obtain ⟨rfl, hmid⟩ := hcut
        obtain ⟨wq, rfl⟩ : ∃ wq : World, wq = wc := ⟨_, rfl⟩
        obtain ⟨hSc, hBc, hc0, hc1, hc4, hc5⟩ := hmid.out
        obtain ⟨kl, hkl⟩ : ∃ kl, kl = y3.x.ki := ⟨_, rfl⟩
        have hkl2 : kl = (ndA (cutE T i) p).ki := by rw [hkl, HY3X.out]
        have hkln : kl.length ≤ (cutE T i).length := nodup_lt _ _ (by rw [hkl2]; exact (HWF.out.cut HI.out).nd p (by rw [cutE_len]; exact (List.getElem?_eq_some_iff.1 HX.out).1)) (fun k hk => ((HWF.out.cut HI.out).ki p (by rw [cutE_len]; exact (List.getElem?_eq_some_iff.1 HX.out).1) k (by rw [← hkl2]; exact hk)).1)
        rw [cutE_len] at hkln
        have hrk := (hSc.ns.rd y3 (List.mem_of_getElem? HY3.out)).2
        rw [← HVK3.out, ← hkl] at hrk
        have hrs := hrk.toS (fun k hz => (hSc.ns.z k hz).2.1)
        have hnl4 : kl.length ≤ 400 := Nat.le_trans hkln HT.out
        have HCLa := Lib.hid (c_CloneI (w := wq.drew) (hrs.below (bl_drew (Below.refl _ _))) (one_kic _) (by omega) (Nat.le_refl _))
        have HCLb := Lib.hid (c_CloneI (w := (wq.alloc (.cells #[.int .i64 (i : Int)] 3)).drew) (hrs.below (bl_drew (bl_alloc (Below.refl _ _) _))) (one_kic _) (by omega) (by simp))
        have hF5 : ∀ W', Below wq.heap.size wq W' → (W'.cell? ⟨b, 0, none⟩ = some (.pointer (some ⟨R, 0, none⟩)) ∧ W'.cell? ⟨b + 1, 0, none⟩ = some (.int .i64 (p : Int)) ∧ W'.cell? ⟨R, 0, none⟩ = some (.slice (some ⟨L3, 0, none⟩) M3.length cap3) ∧ W'.cell? ⟨b4 + 1, 0, none⟩ = some (.slice A3 kl.length c3)) := fun W' hb => by
          have n1 := hSc.ns.below hb
          exact ⟨(hc0.below hb hc0.lt).cell 0, (hc1.below hb hc1.lt).cell 0, n1.heads.1, by rw [hkl]; exact (hc5.below hb hc5.lt).cell 0⟩
        have hLc : ∀ W', Below wq.heap.size wq W' → (∃ u, W'.cell? ⟨L3, p * 6 + 5, none⟩ = some u) ∧ W'.frozen? ⟨L3, p * 6 + 5, none⟩ = false := fun W' hb => by
          have n1 := hSc.ns.below hb
          exact ⟨⟨_, (n1.cell HY3.out).2.2.2⟩, n1.free _⟩
        have hBwq : B ≤ wq.heap.size := Nat.le_trans hSc.ns.geo.1 (Nat.le_of_lt hSc.ns.ltR)
        have hST : ∀ W', Below wq.heap.size wq W' → ∀ u, ((W'.setCell ⟨L3, p * 6 + 5, none⟩ u).cell? ⟨b, 0, none⟩ = some (.pointer (some ⟨R, 0, none⟩)) ∧ (W'.setCell ⟨L3, p * 6 + 5, none⟩ u).cell? ⟨b + 1, 0, none⟩ = some (.int .i64 (p : Int)) ∧ (W'.setCell ⟨L3, p * 6 + 5, none⟩ u).cell? ⟨R, 0, none⟩ = some (.slice (some ⟨L3, 0, none⟩) M3.length cap3) ∧ (W'.setCell ⟨L3, p * 6 + 5, none⟩ u).cell? ⟨b4 + 1, 0, none⟩ = some (.slice A3 kl.length c3)) := fun W' hb u => by
          obtain ⟨s1, s2, s3, s4⟩ := hF5 W' hb
          have hL3 := HS3.out.ns.ltL
          have hb4e := HB4.out
          have hnF : ∀ k, w.heap.size ≤ k → k < (b + 2) → k ≠ L3 := fun k hk hk2 e => by
            subst e
            have := HF3.out k (by have := HSZ.out; simp; omega) (HS3.out.f k (.inl (.inr (.inl rfl))))
            exact H.out.new_ hk this
          have hbe := HB.out
          exact ⟨(World.cell?_setCell_other W' ⟨L3, p * 6 + 5, none⟩ ⟨b, 0, none⟩ u (fun e => by injection e with e; exact hnF b (by omega) (by omega) (by omega))).trans s1,
            (World.cell?_setCell_other W' ⟨L3, p * 6 + 5, none⟩ ⟨b + 1, 0, none⟩ u (fun e => by injection e with e; exact hnF (b + 1) (by omega) (by omega) (by omega))).trans s2,
            (World.cell?_setCell_other W' ⟨L3, p * 6 + 5, none⟩ ⟨R, 0, none⟩ u (fun e => by injection e with e; exact HS3.out.ns.geo.2.2 (by omega))).trans s3,
            (World.cell?_setCell_other W' ⟨L3, p * 6 + 5, none⟩ ⟨b4 + 1, 0, none⟩ u (fun e => by injection e with e; omega)).trans s4⟩
        have HST := Lib.hid hST
        clear hST
        have HIN := Lib.hid (hkl2 ▸ HINS.out : InsOk at_ kl i)
        unfold InsOk at HIN
        have HSc := Lib.hid hSc
        have HBc := Lib.hid hBc
        have HC0c := Lib.hid hc0
        have HC1c := Lib.hid hc1
        have HC4c := Lib.hid hc4
        have HC5c := Lib.hid hc5
        have HKL := Lib.hid hkl
        have HKL2 := Lib.hid hkl2
        have HF5 := Lib.hid hF5
        have HLC := Lib.hid hLc
        clear hSc hBc hc0 hc1 hc4 hc5 hkl hkl2 hkln hrk hrs hF5 hmid hLc HF4 HS4 HC0 HC1 HQ4 HW4 HBL4
        go_upto_region 13 with fail
        go_cut [89] (fun _ wx => Hid (∃ v6, PtMid2 B R L3 cap3 uv3 Z3 M3 T D F3 y3 v6 (insA kl at_ i) p wq wx))
        case first =>
          go_region_held3 (fun w' => w'.cell? ⟨b, 0, none⟩ = some (.pointer (some ⟨R, 0, none⟩)) ∧ w'.cell? ⟨b + 1, 0, none⟩ = some (.int .i64 (p : Int)) ∧ w'.cell? ⟨R, 0, none⟩ = some (.slice (some ⟨L3, 0, none⟩) M3.length cap3) ∧ w'.cell? ⟨b4 + 1, 0, none⟩ = some (.slice A3 kl.length c3))
            (first | with_reducible exact HF5.out _ (bl_drew (Below.refl _ _)) | with_reducible exact HF5.out _ (bl_drew (bl_alloc (Below.refl _ _) _)) | with_reducible exact HF5.out _ HBI.out | with_reducible exact HF5.out _ HBK.out | with_reducible exact HF5.out _ (bl_alloc HBK.out _) | with_reducible exact HF6.out _)
            (first
              | (go_at_call 47; (with_reducible refine (HCLa.out).mono ?_); rintro e w' ⟨vC, rfl, hoC, hbC⟩; have HOC := Lib.hid hoC; have HBK : Hid (Below wq.heap.size wq w') := bl_trans (bl_drew (Below.refl _ _)) hbC; clear hoC hbC)
              | (go_at_call 47; (with_reducible refine (HCLb.out).mono ?_); rintro e w' ⟨vC, rfl, hoC, hbC⟩; have HOC := Lib.hid (own_mono hoC (show wq.heap.size ≤ _ by simp)); have HOB := Lib.hid hoC; have HVB : Hid (w'.heap[wq.heap.size]? = some (.cells #[.int .i64 (i : Int)] 3 (0, 0))) := (hbC.block wq.heap.size (by simp)).trans (heap_alloc_new wq _); have HBK : Hid (Below wq.heap.size wq w') := bl_trans (bl_drew (bl_alloc (Below.refl _ _) _)) hbC; clear hoC hbC)
              | (go_at_call 54; (with_reducible refine (HIN.out _ wq.heap.size _ _ (HOC.out.alloc _) (heap_alloc_new _ _) (fun e => absurd (own_lt HOC.out e).2 (Nat.lt_irrefl _)) (Nat.le_trans HBK.out.size (by simp))).mono ?_); rintro e w6 ⟨v6, rfl, ho6, hg6, _⟩; have HO6 := Lib.hid ho6; have HBI : Hid (Below wq.heap.size wq w6) := (bl_alloc HBK.out _).grown hg6 (Nat.le_trans HBK.out.size (by simp)) (fun k hk => (own_lt HOC.out hk).1); have HF6 := Lib.hid (HST.out _ HBI.out); obtain ⟨⟨u5, hu5⟩, hfz5⟩ := HLC.out _ HBI.out; obtain ⟨_, A6, c6, rfl, _, _⟩ := RdS.of_own ho6; clear ho6 hg6)
              | (go_at_call 54; (with_reducible refine (HIN.out _ wq.heap.size wq.heap.size _ HOC.out HVB.out (fun e => absurd (own_lt HOB.out e).1 (by simp)) HBK.out.size).mono ?_); rintro e w6 ⟨v6, rfl, ho6, hg6, _⟩; have HO6 := Lib.hid ho6; have HBI : Hid (Below wq.heap.size wq w6) := HBK.out.grown hg6 HBK.out.size (fun k hk => (own_lt HOC.out hk).1); have HF6 := Lib.hid (HST.out _ HBI.out); obtain ⟨⟨u5, hu5⟩, hfz5⟩ := HLC.out _ HBI.out; obtain ⟨_, A6, c6, rfl, _, _⟩ := RdS.of_own ho6; clear ho6 hg6))
          all_goals
            go_wp2_with fail
            go_meet
            have hS6 := HSc.out.below HBI.out
            have hexq : ∀ k, exT R L3 uv3 k → k < wq.heap.size := fun k hk => (HSc.out.ns.ex hk).2
            have hBq : B ≤ wq.heap.size := Nat.le_trans HSc.out.ns.geo.1 (Nat.le_of_lt HSc.out.ns.ltR)
            have hSz := hS6.wideZ (fun k => (Value.slice A6 (kl.length + 1) c6).ownBlock = some k) (fun k hk => by
              have h1 := own_lt HO6.out hk
              exact ⟨by omega, h1.2, fun e => by have := hexq k e; omega⟩)
            have hln : (insA kl at_ i).length = kl.length + 1 := by unfold insA; simp; omega
            have hrk6 : RdZ w6 (fun k => Z3 k ∨ (Value.slice A6 (kl.length + 1) c6).ownBlock = some k) 1 (.slice A6 (kl.length + 1) c6) (insA kl at_ i).length (kic (insA kl at_ i)) := by
              rw [hln]; exact RdZ.of_own HO6.out (fun g hg => .inr hg)
            have hra6 := (hSz.ns.rd y3 (List.mem_of_getElem? HY3.out)).1
            have hSn := hSz.setN HY3.out 5 (by omega) _ (setKi_cells y3 (.slice A6 (kl.length + 1) c6) (insA kl at_ i)) ⟨hra6, hrk6⟩
            refine ⟨_, _, _, hSn, fun k hk hf => ?_, fun k hz => .inl hz, (Kept.of_below HBI.out (fun k => k = L3)).set_ L3 _ (fun _ => rfl) _⟩
            rcases hf with hf | hf
            · exact hf
            · have := (own_lt HO6.out hf).1; omega
        case rest =>
          obtain ⟨v6, Z6, F6, hS6, hF6, hZ6, hK6⟩ := hcut.out
          have hne : p ≠ i := fun e => HA.out (e ▸ .refl)
          have hszw := HSZ.out
          have hbw := HB.out
          have hb4 := HB4.out
          have hEX : ∀ k, exT R L3 uv3 k → (k < b ∧ F k) ∨ (b + 2 ≤ k ∧ k < b4) := fun k hk => by
            have h1 := (HS3.out.ns.ex hk).2
            by_cases h2 : k < b + 2
            · have h3 := HF3.out k (by simp; omega) (HS3.out.f k (.inl hk))
              exact .inl ⟨by have := (H.out.fb h3).2; omega, h3⟩
            · exact .inr ⟨by omega, by omega⟩
          have hLX := hEX L3 (.inr (.inl rfl))
          have hb3 : b + 2 ≤ b4 := by have := HK3.out.size; simp at this; omega
          have hsq : b4 + 2 ≤ wq.heap.size := by have := HC5c.out.lt; omega
          have k0 : Bk wc b 23 #[.pointer (some ⟨R, 0, none⟩)] := hK6.bk HC0c.out (by omega)
          have k1 : Bk wc (b + 1) 3 #[.int .i64 (p : Int)] := hK6.bk HC1c.out (by omega)
          have k4 : Bk wc b4 1 #[.func (.func fn) #[] cs] := hK6.bk HC4c.out (by omega)
          have k5 : Bk wc (b4 + 1) 38 #[.slice A3 y3.x.ki.length c3] := hK6.bk HC5c.out (by omega)
          obtain ⟨yi3, hyi3, hyi3x⟩ := nv_get HM3.out (ndA_get (T := cutE T i) (i := i) (by rw [cutE_len]; exact HI.out))
          have hyi6 : (M3.set p (setKi y3 v6 (insA kl at_ i)))[i]? = some yi3 := by rw [List.getElem?_set_ne hne]; exact hyi3
          obtain ⟨w7, hw7⟩ : ∃ w7, w7 = wc.drew := ⟨_, rfl⟩
          have h7 := hS6.below (bl_drew (Below.refl _ wc))
          rw [← hw7] at h7
          have e0 : w7.cell? ⟨b, 0, none⟩ = some (.pointer (some ⟨R, 0, none⟩)) := by rw [hw7]; exact k0.cell 0
          have e1 : w7.cell? ⟨b + 1, 0, none⟩ = some (.int .i64 (p : Int)) := by rw [hw7]; exact k1.cell 0
          have l1 : b + 1 < w7.heap.size := by rw [hw7]; exact k1.lt
          obtain ⟨g0, _⟩ := h7.ns.heads
          have hr := h7.ns.ltR
          have hrL := h7.ns.ltL
          obtain ⟨_, _, a4, _⟩ := h7.ns.cell hyi6
          have f4 := h7.ns.free (i * 6 + 4)
          rw [List.length_set] at g0
          have hi3 : (i : Int) < (M3.length : Int) := by have := (List.getElem?_eq_some_iff.1 hyi3).1; omega
          have HS7 := Lib.hid h7
          have HK0 := Lib.hid k0
          have HK1 := Lib.hid k1
          have HK4 := Lib.hid k4
          have HK5 := Lib.hid k5
          have HK6 := Lib.hid hK6
          have HF6' := Lib.hid hF6
          have HZ6 := Lib.hid hZ6
          have HEX := Lib.hid hEX
          have HYI6 := Lib.hid hyi6
          have HYI3X := Lib.hid hyi3x
          have HW7 := Lib.hid hw7
          have HNE := Lib.hid hne
          have HB3 := Lib.hid hb3
          have HSQ := Lib.hid hsq
          clear hS6 hF6 hZ6 hK6 hne hszw hbw hb4 hEX hLX hb3 hsq k0 k1 k4 k5 hyi3 hyi3x hyi6 h7 hw7 hcut HF5 HLC HST HIN HCLa HCLb
          go_upto_region 14 with fail
          refine wp_region_still_tail 8 (by kernel_rfl) (by kernel_rfl) ?_
          simp only [List.take_succ_cons, List.take_zero, List.drop_succ_cons, List.drop_zero]
          change wpStill _ _ (World.drew _) _ _ _
          rw [← HW7.out]
          repeat still_step
          refine wpStill_nil ?_
          change wpList _ _ _ _ _ (World.drew _)
          rw [← HW7.out]
          go_upto_region 15 with fail
          obtain ⟨w8, hw8⟩ : ∃ w8, w8 = w7.setCell ⟨L3, i * 6 + 4, none⟩ (.int .i64 (p : Int)) := ⟨_, rfl⟩
          rw [← hw8]
          have hbw := HB.out
          have hb4 := HB4.out
          have hEX := HEX.out
          have hLX := hEX L3 (.inr (.inl rfl))
          have hb3 := HB3.out
          have hsq := HSQ.out
          have hBb : B ≤ b := by
            have h1 := HS3.out.ns.geo.1
            have := hEX R (.inl rfl)
            rcases this with h2 | h2
            · omega
            · exfalso
              obtain ⟨LL, cc, uu, ZZ, MM, hh, _⟩ := H.out
              have := hh.ns.ltR
              omega
          have hsn := HS7.out.setN HYI6.out 4 (by omega) _ (setPa_cells yi3 (p : Int)) (HS7.out.ns.rd yi3 (List.mem_of_getElem? HYI6.out))
          rw [← hw8] at hsn
          have hkn : ∀ k, k ≠ L3 → w8.heap[k]? = wc.heap[k]? := fun k hk => by rw [hw8]; exact (Below.heap_setCell w7 ⟨L3, i * 6 + 4, none⟩ _ k hk).trans (by rw [HW7.out]; rfl)
          have hs8 : w8.heap.size = wc.heap.size := by rw [hw8, HW7.out]; simp [World.setCell]
          have hwqc := HK6.out.size
          have hP : ∀ k, (k = b ∨ k = b + 1 ∨ k = b4 ∨ k = b4 + 1) → B ≤ k ∧ k < w8.heap.size ∧ ¬ exT R L3 uv3 k := fun k hk => by
            refine ⟨by omega, by omega, fun e => ?_⟩
            have := hEX k e
            omega
          have hSz := hsn.wideZ _ hP
          have q0 : Bk w8 b 23 #[.pointer (some ⟨R, 0, none⟩)] := (hkn b (by omega)).trans HK0.out
          have q1 : Bk w8 (b + 1) 3 #[.int .i64 (p : Int)] := (hkn (b + 1) (by omega)).trans HK1.out
          have q4 : Bk w8 b4 1 #[.func (.func fn) #[] cs] := (hkn b4 (by omega)).trans HK4.out
          have q5 : Bk w8 (b4 + 1) 38 #[.slice A3 y3.x.ki.length c3] := (hkn (b4 + 1) (by omega)).trans HK5.out
          have hz38 : ∀ k, Z3 k → w8.heap[k]? = w3.heap[k]? := fun k hz => by
            have hz1 := HS3.out.ns.z k hz
            have hkL : k ≠ L3 := fun e => hz1.2.2 (.inr (.inl e))
            exact (hkn k hkL).trans ((HK6.out.block k (by have := HBc.out.size; omega) hkL).trans (HBc.out.block k hz1.2.1))
          have hxp : (cutE T i)[p]? = some (ndA (cutE T i) p) := ndA_get (by rw [cutE_len]; exact (List.getElem?_eq_some_iff.1 HX.out).1)
          have hv8 : RdZ w8 (fun k => Z6 k ∨ (k = b ∨ k = b + 1 ∨ k = b4 ∨ k = b4 + 1)) 1 (.slice A3 y3.x.ki.length c3) (ndA (cutE T i) p).ki.length (kic (ndA (cutE T i) p).ki) := by
            have := (HS3.out.ns.rd y3 (List.mem_of_getElem? HY3.out)).2
            rw [← HVK3.out, HY3X.out] at this
            rw [HY3X.out]
            exact this.keep hz38 (fun k hz => .inl (HZ6.out k hz))
          have hU8 : UOk B R (fun k => Z6 k ∨ (k = b ∨ k = b + 1 ∨ k = b4 ∨ k = b4 + 1)) w8 (.func (.func fn) #[] cs) ((cutE T i).set i { ndA (cutE T i) i with pa := (p : Int) }) T := (HU3.out (p : Int)).mono (fun k hz => ⟨hz38 k hz, .inl (HZ6.out k hz)⟩)
          have hU := u_put (B := B) (ks := insA kl at_ i) hxp HNE.out (by rw [cutE_len]; exact HT.out) q0 q1 q5 q4 hv8 (.inr (.inl rfl)) (.inr (.inr (.inl rfl))) (.inr (.inr (.inr (.inr rfl)))) (.inr (.inr (.inr (.inl rfl)))) hU8
          have hmm : ((M3.set p (setKi y3 v6 (insA kl at_ i))).set i (setPa yi3 (p : Int))).map NV.x = putE (cutE T i) p i (insA kl at_ i) := by
            rw [List.map_set, List.map_set, HM3.out]
            have e1 : (setKi y3 v6 (insA kl at_ i)).x = { ndA (cutE T i) p with ki := insA kl at_ i } := by
              show ({ y3.x with ki := insA kl at_ i } : Nod) = _
              rw [HY3X.out]
            have e2 : (setPa yi3 (p : Int)).x = { ndA (cutE T i) i with pa := (p : Int) } := by
              show ({ yi3.x with pa := (p : Int) } : Nod) = _
              rw [HYI3X.out]
            rw [e1, e2]
            unfold putE
            rw [ndA_set (by rw [cutE_len]; exact (List.getElem?_eq_some_iff.1 HX.out).1), if_neg (Ne.symm HNE.out)]
          rw [← hmm] at hU
          have HDN := Lib.hid (c_done hSz hU HD.out)
          have HMM := Lib.hid hmm
          have HKN : Hid (Kept w w8 F) := by
            have hLF : L3 < w.heap.size → F L3 := fun h => by
              rcases hLX with h2 | h2
              · exact h2.2
              · omega
            have a1 : Kept w w3 F := (Kept.of_below (bl_drewN HBL.out _) F).then_ HK3.out (fun _ _ e => e)
            have a2 : Kept w wq F := a1.then_ (Kept.of_below HBc.out (fun _ => False)) (fun _ _ e => e.elim)
            have a3 : Kept w wc F := a2.then_ HK6.out (fun k hk e => by subst e; exact hLF hk)
            unfold Hid
            rw [hw8, HW7.out]
            exact (a3.drew).set_ L3 _ hLF _
          have HEF : Hid (∀ k, k < w.heap.size → exT R L3 uv3 k → F k) := fun k hk e => by
            rcases hEX k e with h2 | h2
            · exact h2.2
            · omega
          have HFF : Hid (∀ k, k < w.heap.size → F6 k → F k) := fun k hk e => by
            have := HF6'.out k (by omega) e
            exact HF3.out k (by have := HSZ.out; simp; omega) this
          have HS8 : Hid (w.heap.size ≤ w8.heap.size) := by unfold Hid; omega
          have c0 : w8.cell? ⟨b, 0, none⟩ = some (.pointer (some ⟨R, 0, none⟩)) := q0.cell 0
          have cl := q0.lt
          clear hw8 hbw hb4 hEX hLX hb3 hsq hBb hsn hkn hs8 hwqc hP hSz q0 q1 q4 q5 hz38 hxp hv8 hU8 hU hmm e0 e1 l1 g0 hr hrL a4 f4
          go_wp2_with ((go_at_call 55; refine (HDN.out).mono ?_; rintro e w' ⟨⟨u, rfl⟩, uv', F'', hS9, hF9, hK9⟩; have HS9 := Lib.hid hS9; have HF9 := Lib.hid hF9; have HK9 := Lib.hid hK9; clear hS9 hF9 hK9))
          go_ret
          have key := HS9.out
          rw [HMM.out] at key
          have hpg : putE (cutE T i) p i (insA kl at_ i) = putG T p i at_ := by unfold putG; rw [HKL2.out]
          rw [hpg] at key
          refine ⟨rfl, _, F'', ⟨L3, cap3, uv', _, _, key, by rw [HMM.out, hpg]⟩, fun k hk hf => ?_, HKN.out.then_ HK9.out (fun k hk e => HEF.out k hk e)⟩
          have h1 := HS8.out
          have h2 := HB.out
          have h3 := HB4.out
          have h4 := HB3.out
          rcases HF9.out k (by omega) hf with e | e
          · exact HFF.out k hk e
          · omega
end Go.Proofs.YtimlmekgapdkiaaGreatDoor
