/- the tree: the order of two nodes -/
import Derived.Test.YtimlmekgapdkiaaGreatDoorTmp
namespace Go.Proofs.YtimlmekgapdkiaaGreatDoor
set_option linter.unusedVariables false
set_option linter.unusedSimpArgs false
open Go.RowKit Go.Cas

theorem cmpW_pre (T : List Nod) : ∀ (C : List Nat) (p : Nat) (X Y : List Nat), cmpW T p (C ++ X) (C ++ Y) = cmpW T (C.getLastD p) X Y := by
  intro C
  induction C with
  | nil => intro p X Y; rfl
  | cons c C ih =>
    intro p X Y
    simp only [List.cons_append, cmpW, if_true, List.getLastD_cons]
    exact ih c X Y
theorem getD_last : ∀ (C : List Nat) (r : Nat), (r :: C)[C.length]? = some (C.getLastD r) := by
  intro C
  induction C with
  | nil => intro r; rfl
  | cons c C ih => intro r; rw [List.getLastD_cons, ← ih c]; rfl
/-- two ways that go together for k nodes, then part -/
theorem ord_at {T : List Nod} {X Y : List Nat} {k q : Nat} (hk : 0 < k) (hkx : k ≤ X.length) (hky : k ≤ Y.length) (h : X.take k = Y.take k) (hq : X[k - 1]? = some q) : ordW T X Y = (cmpW T q (X.drop k) (Y.drop k), true) := by
  obtain ⟨C, hC⟩ : ∃ C, C = X.take k := ⟨_, rfl⟩
  have hX : X = C ++ X.drop k := by rw [hC, List.take_append_drop]
  have hY : Y = C ++ Y.drop k := by rw [hC, h, List.take_append_drop]
  obtain ⟨X', hX'⟩ : ∃ X', X' = X.drop k := ⟨_, rfl⟩
  obtain ⟨Y', hY'⟩ : ∃ Y', Y' = Y.drop k := ⟨_, rfl⟩
  have hCl : C.length = k := by rw [hC, List.length_take]; omega
  rw [← hX'] at hX ⊢
  rw [← hY'] at hY ⊢
  rw [hX] at hq ⊢
  rw [hY]
  rw [List.getElem?_append_left (by omega)] at hq
  cases C with
  | nil => simp at hCl; omega
  | cons r C =>
    simp only [List.cons_append, ordW, if_true]
    rw [cmpW_pre]
    have : C.getLastD r = q := by
      have h2 := getD_last C r
      have e : k - 1 = C.length := by simp at hCl; omega
      rw [e, h2] at hq
      exact Option.some.inj hq
    rw [this]
theorem take_next {X Y : List Nat} {k x : Nat} (h : X.take k = Y.take k) (hx : X[k]? = some x) (hy : Y[k]? = some x) : X.take (k + 1) = Y.take (k + 1) := by
  rw [List.take_add_one, List.take_add_one, h, hx, hy]
theorem c_Order_no {w : World} {B R : Nat} {F : Nat → Prop} {T : List Nod} {D : List (Value × List Nod)} (h : TS B R T D F w) (hT : T.length ≤ 400) (a b : Int) (hn : a < 0 ∨ (T.length : Int) ≤ a ∨ b < 0 ∨ (T.length : Int) ≤ b) :
    Calls Tryz.prog 40 #[.pointer (some ⟨R, 0, none⟩), .int .i64 a, .int .i64 b] w fun e w' => e = .returned (.tuple #[.int .i64 0, .bool false]) ∧ w = w' := by
  obtain ⟨L, cap, uv, Z, M, h1, hM, _⟩ := h.ns
  have hlM : M.length = T.length := by rw [← hM]; simp
  by_cases ha : a < 0 ∨ (T.length : Int) ≤ a
  · have HI := Lib.hid (c_is_no h1 a (by omega) (by omega))
    clear h h1 hM hn ha hlM
    go_enter Tryz.func40, Tryz.ntmps40
    go_wp2_with (go_at_call 45; refine (HI.out).mono ?_; rintro e w' ⟨rfl, rfl⟩)
    go_ret2
    exact ⟨rfl, rfl⟩
  · obtain ⟨i, rfl⟩ := Int.eq_ofNat_of_zero_le (show 0 ≤ a by omega)
    have HI := Lib.hid (c_is_yes h1 i (by omega) (by omega))
    have HI2 := Lib.hid (c_is_no h1 b (by omega) (by omega))
    clear h h1 hM hn ha hlM
    go_enter Tryz.func40, Tryz.ntmps40
    go_wp2_with (go_at_call 45; (first | with_reducible refine (HI.out).mono ?_ | with_reducible refine (HI2.out).mono ?_); rintro e w' ⟨rfl, rfl⟩)
    go_ret2
    exact ⟨rfl, rfl⟩
theorem ret_or {x : Int × Bool} {a : Int} {b : Bool} (h : x = (a, b)) : Ending.returned (.tuple #[.int .i64 a, .bool b]) = .returned (.tuple #[.int .i64 x.1, .bool x.2]) := by rw [h]
def OrRet (w : World) (x : Int × Bool) (e : Ending) (w' : World) : Prop := e = .returned (.tuple #[.int .i64 x.1, .bool x.2]) ∧ Below w.heap.size w w'
set_option maxRecDepth 100000 in
set_option maxHeartbeats 16000000 in
theorem c_Order {w : World} {B R i j : Nat} {F : Nat → Prop} {T : List Nod} {d : Nat → Nat} {D : List (Value × List Nod)} {X Y : List Nat} (h : TS B R T D F w) (hW : WF T d) (hT : T.length ≤ 400) (hi : i < T.length) (hj : j < T.length) (hX : Go.Cas.Way T i X) (hY : Go.Cas.Way T j Y) (hXl : X.length ≤ 1000) (hYl : Y.length ≤ 1000) :
    Calls Tryz.prog 40 #[.pointer (some ⟨R, 0, none⟩), .int .i64 (i : Int), .int .i64 (j : Int)] w (OrRet w (ordW T X Y)) := by
  obtain ⟨L, cap, uv, Z, M, h1, hM, _⟩ := h.ns
  have hlM : M.length = T.length := by rw [← hM]; simp
  have HI := Lib.hid (c_is_yes h1 i (by omega) (by omega))
  have HI2 := Lib.hid (c_is_yes h1 j (by omega) (by omega))
  have H := Lib.hid h
  have HW := Lib.hid hW
  have HT := Lib.hid hT
  have HX := Lib.hid hX
  have HY := Lib.hid hY
  have HIL := Lib.hid hi
  have HJL := Lib.hid hj
  have HWA := Lib.hid (c_way h hW hT hi hX hXl)
  have hxp : 0 < X.length := List.length_pos_iff.2 hX.ne
  have hyp : 0 < Y.length := List.length_pos_iff.2 hY.ne
  clear h hW hT hX hY hi hj h1 hM hlM
  go_enter Tryz.func40, Tryz.ntmps40
  go_upto_region 4 with (first | (go_at_call 45; (first | with_reducible refine (HI.out).mono ?_ | with_reducible refine (HI2.out).mono ?_); rintro e w' ⟨rfl, rfl⟩) | (go_at_call 67; (with_reducible refine (HWA.out).mono ?_); rintro e w1 ⟨vx, rfl, ho1, hb1⟩; have HO1 := Lib.hid ho1; have HB1 := Lib.hid hb1; clear ho1 hb1) | (go_at_call 67; refine (c_way (H.out.below HB1.out) HW.out HT.out HJL.out HY.out hYl).mono ?_; rintro e w2 ⟨vy, rfl, ho2, hb2⟩; have HO2 := Lib.hid ho2; have HB2 := Lib.hid hb2; clear ho2 hb2))
  have ho1 := own_keep HO1.out (fun k hk => HB2.out.block k (own_lt HO1.out hk).2)
  obtain ⟨gx, cx, ex, hgx, hgxl⟩ := ho1.form hxp
  subst ex
  obtain ⟨gy, cy, ey, hgy, hgyl⟩ := HO2.out.form hyp
  subst ey
  have hcx : ∀ (k x : Nat), X[k]? = some x → w2.cell? ⟨gx, k, none⟩ = some (.int .i64 (x : Int)) := fun k x hx => by
    have := ho1.cells (g := gx) rfl k _ (kic_get hx)
    rwa [add_none, Nat.zero_add] at this
  have hcy : ∀ (k x : Nat), Y[k]? = some x → w2.cell? ⟨gy, k, none⟩ = some (.int .i64 (x : Int)) := fun k x hx => by
    have := HO2.out.cells (g := gy) rfl k _ (kic_get hx)
    rwa [add_none, Nat.zero_add] at this
  have HCX := Lib.hid hcx
  have HCY := Lib.hid hcy
  have HBL := Lib.hid (bl_trans HB1.out HB2.out)
  have hT2 := H.out.below HBL.out
  have HT2 := Lib.hid hT2
  obtain ⟨rx, hrx⟩ : ∃ r, X[0]? = some r := ⟨_, List.getElem?_eq_getElem hxp⟩
  obtain ⟨ry, hry⟩ : ∃ r, Y[0]? = some r := ⟨_, List.getElem?_eq_getElem hyp⟩
  have d0 := hcx 0 rx hrx
  have d1 := hcy 0 ry hry
  have hxpi : (0 : Int) < (X.length : Int) := by omega
  have hypi : (0 : Int) < (Y.length : Int) := by omega
  have HRX := Lib.hid hrx
  have HRY := Lib.hid hry
  clear ho1 hcx hcy hT2 hrx hry HWA HI HI2
  by_cases hr : rx = ry
  case neg =>
    have hr1 : ¬ (rx : Int) = (ry : Int) := by omega
    have hr2 : ((rx : Int) != (ry : Int)) = true := by rw [bne_iff_ne]; exact hr1
    have HE : Hid (ordW T X Y = (0, false)) := by
      have h1 := HRX.out
      have h2 := HRY.out
      cases X with
      | nil => simp at h1
      | cons a X => cases Y with
        | nil => simp at h2
        | cons b Y =>
          simp at h1 h2
          subst h1 h2
          show (if a = b then _ else _) = _
          rw [if_neg hr]
    clear hr
    go_quiet (fail)
    go_wp2_with fail
    go_ret2
    exact ⟨ret_or HE.out, bl_drewN HBL.out _⟩
  subst hr
  have hr2 : ((rx : Int) != (rx : Int)) = false := by simp
  go_quiet (fail)
  go_wp2_with fail
  have HBQ : Hid (Below w.heap.size w (w2.drewN nq)) := bl_drewN HBL.out _
  have HBQ2 : Hid (Below w2.heap.size w2 (w2.drewN nq)) := bl_drewN (Below.refl _ _) _
  obtain ⟨w3, hw3⟩ : ∃ w3, w3 = w2.drewN nq := ⟨_, rfl⟩
  rw [← hw3] at HBQ HBQ2 ⊢
  clear hw3 d0 d1 hr2
  go_loopw [10] (fun a wr => ∃ (k : Nat), a = .int .i64 (k : Int) ∧ k ≤ X.length ∧ k ≤ Y.length ∧ Hid (X.take k = Y.take k) ∧ Hid (Below w.heap.size w wr) ∧ Hid (Below w2.heap.size w2 wr)) (fun a _ => X.length - (intOf a).toNat)
  case atStart => exact ⟨0, rfl, by omega, by omega, rfl, HBQ.out, HBQ2.out⟩
  case round =>
    obtain ⟨k, rfl, hkx, hky, HTK, HB, HB2⟩ := hrel
    have h0k : 0 ≤ (k : Int) := by omega
    have hcap : (k : Int) ≤ 1000 := by omega
    by_cases hx : k < X.length
    · obtain ⟨x, hxx⟩ : ∃ x, X[k]? = some x := ⟨_, List.getElem?_eq_getElem hx⟩
      have d0 := (HB2.out.cell (p := ⟨gx, k, none⟩) hgxl).trans (HCX.out k x hxx)
      have bx : decide ((k : Int) < (X.length : Int)) = true := by simpa using hx
      have bxi : (k : Int) < (X.length : Int) := by omega
      have lgx : gx < wr.heap.size := Nat.lt_of_lt_of_le hgxl HB2.out.size
      have lgy : gy < wr.heap.size := Nat.lt_of_lt_of_le hgyl HB2.out.size
      by_cases hy : k < Y.length
      · obtain ⟨y, hyy⟩ : ∃ y, Y[k]? = some y := ⟨_, List.getElem?_eq_getElem hy⟩
        have d1 := (HB2.out.cell (p := ⟨gy, k, none⟩) hgyl).trans (HCY.out k y hyy)
        have byi : (k : Int) < (Y.length : Int) := by omega
        have by1 : decide ((k : Int) < (Y.length : Int)) = true := by simpa using hy
        by_cases he : x = y
        · subst he
          have HTN := Lib.hid (take_next HTK.out hxx hyy)
          have b3 : ((x : Int) == (x : Int)) = true := by simp
          clear hxx hyy hx hy
          go_wp2_with fail
          go_quiet (fail)
          go_wp2_with fail
          go_roundw
          case rel => exact ⟨k + 1, by go_num, by omega, by omega, HTN.out, bl_drewN HB.out _, bl_drewN HB2.out _⟩
          case measure => simp [intOf]; omega
        · have hk0 : 0 < k := by
            rcases Nat.eq_zero_or_pos k with h0 | h0
            · subst h0
              rw [HRX.out] at hxx
              rw [HRY.out] at hyy
              exact absurd ((Option.some.inj hxx).symm.trans (Option.some.inj hyy)) he
            · exact h0
          obtain ⟨q, hq⟩ : ∃ q, X[k - 1]? = some q := ⟨_, List.getElem?_eq_getElem (by omega)⟩
          have hqT : q < T.length := HX.out.lt HW.out HIL.out q (List.mem_of_getElem? hq)
          have hxm : x ∈ (ndA T q).ki := HX.out.next HW.out HIL.out (k - 1) q x hq (by rw [show k - 1 + 1 = k by omega]; exact hxx)
          have hqY : Y[k - 1]? = some q := by
            have h1 : (X.take k)[k - 1]? = some q := by rw [List.getElem?_take_of_lt (by omega)]; exact hq
            rw [HTK.out, List.getElem?_take_of_lt (by omega)] at h1
            exact h1
          have hym : y ∈ (ndA T q).ki := HY.out.next HW.out HJL.out (k - 1) q y hqY (by rw [show k - 1 + 1 = k by omega]; exact hyy)
          have hord := ord_at (T := T) hk0 hkx hky HTK.out hq
          rw [List.drop_eq_getElem_cons hx, List.drop_eq_getElem_cons hy, (List.getElem?_eq_some_iff.1 hxx).2, (List.getElem?_eq_some_iff.1 hyy).2] at hord
          simp only [cmpW, if_neg he] at hord
          have HORD := Lib.hid hord
          have dq := (HB2.out.cell (p := ⟨gx, k - 1, none⟩) hgxl).trans (HCX.out (k - 1) q hq)
          have hTr := HT2.out.below HB2.out
          obtain ⟨L, cap, uv, Z, M, h1, hM, hZF⟩ := hTr.ns
          have hlM : M.length = T.length := by rw [← hM]; simp
          obtain ⟨yn, hyn⟩ : ∃ yn, M[q]? = some yn := ⟨_, List.getElem?_eq_getElem (by omega)⟩
          have hyx : ndA T q = yn.x := ndA_eq (by rw [← hM, List.getElem?_map, hyn]; rfl)
          obtain ⟨g0, _⟩ := h1.heads
          have hr := h1.ltR
          have hrL := h1.ltL
          obtain ⟨_, _, _, a5⟩ := h1.cell hyn
          have hrk := (h1.rd yn (List.mem_of_getElem? hyn)).2
          rw [← hyx] at hrk
          have hrs := hrk.toS (fun k hz => (h1.z k hz).2.1)
          obtain ⟨kl, hkl⟩ : ∃ kl, kl = (ndA T q).ki := ⟨_, rfl⟩
          rw [← hkl] at hrs hrk hxm hym hord
          have hkl4 : kl.length ≤ 400 := Nat.le_trans (nodup_lt _ kl (by rw [hkl]; exact HW.out.nd q hqT) (fun a ha => (HW.out.ki q hqT a (by rw [← hkl]; exact ha)).1)) HT.out
          obtain ⟨vk, hvk⟩ : ∃ vk, vk = yn.vk := ⟨_, rfl⟩
          rw [← hvk] at a5 hrs hrk
          have HI1 : Hid (∀ n, Calls Tryz.prog 68 #[vk, .int .i64 (x : Int)] (wr.drewN n) fun e w' => e = .returned (.int .i64 ((kl.idxOf x : Nat) : Int)) ∧ wr.drewN n = w') := fun n => c_Index (hrs.drewN n) (by omega) (Nat.le_refl _) hxm
          have HI2 : Hid (∀ n, Calls Tryz.prog 68 #[vk, .int .i64 (y : Int)] (wr.drewN n) fun e w' => e = .returned (.int .i64 ((kl.idxOf y : Nat) : Int)) ∧ wr.drewN n = w') := fun n => c_Index (hrs.drewN n) (by omega) (Nat.le_refl _) hym
          have HKL := Lib.hid hkl
          obtain ⟨ix, hix⟩ : ∃ ix, ix = kl.idxOf x := ⟨_, rfl⟩
          obtain ⟨iy, hiy⟩ : ∃ iy, iy = kl.idxOf y := ⟨_, rfl⟩
          rw [← hix] at HI1
          rw [← hiy] at HI2
          have HORD : Hid (ordW T X Y = ((if ix < iy then -1 else 1 : Int), true)) := by
            unfold Hid
            have := HORD.out
            unfold ixOf at this
            rw [← HKL.out, ← hix, ← hiy] at this
            exact this
          obtain ⟨_, Ak, ck, rfl, _, _⟩ := hrk
          have hqi : (q : Int) < (M.length : Int) := by omega
          have h0q : 0 ≤ (q : Int) := by omega
          have hl4 : M.length ≤ 400 := by have := HT.out; omega
          have v1 : IntKind.i64.wrap ((k : Int) - 1) = (k : Int) - 1 := IntWalk.i64_in _ (by omega)
          have v2 : ((k : Int) - 1).toNat = k - 1 := by omega
          have v3 : 0 ≤ (k : Int) - 1 := by omega
          have v4 : (k : Int) - 1 < (X.length : Int) := by omega
          have b3 : ((x : Int) == (y : Int)) = false := by rw [beq_eq_false_iff_ne]; omega
          have c1 : ¬ (k : Int) = (X.length : Int) := by omega
          have c2 : ((k : Int) == (X.length : Int)) = false := by rw [beq_eq_false_iff_ne]; exact c1
          have c3 : ((k : Int) == (Y.length : Int)) = false := by rw [beq_eq_false_iff_ne]; omega
          clear hxx hyy hx hy he hq hqT hxm hqY hym hord hTr h1 hM hlM hyn hyx hrs hkl hvk hk0 hZF hix hiy
          go_wp2_with fail
          go_quiet (fail)
          go_upto_region 15 with fail
          go_quiet (fail)
          go_upto_region 16 with fail
          by_cases hlt : ix < iy
          · have HE : Hid (ordW T X Y = (-1, true)) := by unfold Hid; rw [HORD.out, if_pos hlt]
            have z1 : (ix : Int) < (iy : Int) := by omega
            clear hlt
            go_quiet ((go_at_call 68; (first | with_reducible exact q_add (HI1.out _) | with_reducible exact q_add (HI2.out _))))
            go_wp2_with fail
            go_ret2
            exact ⟨ret_or HE.out, by repeat (first | exact HB.out | refine bl_drewN ?_ _)⟩
          · have HE : Hid (ordW T X Y = (1, true)) := by unfold Hid; rw [HORD.out, if_neg hlt]
            have z1 : ¬ (ix : Int) < (iy : Int) := by omega
            clear hlt
            go_quiet ((go_at_call 68; (first | with_reducible exact q_add (HI1.out _) | with_reducible exact q_add (HI2.out _))))
            go_wp2_with fail
            go_ret2
            exact ⟨ret_or HE.out, by repeat (first | exact HB.out | refine bl_drewN ?_ _)⟩
      · have hky2 : k = Y.length := by omega
        have hk0 : 0 < k := by omega
        obtain ⟨q, hq⟩ : ∃ q, X[k - 1]? = some q := ⟨_, List.getElem?_eq_getElem (by omega)⟩
        have hord := ord_at (T := T) hk0 hkx hky HTK.out hq
        rw [List.drop_eq_getElem_cons hx, show Y.drop k = [] from List.drop_eq_nil_of_le (by omega)] at hord
        have HE : Hid (ordW T X Y = (1, true)) := hord
        subst hky2
        have c1 : ¬ (Y.length : Int) = (X.length : Int) := by omega
        have c2 : ((Y.length : Int) == (X.length : Int)) = false := by rw [beq_eq_false_iff_ne]; exact c1
        have bx3 : decide (Y.length < X.length) = true := by simpa using hx
        clear hxx hy hord hq hk0
        go_wp2_with fail
        go_quiet (fail)
        go_wp2_with fail
        go_ret2
        exact ⟨ret_or HE.out, by repeat (first | exact HB.out | refine bl_drewN ?_ _)⟩
    · have hkx2 : k = X.length := by omega
      have hk0 : 0 < k := by omega
      obtain ⟨q, hq⟩ : ∃ q, X[k - 1]? = some q := ⟨_, List.getElem?_eq_getElem (by omega)⟩
      have hord := ord_at (T := T) hk0 hkx hky HTK.out hq
      by_cases hy : k < Y.length
      · rw [show X.drop k = [] from List.drop_eq_nil_of_le (by omega), List.drop_eq_getElem_cons hy] at hord
        have HE : Hid (ordW T X Y = (-1, true)) := hord
        subst hkx2
        have c3 : ((X.length : Int) == (Y.length : Int)) = false := by rw [beq_eq_false_iff_ne]; omega
        have c4 : ¬ (X.length : Int) = (Y.length : Int) := by omega
        clear hx hord hq hk0
        go_wp2_with fail
        go_quiet (fail)
        go_wp2_with fail
        go_ret2
        exact ⟨ret_or HE.out, by repeat (first | exact HB.out | refine bl_drewN ?_ _)⟩
      · have hky2 : k = Y.length := by omega
        rw [show X.drop k = [] from List.drop_eq_nil_of_le (by omega), show Y.drop k = [] from List.drop_eq_nil_of_le (by omega)] at hord
        have HE : Hid (ordW T X Y = (0, true)) := hord
        subst hkx2
        have c3 : ((X.length : Int) == (Y.length : Int)) = true := by rw [beq_iff_eq]; omega
        clear hx hy hord hq hk0 hky2
        go_wp2_with fail
        go_quiet (fail)
        go_wp2_with fail
        go_ret2
        exact ⟨ret_or HE.out, by repeat (first | exact HB.out | refine bl_drewN ?_ _)⟩
end Go.Proofs.YtimlmekgapdkiaaGreatDoor
