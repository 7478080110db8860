/- the tree: Copy; the tree: Copy that fails; the tree: any change, whatever it is asked -/
import Derived.Test.YtimlmekgapdkiaaGreatDoorVm
import Derived.Test.YtimlmekgapdkiaaGreatDoorUb
namespace Go.Proofs.YtimlmekgapdkiaaGreatDoor
set_option linter.unusedVariables false
set_option linter.unusedSimpArgs false
open Go.RowKit Go.Cas

set_option maxRecDepth 100000 in
set_option maxHeartbeats 4000000 in
theorem c_Copy1 {w : World} {B R L cap b b6 : Nat} {uv : Value} {Z : Nat → Prop} {M M' K : List NV} (h : NS B R L cap uv Z M w) (hM : M = M' ++ K) (hb : Bk w b 23 #[.pointer (some ⟨R, 0, none⟩)]) (hb6 : Bk w b6 3 #[.int .i64 (M'.length : Int)]) (hl : M.length ≤ 400) :
    Calls Tryz.prog 66 #[.pointer (some ⟨b, 0, none⟩), .pointer (some ⟨b6, 0, none⟩)] w fun e w3 => (∃ u, e = .returned u) ∧ NS B R L M'.length uv Z M' w3 ∧ Kept w w3 (fun k => k = R ∨ k = L) := by
  obtain ⟨w2, hw2⟩ : ∃ w2, w2 = w.drew := ⟨_, rfl⟩
  have h2 : NS B R L cap uv Z M w2 := by rw [hw2]; exact h.below (bl_drew (Below.refl _ w))
  have H := Lib.hid h2
  obtain ⟨g0, g1, g2, g3⟩ := h2.heads
  have hr := h2.ltR
  have e0 : w2.cell? ⟨b, 0, none⟩ = some (.pointer (some ⟨R, 0, none⟩)) := by rw [hw2]; exact hb.cell 0
  have e6 : w2.cell? ⟨b6, 0, none⟩ = some (.int .i64 (M'.length : Int)) := by rw [hw2]; exact hb6.cell 0
  have hcap := h.cap.1
  have e1 : M.length = M'.length + K.length := by rw [hM]; simp
  obtain ⟨n, hn⟩ : ∃ n, n = M'.length := ⟨_, rfl⟩
  rw [← hn] at e1 e6
  obtain ⟨m, hm⟩ : ∃ m, m = M.length := ⟨_, rfl⟩
  rw [← hm] at g0 hl hcap e1
  have hcn : (n : Int) ≤ (cap : Int) := by omega
  have hcn2 : n ≤ cap := by omega
  have h0n : 0 ≤ (n : Int) := by omega
  have v2 : (n : Int).toNat = n := rfl
  have HN := Lib.hid hn
  have HM := Lib.hid hM
  have HW2 := Lib.hid hw2
  clear h h2 hb hb6 hn hM e1 hw2 hm
  go_enter Tryz.func66, Tryz.ntmps66
  go_wp2_with fail
  refine wp_region_still_tail 10 (by kernel_rfl) (by kernel_rfl) ?_
  simp only [List.take_succ_cons, List.take_zero, List.drop_succ_cons, List.drop_zero]
  change wpStill _ _ (World.drew _) _ _ _
  rw [← HW2.out]
  repeat still_step
  refine wpStill_nil ?_
  change wpList _ _ _ _ _ (World.drew _)
  rw [← HW2.out]
  go_wp2_with fail
  go_end0
  refine ⟨⟨_, rfl⟩, ?_, ?_⟩
  · rw [HN.out]; exact H.out.shrink HM.out
  · rw [HW2.out]; exact ((Kept.refl w _).drew).set_ R 0 (fun _ => .inl rfl) _
theorem enter_Copy1 (cs : Array Value) (w : World) : (callFunc 66 cs).run Tryz.prog w = .ok (.enter 66 cs) w := by kernel_rfl
theorem ext_take {T U : List Nod} (h : Ext T U) : U.take T.length = T := by
  apply List.ext_getElem?
  intro j
  rw [List.getElem?_take]
  by_cases hj : j < T.length
  · rw [if_pos hj, ndA_get (Nat.lt_of_lt_of_le hj h.le), h.eq j hj, ← ndA_get hj]
  · rw [if_neg hj, List.getElem?_eq_none (by omega)]
theorem u_Copy {w : World} {B R b b6 : Nat} {Z : Nat → Prop} {T U : List Nod} (hb : Bk w b 23 #[.pointer (some ⟨R, 0, none⟩)]) (hb6 : Bk w b6 3 #[.int .i64 (T.length : Int)]) (hz : Z b) (hz6 : Z b6) (hE : Ext T U) (hU : U.length ≤ 400) :
    UOk B R Z w (.func (.func 66) #[] #[.pointer (some ⟨b, 0, none⟩), .pointer (some ⟨b6, 0, none⟩)]) U T := by
  refine ⟨_, _, rfl, enter_Copy1 _, fun w2 L2 cap2 uv2 Z2 M2 h1 h2 h3 => ?_⟩
  have hl : M2.length = U.length := by rw [← h3]; simp
  have hM : M2 = M2.take T.length ++ M2.drop T.length := (List.take_append_drop _ _).symm
  have hT : (M2.take T.length).map NV.x = T := by rw [List.map_take, h3, ext_take hE]
  have htl : (M2.take T.length).length = T.length := by rw [List.length_take, hl]; have := hE.le; omega
  have hbk : Bk w2 b 23 #[.pointer (some ⟨R, 0, none⟩)] := (h1 b hz).1.trans hb
  have hbk6 : Bk w2 b6 3 #[.int .i64 ((M2.take T.length).length : Int)] := by rw [htl]; exact (h1 b6 hz6).1.trans hb6
  exact (c_Copy1 h2 hM hbk hbk6 (by omega)).mono fun e w3 ⟨q1, q2, q3⟩ => ⟨q1, _, _, q2, hT, q3⟩
def CpyRet (B R : Nat) (U T : List Nod) (D : List (Value × List Nod)) (F : Nat → Prop) (w : World) (e : Ending) (w' : World) : Prop := e = .returned (.tuple #[.int .i64 (T.length : Int), .nilIface]) ∧ ∃ v, TOp B R U ((v, T) :: D) F w w'
set_option maxRecDepth 100000 in
set_option maxHeartbeats 8000000 in
theorem c_Copy {w : World} {B R i Dm : Nat} {F : Nat → Prop} {T : List Nod} {d : Nat → Nat} {D : List (Value × List Nod)} (h : TS B R T D F w) (hW : WF T d) (hDm : ∀ k, k < T.length → d k ≤ Dm) (hD : D.length ≤ 1000000000000) (hT : T.length ≤ 400) (hi : i < T.length) (hi0 : i ≠ 0)
    (hlen : T.length + (und T (Dm + 1) i).length ≤ 400) :
    Calls Tryz.prog 35 #[.pointer (some ⟨R, 0, none⟩), .int .i64 (i : Int)] w (CpyRet B R (cpF (Dm + 1) T i (-1)) T D F w) := by
  have hCP := cpF_ok hW (Dm + 1) T i (-1) (Ext.refl T) hi
  have HCP := Lib.hid hCP
  obtain ⟨U, hU⟩ : ∃ U, U = cpF (Dm + 1) T i (-1) := ⟨_, rfl⟩
  rw [← hU] at HCP ⊢
  have HUN : Hid (∀ W', Below w.heap.size w W' → Calls Tryz.prog 18 #[.pointer (some ⟨R, 0, none⟩), .int .i64 (i : Int)] W' (WyRet W' (und T (Dm + 1) i))) := fun W' hb => c_UnderF hW hDm hT (Dm + 1) W' i (h.below hb) hi (by omega)
  have HCY : Hid (∀ (w : World) (L cap : Nat) (uv : Value) (Z F : Nat → Prop) (M : List NV), TSi B R L cap uv Z M T D F w → M.map NV.x = T → Calls Tryz.prog 65 #[.pointer (some ⟨R, 0, none⟩), .int .i64 (i : Int), .int .i64 (-1)] w (CyRet B R L uv Z F T D U M.length w)) := fun w L cap uv Z F M h1 h2 => by
    have := c_copied (Tc := T) (D := D) (uv := uv) hW hDm (Dm + 1) w L cap Z F M i (-1) h1 (by rw [h2]; exact Ext.refl T) hi (by omega) (by rw [h2]; exact hlen) (by omega)
    rw [h2, ← hU] at this
    exact this
  obtain ⟨u, hu⟩ : ∃ u, u = und T (Dm + 1) i := ⟨_, rfl⟩
  rw [← hu] at hlen HUN HCP
  obtain ⟨L, cap, uv, Z, M, h1, hM⟩ := h
  have H := Lib.hid h1
  have HM := Lib.hid hM
  have HD := Lib.hid hD
  have hlM : M.length = T.length := by rw [← hM]; simp
  have HLM := Lib.hid hlM
  obtain ⟨b, hb⟩ : ∃ b, b = w.heap.size := ⟨_, rfl⟩
  obtain ⟨w1, hw1⟩ : ∃ w1, w1 = w.alloc (.cells #[.pointer (some ⟨R, 0, none⟩)] 23) := ⟨_, rfl⟩
  obtain ⟨w2, hw2⟩ : ∃ w2, w2 = w1.alloc (.cells #[.int .i64 (M.length : Int)] 3) := ⟨_, rfl⟩
  have hbl1 : Below w.heap.size w w1 := by rw [hw1]; exact bl_alloc (Below.refl _ _) _
  have hbl2 : Below w.heap.size w w2 := by rw [hw2]; exact bl_alloc hbl1 _
  have hbk1 : Bk w1 b 23 #[.pointer (some ⟨R, 0, none⟩)] := by rw [hw1, hb]; exact bk_new' _ _ _ rfl
  have hbk2 : Bk w2 b 23 #[.pointer (some ⟨R, 0, none⟩)] := by rw [hw2]; exact hbk1.alloc _
  have hbk3 : Bk w2 (b + 1) 3 #[.int .i64 (M.length : Int)] := by rw [hw2, hb]; exact bk_new' _ _ _ (by rw [hw1]; simp)
  have hS1 := h1.below hbl1
  have HI := Lib.hid (c_is_yes hS1.ns i (by omega) (by omega))
  have e0 : w1.cell? ⟨b, 0, none⟩ = some (.pointer (some ⟨R, 0, none⟩)) := hbk1.cell 0
  obtain ⟨g0, _⟩ := hS1.ns.heads
  have hr := hS1.ns.ltR
  have lb := hbk1.lt
  have hii0 : ¬ (i : Int) = 0 := by omega
  have hii1 : ((i : Int) == 0) = false := by rw [beq_eq_false_iff_ne]; exact hii0
  have HB := Lib.hid hb
  have HBL2 := Lib.hid hbl2
  have HBK2 := Lib.hid hbk2
  have HBK3 := Lib.hid hbk3
  have HW1 := Lib.hid hw1
  have HW2 := Lib.hid hw2
  have HSZ1 : Hid (w1.heap.size = b + 1) := by unfold Hid; rw [hw1, hb]; simp
  have hsum : M.length + u.length ≤ 400 := by omega
  clear h1 hM hD hW hDm hT hi hi0 hlen hCP hU hu hb hw1 hw2 hbl1 hbl2 hbk1 hbk2 hbk3 hS1 hlM
  go_enter Tryz.func35, Tryz.ntmps35
  go_upto_region 1 with fail
  rw [← HW1.out, ← HB.out]
  go_upto_region 6 with (go_at_call 45; refine (HI.out).mono ?_; rintro e w' ⟨rfl, rfl⟩)
  rw [← HW2.out, HSZ1.out]
  go_cut [26] (fun v26 wx => v26 = .bool false ∧ Hid (Below w2.heap.size w2 wx))
  case first =>
    have HF : Hid (∀ W', Below w2.heap.size w2 W' → W'.cell? ⟨b + 1, 0, none⟩ = some (.int .i64 (M.length : Int)) ∧ W'.cell? ⟨b, 0, none⟩ = some (.pointer (some ⟨R, 0, none⟩))) := fun W' hb => ⟨(Bk.below HBK3.out hb HBK3.out.lt).cell 0, (Bk.below HBK2.out hb HBK2.out.lt).cell 0⟩
    have HUX : Hid (∀ W', Below w2.heap.size w2 W' → Calls Tryz.prog 18 #[.pointer (some ⟨R, 0, none⟩), .int .i64 (i : Int)] W' (WyRet W' u)) := fun W' hb => HUN.out W' (bl_trans HBL2.out hb)
    have hsi : IntKind.i64.wrap ((M.length : Int) + (u.length : Int)) = (M.length : Int) + (u.length : Int) := IntWalk.i64_in _ (by omega)
    have hgt : ¬ (400 : Int) < (M.length : Int) + (u.length : Int) := by omega
    obtain ⟨s0, s1⟩ := HF.out w2 (Below.refl _ _)
    clear e0 g0 hr lb
    go_region_held3 (fun w' => w'.cell? ⟨b + 1, 0, none⟩ = some (.int .i64 (M.length : Int)) ∧ w'.cell? ⟨b, 0, none⟩ = some (.pointer (some ⟨R, 0, none⟩)))
      (first | with_reducible exact HF.out _ (Below.refl _ _) | with_reducible exact HF.out _ (bl_drew (Below.refl _ _)) | with_reducible exact HF.out _ HBU.out)
      (first | (go_at_call 18; (with_reducible refine (HUX.out _ (bl_drew (Below.refl _ _))).mono ?_); rintro e wu ⟨vu, rfl, hou, hbu⟩; obtain ⟨_, Au, cu, rfl, _, _⟩ := RdS.of_own hou; have HBU : Hid (Below w2.heap.size w2 wu) := bl_trans (bl_drew (Below.refl _ _)) hbu; clear hou hbu))
    all_goals
      go_wp2_with fail
      go_meet
      exact ⟨by simp <;> omega, HBU.out⟩
  case rest =>
    obtain ⟨rfl, HBC⟩ := hcut
    obtain ⟨w3, rfl⟩ : ∃ w3 : World, w3 = wc := ⟨_, rfl⟩
    clear e0 g0 hr lb
    have hb3 := Bk.below HBK2.out HBC.out HBK2.out.lt
    have hb4 := Bk.below HBK3.out HBC.out HBK3.out.lt
    have e0 : w3.cell? ⟨b, 0, none⟩ = some (.pointer (some ⟨R, 0, none⟩)) := hb3.cell 0
    have lb := hb3.lt
    have hbl3 : Below w.heap.size w w3 := bl_trans HBL2.out HBC.out
    have HBL3 := Lib.hid hbl3
    have HS3 := Lib.hid (H.out.below hbl3)
    have HC3 := Lib.hid (HCY.out w3 L cap uv Z F M HS3.out HM.out)
    have HBK4 := Lib.hid hb3
    have HBK5 := Lib.hid hb4
    clear hb3 hb4 hbl3
    go_upto_region 9 with (go_at_call 65; refine (HC3.out).mono ?_; rintro e w5 ⟨rfl, L5, cap5, Z5, M5, F5, hS5, hM5, hZ5, hF5, hK5, hL5⟩; have HS5 := Lib.hid hS5; have HM5 := Lib.hid hM5; have HZ5 := Lib.hid hZ5; have HF5 := Lib.hid hF5; have HK5 := Lib.hid hK5; have HL5 := Lib.hid hL5; clear hS5 hM5 hZ5 hF5 hK5 hL5)
    have hRb : R < b ∧ L < b := by have h1 := H.out.ns.ltR; have h2 := H.out.ns.ltL; have := HB.out; omega
    have hb5 : Bk w5 b 23 #[.pointer (some ⟨R, 0, none⟩)] := HK5.out.bk HBK4.out (fun e => by omega)
    have hb6 : Bk w5 (b + 1) 3 #[.int .i64 (M.length : Int)] := HK5.out.bk HBK5.out (fun e => by omega)
    have hB : B ≤ b := by have := H.out.ns.geo.1; omega
    have hnF : ∀ k, k = b ∨ k = b + 1 → ¬ F5 k := fun k hk e => by
      have h1 := HBK4.out.lt
      have h2 := HBK5.out.lt
      have h3 := HF5.out k (by omega) e
      have h4 := (H.out.fb k h3).2
      have := HB.out
      omega
    have hSz := HS5.out.wideZ (fun k => k = b ∨ k = b + 1) (fun k hk => ⟨by omega, by have h1 := hb5.lt; have h2 := hb6.lt; omega, fun e => hnF k hk (HS5.out.f k (.inl e))⟩)
    have hUk : UOk B R (fun k => Z5 k ∨ (k = b ∨ k = b + 1)) w5 (.func (.func 66) #[] #[.pointer (some ⟨b, 0, none⟩), .pointer (some ⟨b + 1, 0, none⟩)]) (M5.map NV.x) T := by
      rw [HM5.out]
      refine u_Copy hb5 (by rw [← HLM.out]; exact hb6) (.inr (.inl rfl)) (.inr (.inr rfl)) HCP.out.ext ?_
      rw [HCP.out.len, ← HLM.out]; exact hsum
    have HDN := Lib.hid (c_done hSz hUk HD.out)
    have c0 : w5.cell? ⟨b, 0, none⟩ = some (.pointer (some ⟨R, 0, none⟩)) := hb5.cell 0
    have c1 := hb5.lt
    have HB6 := Lib.hid hb6
    have HNX : Hid (¬ exT R L5 uv (b + 1)) := fun e => hnF (b + 1) (.inr rfl) (HS5.out.f _ (.inl e))
    have HEX : Hid (∀ k, exT R L5 uv k → F5 k) := fun k hk => HS5.out.f k (.inl hk)
    clear hRb hb5 hb6 hB hnF hSz hUk e0 lb
    go_upto_region 10 with (go_at_call 55; refine (HDN.out).mono ?_; rintro e w6 ⟨⟨u6, rfl⟩, uv6, F6, hS6, hF6, hK6⟩; have HS6 := Lib.hid hS6; have HF6 := Lib.hid hF6; have HK6 := Lib.hid hK6; clear hS6 hF6 hK6)
    have hb7 := HK6.out.bk HB6.out HNX.out
    have c5 : w6.cell? ⟨b + 1, 0, none⟩ = some (.int .i64 (M.length : Int)) := hb7.cell 0
    have l5 := hb7.lt
    clear hb7 c0 c1
    go_wp2_with fail
    go_ret2
    have key := HS6.out
    rw [HM5.out] at key
    have k3 : Kept w w3 F := Kept.of_below HBL3.out F
    have hs3 := HBL3.out.size
    have k5 : Kept w w5 F := k3.then_ HK5.out (fun k hk e => by
      rcases e with e | e
      · rw [e]; exact H.out.f R (.inl (.inl rfl))
      · rw [e]; exact H.out.f L (.inl (.inr (.inl rfl))))
    refine ⟨ret_ix (by rw [HLM.out]), _, F6, ⟨L5, cap5, uv6, _, _, key, HM5.out⟩, fun k hk hf => ?_, k5.then_ HK6.out (fun k hk e => HF5.out k (by omega) (HEX.out k e))⟩
    rcases HF6.out k (by have := HK5.out.size; omega) hf with e | e
    · exact HF5.out k (by omega) e
    · exfalso; have := HB.out; omega
end Go.Proofs.YtimlmekgapdkiaaGreatDoor
namespace Go.Proofs.YtimlmekgapdkiaaGreatDoor
set_option linter.unusedVariables false
set_option linter.unusedSimpArgs false
open Go.RowKit Go.Cas

theorem c_Copy_no {w : World} {B R : Nat} {F : Nat → Prop} {T : List Nod} {D : List (Value × List Nod)} {a : Int} {p : Nat → Addr} (h : TS B R T D F w) (hG : GE w B p) (hT : T.length ≤ 400) (ha : a < 0 ∨ (T.length : Int) ≤ a) :
    Calls Tryz.prog 35 #[.pointer (some ⟨R, 0, none⟩), .int .i64 a] w (ErRet p 4 w) := by
  obtain ⟨w1, hw1⟩ : ∃ w1, w1 = w.alloc (.cells #[.pointer (some ⟨R, 0, none⟩)] 23) := ⟨_, rfl⟩
  obtain ⟨b, hb⟩ : ∃ b, b = w.heap.size := ⟨_, rfl⟩
  have hbk0 : Bk w1 b 23 #[.pointer (some ⟨R, 0, none⟩)] := by rw [hw1, hb]; exact bk_new' _ _ _ rfl
  have hbl : Below w.heap.size w w1 := by rw [hw1]; exact bl_alloc (Below.refl _ _) _
  have h2 := h.below hbl
  obtain ⟨L, cap, uv, Z, M, h1, hM, _⟩ := h2.ns
  have hlM : M.length = T.length := by rw [← hM]; simp
  have HI := Lib.hid (c_is_no h1 a (by omega) (by omega))
  have e0 : w1.cell? ⟨b, 0, none⟩ = some (.pointer (some ⟨R, 0, none⟩)) := hbk0.cell 0
  have l1 := hbk0.lt
  have HG := Lib.hid (hG.below (hbl.mono hG.lt.2))
  have z1 := HG.out.node
  have z2 : 1 < w1.heap.size := by have := HG.out.lt; omega
  have HBL := Lib.hid hbl
  have HB := Lib.hid hb
  have HW1 := Lib.hid hw1
  clear h hG hT ha hw1 hb hbk0 hbl h2 h1 hM hlM
  go_enter Tryz.func35, Tryz.ntmps35
  go_upto_region 1 with fail
  rw [← HW1.out, ← HB.out]
  go_upto_region 2 with (go_at_call 45; refine (HI.out).mono ?_; rintro e w' ⟨rfl, rfl⟩)
  go_quiet (fail)
  go_wp2_with fail
  go_ret2
  exact ⟨rfl, bl_drewN HBL.out _⟩
theorem c_Copy_root {w : World} {B R : Nat} {F : Nat → Prop} {T : List Nod} {D : List (Value × List Nod)} {p : Nat → Addr} (h : TS B R T D F w) (hG : GE w B p) (hT : T.length ≤ 400) (h0 : 0 < T.length) :
    Calls Tryz.prog 35 #[.pointer (some ⟨R, 0, none⟩), .int .i64 0] w (ErRet p 5 w) := by
  obtain ⟨w1, hw1⟩ : ∃ w1, w1 = w.alloc (.cells #[.pointer (some ⟨R, 0, none⟩)] 23) := ⟨_, rfl⟩
  obtain ⟨b, hb⟩ : ∃ b, b = w.heap.size := ⟨_, rfl⟩
  have hbk0 : Bk w1 b 23 #[.pointer (some ⟨R, 0, none⟩)] := by rw [hw1, hb]; exact bk_new' _ _ _ rfl
  have hbl : Below w.heap.size w w1 := by rw [hw1]; exact bl_alloc (Below.refl _ _) _
  have h2 := h.below hbl
  obtain ⟨L, cap, uv, Z, M, h1, hM, _⟩ := h2.ns
  have hlM : M.length = T.length := by rw [← hM]; simp
  have HI : Hid (Calls Tryz.prog 45 #[.pointer (some ⟨R, 0, none⟩), .int .i64 0] w1 fun e w' => e = .returned (.bool true) ∧ w1 = w') := c_is_yes h1 0 (by omega) (by omega)
  have e0 : w1.cell? ⟨b, 0, none⟩ = some (.pointer (some ⟨R, 0, none⟩)) := hbk0.cell 0
  have l1 := hbk0.lt
  have HG := Lib.hid (hG.below (hbl.mono hG.lt.2))
  have z1 := HG.out.place
  have z2 : 2 < w1.heap.size := by have := HG.out.lt; omega
  have HBL := Lib.hid hbl
  have HB := Lib.hid hb
  have HW1 := Lib.hid hw1
  clear h hG hT hw1 hb hbk0 hbl h2 h1 hM hlM h0
  go_enter Tryz.func35, Tryz.ntmps35
  go_upto_region 1 with fail
  rw [← HW1.out, ← HB.out]
  go_upto_region 4 with (go_at_call 45; refine (HI.out).mono ?_; rintro e w' ⟨rfl, rfl⟩)
  go_quiet (fail)
  go_wp2_with fail
  go_ret2
  exact ⟨rfl, bl_drewN HBL.out _⟩
set_option maxRecDepth 100000 in
set_option maxHeartbeats 8000000 in
theorem c_Copy_big {w : World} {B R i Dm : Nat} {F : Nat → Prop} {T : List Nod} {d : Nat → Nat} {D : List (Value × List Nod)} {p : Nat → Addr} (h : TS B R T D F w) (hG : GE w B p) (hW : WF T d) (hDm : ∀ k, k < T.length → d k ≤ Dm) (hT : T.length ≤ 400) (hi : i < T.length) (hi0 : i ≠ 0)
    (hlen : 400 < T.length + (und T (Dm + 1) i).length) :
    Calls Tryz.prog 35 #[.pointer (some ⟨R, 0, none⟩), .int .i64 (i : Int)] w (ErRet p 2 w) := by
  have HUN : Hid (∀ W', Below w.heap.size w W' → Calls Tryz.prog 18 #[.pointer (some ⟨R, 0, none⟩), .int .i64 (i : Int)] W' (WyRet W' (und T (Dm + 1) i))) := fun W' hb => c_UnderF hW hDm hT (Dm + 1) W' i (h.below hb) hi (by omega)
  have hu4 := und_len hW (Dm + 1) i hi
  obtain ⟨u, hu⟩ : ∃ u, u = und T (Dm + 1) i := ⟨_, rfl⟩
  rw [← hu] at hlen HUN hu4
  obtain ⟨L, cap, uv, Z, M, h1, hM⟩ := h
  have hlM : M.length = T.length := by rw [← hM]; simp
  obtain ⟨b, hb⟩ : ∃ b, b = w.heap.size := ⟨_, rfl⟩
  obtain ⟨w1, hw1⟩ : ∃ w1, w1 = w.alloc (.cells #[.pointer (some ⟨R, 0, none⟩)] 23) := ⟨_, rfl⟩
  obtain ⟨w2, hw2⟩ : ∃ w2, w2 = w1.alloc (.cells #[.int .i64 (M.length : Int)] 3) := ⟨_, rfl⟩
  have hbl1 : Below w.heap.size w w1 := by rw [hw1]; exact bl_alloc (Below.refl _ _) _
  have hbl2 : Below w.heap.size w w2 := by rw [hw2]; exact bl_alloc hbl1 _
  have hbk1 : Bk w1 b 23 #[.pointer (some ⟨R, 0, none⟩)] := by rw [hw1, hb]; exact bk_new' _ _ _ rfl
  have hbk2 : Bk w2 b 23 #[.pointer (some ⟨R, 0, none⟩)] := by rw [hw2]; exact hbk1.alloc _
  have hbk3 : Bk w2 (b + 1) 3 #[.int .i64 (M.length : Int)] := by rw [hw2, hb]; exact bk_new' _ _ _ (by rw [hw1]; simp)
  have hS1 := h1.below hbl1
  have HI := Lib.hid (c_is_yes hS1.ns i (by omega) (by omega))
  have e0 : w1.cell? ⟨b, 0, none⟩ = some (.pointer (some ⟨R, 0, none⟩)) := hbk1.cell 0
  obtain ⟨g0, _⟩ := hS1.ns.heads
  have hr := hS1.ns.ltR
  have lb := hbk1.lt
  have hii0 : ¬ (i : Int) = 0 := by omega
  have hii1 : ((i : Int) == 0) = false := by rw [beq_eq_false_iff_ne]; exact hii0
  have HB := Lib.hid hb
  have HBL2 := Lib.hid hbl2
  have HBK2 := Lib.hid hbk2
  have HBK3 := Lib.hid hbk3
  have HW1 := Lib.hid hw1
  have HW2 := Lib.hid hw2
  have HSZ1 : Hid (w1.heap.size = b + 1) := by unfold Hid; rw [hw1, hb]; simp
  have hsum : 400 < M.length + u.length := by omega
  have hm4 : M.length ≤ 400 := by omega
  have hu44 : u.length ≤ 400 := by omega
  have HG := Lib.hid hG
  clear h1 hM hW hDm hT hi hi0 hlen hu hb hw1 hw2 hbl1 hbl2 hbk1 hbk2 hbk3 hS1 hlM hG hu4
  go_enter Tryz.func35, Tryz.ntmps35
  go_upto_region 1 with fail
  rw [← HW1.out, ← HB.out]
  go_upto_region 6 with (go_at_call 45; refine (HI.out).mono ?_; rintro e w' ⟨rfl, rfl⟩)
  rw [← HW2.out, HSZ1.out]
  go_cut [26] (fun v26 wx => v26 = .bool true ∧ Hid (Below w2.heap.size w2 wx))
  case first =>
    have HF : Hid (∀ W', Below w2.heap.size w2 W' → W'.cell? ⟨b + 1, 0, none⟩ = some (.int .i64 (M.length : Int)) ∧ W'.cell? ⟨b, 0, none⟩ = some (.pointer (some ⟨R, 0, none⟩))) := fun W' hb => ⟨(Bk.below HBK3.out hb HBK3.out.lt).cell 0, (Bk.below HBK2.out hb HBK2.out.lt).cell 0⟩
    have HUX : Hid (∀ W', Below w2.heap.size w2 W' → Calls Tryz.prog 18 #[.pointer (some ⟨R, 0, none⟩), .int .i64 (i : Int)] W' (WyRet W' u)) := fun W' hb => HUN.out W' (bl_trans HBL2.out hb)
    have hsi : IntKind.i64.wrap ((M.length : Int) + (u.length : Int)) = (M.length : Int) + (u.length : Int) := IntWalk.i64_in _ (by omega)
    have hgt : (400 : Int) < (M.length : Int) + (u.length : Int) := by omega
    obtain ⟨s0, s1⟩ := HF.out w2 (Below.refl _ _)
    clear e0 g0 hr lb
    go_region_held3 (fun w' => w'.cell? ⟨b + 1, 0, none⟩ = some (.int .i64 (M.length : Int)) ∧ w'.cell? ⟨b, 0, none⟩ = some (.pointer (some ⟨R, 0, none⟩)))
      (first | with_reducible exact HF.out _ (Below.refl _ _) | with_reducible exact HF.out _ (bl_drew (Below.refl _ _)) | with_reducible exact HF.out _ HBU.out)
      (first | (go_at_call 18; (with_reducible refine (HUX.out _ (bl_drew (Below.refl _ _))).mono ?_); rintro e wu ⟨vu, rfl, hou, hbu⟩; obtain ⟨_, Au, cu, rfl, _, _⟩ := RdS.of_own hou; have HBU : Hid (Below w2.heap.size w2 wu) := bl_trans (bl_drew (Below.refl _ _)) hbu; clear hou hbu))
    all_goals
      go_wp2_with fail
      go_meet
      exact ⟨by simp <;> omega, HBU.out⟩
  case rest =>
    obtain ⟨rfl, HBC⟩ := hcut
    have hb3 := bl_trans HBL2.out HBC.out
    have HBL3 := Lib.hid hb3
    have hg := HG.out.below (hb3.mono HG.out.lt.2)
    have z1 := hg.bound
    have z2 : 3 < wc.heap.size := by have := hg.lt; omega
    clear e0 g0 hr lb hb3 hg
    go_upto_region 7 with fail
    go_quiet (fail)
    go_wp2_with fail
    go_ret2
    exact ⟨rfl, bl_drewN HBL3.out _⟩
end Go.Proofs.YtimlmekgapdkiaaGreatDoor
namespace Go.Proofs.YtimlmekgapdkiaaGreatDoor
set_option linter.unusedVariables false
set_option linter.unusedSimpArgs false
open Go.RowKit Go.Cas

/-- a tree as the law has it: a forest, not too great -/
structure Gd (T : List Nod) (n : Nat) : Prop where
  wf : ∃ d, WF T d
  len : T.length ≤ 400
  at_ : ∀ j, (ndA T j).at_.length ≤ n
theorem Gd.mono {T : List Nod} {n m : Nat} (h : Gd T n) (hm : n ≤ m) : Gd T m := ⟨h.wf, h.len, fun j => Nat.le_trans (h.at_ j) hm⟩
/-- a change, or none -/
def ChgRet (B R : Nat) (T : List Nod) (D : List (Value × List Nod)) (F : Nat → Prop) (n : Nat) (w : World) (e : Ending) (w' : World) : Prop :=
  (∃ u, e = .returned u) ∧ ∃ T' D' F', TS B R T' D' F' w' ∧ (∀ k, k < w.heap.size → F' k → F k) ∧ Kept w w' F ∧ ((T' = T ∧ D' = D) ∨ ∃ u, D' = (u, T) :: D ∧ Gd T' (n + 1))
section
variable {w w' : World} {B R n : Nat} {T T' : List Nod} {D : List (Value × List Nod)} {F : Nat → Prop} {p : Nat → Addr} {e : Ending} {k : Nat}
theorem ChgRet.none_ {e0 : Value} (h : TS B R T D F w) (hb : Below w.heap.size w w') : ChgRet B R T D F n w (.returned e0) w' :=
  ⟨⟨_, rfl⟩, T, D, F, h.below hb, fun _ _ h => h, Kept.of_below hb F, .inl ⟨rfl, rfl⟩⟩
theorem ErrB.chg (h : TS B R T D F w) (he : ErrB p k w e w') : ChgRet B R T D F n w e w' := by
  obtain ⟨rfl, hb⟩ := he
  exact ChgRet.none_ h hb
theorem ErRet.chg (h : TS B R T D F w) (he : ErRet p k w e w') : ChgRet B R T D F n w e w' := by
  obtain ⟨rfl, hb⟩ := he
  exact ChgRet.none_ h hb
theorem TOp.chg {u : Value} {r : Value} (he : TOp B R T' ((u, T) :: D) F w w') (hG : Gd T' (n + 1)) : ChgRet B R T D F n w (.returned r) w' := by
  obtain ⟨F', h1, h2, h3⟩ := he
  exact ⟨⟨_, rfl⟩, T', _, F', h1, h2, h3, .inr ⟨u, rfl, hG⟩⟩
end
theorem Gd.add {T : List Nod} {n : Nat} {x : Nod} (h : Gd T n) (hl : T.length < 400) (hp : x.pa = -1) (hk : x.ki = []) (ha : x.at_ = []) : Gd (T ++ [x]) (n + 1) := by
  obtain ⟨d, hd⟩ := h.wf
  refine ⟨⟨d, hd.add hp hk⟩, by simp; omega, fun j => ?_⟩
  rw [ndA_app]
  split
  · rw [ha]; simp
  · exact Nat.le_trans (h.at_ j) (by omega)
/-- one node's own words are other ones -/
theorem Gd.own {T : List Nod} {n i : Nat} {y : Nod} (h : Gd T n) (hi : i < T.length) (hp : y.pa = (ndA T i).pa) (hk : y.ki = (ndA T i).ki) (ha : y.at_.length ≤ n + 1) : Gd (T.set i y) (n + 1) := by
  obtain ⟨d, hd⟩ := h.wf
  refine ⟨⟨d, hd.same (by simp) (fun j hj => ?_) (fun j hj => ?_)⟩, by rw [List.length_set]; exact h.len, fun j => ?_⟩
  · rw [ndA_set hi]; split
    · rename_i e; rw [hp, e]
    · rfl
  · rw [ndA_set hi]; split
    · rename_i e; rw [hk, e]
    · rfl
  · rw [ndA_set hi]; split
    · exact ha
    · exact Nat.le_trans (h.at_ j) (by omega)
theorem at_set2 {T : List Nod} {p : Nat} {y : Nod} (h : y.at_ = (ndA T p).at_) (j : Nat) : (ndA (T.set p y) j).at_ = (ndA T j).at_ := by
  by_cases hp : p < T.length
  · rw [ndA_set hp]
    split
    · rename_i e; rw [h, e]
    · rfl
  · rw [List.set_eq_of_length_le (by omega)]
theorem at_putE2 (T : List Nod) (p i : Nat) (ks : List Nat) (j : Nat) : (ndA (putE T p i ks) j).at_ = (ndA T j).at_ := by
  unfold putE
  rw [at_set2 (by rfl), at_set2 (by rfl)]
theorem at_cutE2 (T : List Nod) (i : Nat) (j : Nat) : (ndA (cutE T i) j).at_ = (ndA T j).at_ := by
  unfold cutE
  split
  · rw [at_set2 (by rw [at_set2 (by rfl)]), at_set2 (by rfl)]
  · rfl
theorem Gd.cut {T : List Nod} {n i : Nat} (h : Gd T n) (hi : i < T.length) : Gd (cutE T i) (n + 1) := by
  obtain ⟨d, hd⟩ := h.wf
  exact ⟨⟨d, hd.cut hi⟩, by rw [cutE_len]; exact h.len, fun j => by rw [at_cutE2]; exact Nat.le_trans (h.at_ j) (by omega)⟩
theorem Gd.put {T : List Nod} {n p i m : Nat} (h : Gd T n) (hp : p < T.length) (hi : i < T.length) (ha : ¬ Anc T i p) : Gd (putG T p i m) (n + 1) := by
  obtain ⟨d, hd⟩ := h.wf
  obtain ⟨d', hd'⟩ := hd.putG m hp hi ha
  refine ⟨⟨d', hd'⟩, by rw [putG_len]; exact h.len, fun j => ?_⟩
  unfold putG
  rw [at_putE2, at_cutE2]
  exact Nat.le_trans (h.at_ j) (by omega)
theorem setA_len (l : List (ByteArray × ByteArray)) (nm v : ByteArray) : (setA l nm v).length ≤ l.length + 1 := by
  unfold setA
  split
  · simp
  · simp
theorem tree_deep {T : List Nod} (d : Nat → Nat) : ∃ Dm, ∀ k, k < T.length → d k ≤ Dm := by
  refine ⟨((List.range T.length).map d).sum, fun k hk => ?_⟩
  have hm : d k ∈ (List.range T.length).map d := List.mem_map_of_mem (List.mem_range.2 hk)
  have key : ∀ (l : List Nat) (x : Nat), x ∈ l → x ≤ l.sum := by
    intro l
    induction l with
    | nil => intro x h; cases h
    | cons a l ih =>
      intro x h
      rw [List.sum_cons]
      rcases List.mem_cons.1 h with rfl | h
      · omega
      · have := ih x h; omega
  exact key _ _ hm
section
variable {w : World} {B R n : Nat} {T : List Nod} {D : List (Value × List Nod)} {F : Nat → Prop} {p : Nat → Addr}
theorem c_ElementAny (h : TS B R T D F w) (hG : GE w B p) (hD : D.length ≤ 1000000000000) (hg : Gd T n) (s : ByteArray) (hs : s.size ≤ maxLen) : Calls Tryz.prog 20 #[.pointer (some ⟨R, 0, none⟩), .string s] w (ChgRet B R T D F n w) := by
  cases hn : isNm s with
  | false => exact (c_Element_bad hG s hs hn).mono fun e w' he => he.chg h
  | true =>
    by_cases hl : T.length < 400
    · exact (c_Element h hD s hl hs hn).mono fun e w' ⟨he, u, ho⟩ => he ▸ ho.chg (hg.add hl rfl rfl rfl)
    · exact (c_Element_full h hG s (by have := hg.len; omega) hs hn).mono fun e w' he => he.chg h
theorem c_TextAny (h : TS B R T D F w) (hG : GE w B p) (hD : D.length ≤ 1000000000000) (hg : Gd T n) (s : ByteArray) (hs : s.size ≤ maxLen) : Calls Tryz.prog 23 #[.pointer (some ⟨R, 0, none⟩), .string s] w (ChgRet B R T D F n w) := by
  by_cases hl : T.length < 400 ∧ s.size ≤ 20000
  · exact (c_Text h hD s hl.1 hl.2).mono fun e w' ⟨he, u, ho⟩ => he ▸ ho.chg (hg.add hl.1 rfl rfl rfl)
  · exact (c_Text_no h hG s hg.len hs (by omega)).mono fun e w' he => he.chg h
theorem c_CommentAny (h : TS B R T D F w) (hG : GE w B p) (hD : D.length ≤ 1000000000000) (hg : Gd T n) (s : ByteArray) (hs : s.size ≤ maxLen) : Calls Tryz.prog 24 #[.pointer (some ⟨R, 0, none⟩), .string s] w (ChgRet B R T D F n w) := by
  by_cases hl : T.length < 400 ∧ s.size ≤ 20000
  · exact (c_Comment h hD s hl.1 hl.2).mono fun e w' ⟨he, u, ho⟩ => he ▸ ho.chg (hg.add hl.1 rfl rfl rfl)
  · exact (c_Comment_no h hG s hg.len hs (by omega)).mono fun e w' he => he.chg h
theorem c_TakeAny (h : TS B R T D F w) (hG : GE w B p) (hD : D.length ≤ 1000000000000) (hg : Gd T n) (a : Int) : Calls Tryz.prog 28 #[.pointer (some ⟨R, 0, none⟩), .int .i64 a] w (ChgRet B R T D F n w) := by
  by_cases ha : a < 0 ∨ (T.length : Int) ≤ a
  · exact (c_Take_no h hG hg.len ha).mono fun e w' he => he.chg h
  · obtain ⟨i, rfl⟩ : ∃ i : Nat, a = (i : Int) := ⟨a.toNat, by omega⟩
    have hi : i < T.length := by omega
    obtain ⟨d, hd⟩ := hg.wf
    by_cases hp : (ndA T i).pa < 0
    · exact (c_Take_free h hG hg.len (ndA_get hi) hp).mono fun e w' he => he.chg h
    · exact (c_Take h hd hD hg.len hi (by omega)).mono fun e w' ⟨he, u, ho⟩ => he ▸ ho.chg (hg.cut hi)
theorem c_PutAny2 (h : TS B R T D F w) (hG : GE w B p) (hD : D.length ≤ 1000000000000) (hg : Gd T n) (a b c : Int) : Calls Tryz.prog 25 #[.pointer (some ⟨R, 0, none⟩), .int .i64 a, .int .i64 b, .int .i64 c] w (ChgRet B R T D F n w) := by
  by_cases hab : (a < 0 ∨ (T.length : Int) ≤ a) ∨ (b < 0 ∨ (T.length : Int) ≤ b)
  · exact (c_Put_no h hG hg.len hab).mono fun e w' he => he.chg h
  · obtain ⟨q, rfl⟩ : ∃ i : Nat, a = (i : Int) := ⟨a.toNat, by omega⟩
    obtain ⟨i, rfl⟩ : ∃ i : Nat, b = (i : Int) := ⟨b.toNat, by omega⟩
    have hq : q < T.length := by omega
    have hi : i < T.length := by omega
    obtain ⟨d, hd⟩ := hg.wf
    by_cases hn : i = 0 ∨ ¬ ((ndA T q).k = 1 ∨ (ndA T q).k = 2) ∨ Anc T i q ∨ c < 0 ∨ (kLen T q i : Int) < c
    · exact (c_Put_place h hG hd hg.len hq hi hn).mono fun e w' he => he.chg h
    · have h0 : i ≠ 0 := fun e => hn (.inl e)
      have hk : (ndA T q).k = 1 ∨ (ndA T q).k = 2 := Classical.byContradiction fun e => hn (.inr (.inl e))
      have ha : ¬ Anc T i q := fun e => hn (.inr (.inr (.inl e)))
      have hc1 : ¬ c < 0 := fun e => hn (.inr (.inr (.inr (.inl e))))
      have hc2 : ¬ (kLen T q i : Int) < c := fun e => hn (.inr (.inr (.inr (.inr e))))
      obtain ⟨m, rfl⟩ : ∃ m : Nat, c = (m : Int) := ⟨c.toNat, by omega⟩
      exact (c_PutAny h hd hD hg.len hq hi h0 hk ha (by unfold kLen at hc2; omega)).mono fun e w' ⟨he, u, ho⟩ => he ▸ ho.chg (hg.put hq hi ha)
theorem c_SetAny2 (h : TS B R T D F w) (hG : GE w B p) (hD : D.length ≤ 1000000000000) (hg : Gd T n) (hn : n ≤ 1000) (a : Int) (nm v : ByteArray) (hs : nm.size ≤ maxLen) (hv : v.size ≤ maxLen) : Calls Tryz.prog 30 #[.pointer (some ⟨R, 0, none⟩), .int .i64 a, .string nm, .string v] w (ChgRet B R T D F n w) := by
  by_cases ha : a < 0 ∨ (T.length : Int) ≤ a
  · exact (c_Set_no h hG hg.len ha nm v).mono fun e w' he => he.b.chg h
  · obtain ⟨i, rfl⟩ : ∃ i : Nat, a = (i : Int) := ⟨a.toNat, by omega⟩
    have hi : i < T.length := by omega
    have hx := ndA_get hi
    by_cases hk : (ndA T i).k = 2
    · cases hm : isNm nm with
      | false => exact (c_Set_name h hG hg.len hx hk nm v hs hm).mono fun e w' he => he.b.chg h
      | true =>
        by_cases hv2 : v.size ≤ 20000
        · have hal := hg.at_ i
          refine (c_Set h hD hg.len hx hk (by omega) nm v hs hm hv2).mono fun e w' ⟨he, u, ho⟩ => he ▸ ho.chg (hg.own hi rfl rfl ?_)
          have := setA_len (ndA T i).at_ nm v
          show (setA (ndA T i).at_ nm v).length ≤ _
          omega
        · exact (c_Set_long h hG hg.len hx hk nm v hs hm hv (by omega)).mono fun e w' he => he.b.chg h
    · exact (c_Set_kind h hG hg.len hx hk nm v).mono fun e w' he => he.b.chg h
theorem c_UnsetAny (h : TS B R T D F w) (hG : GE w B p) (hD : D.length ≤ 1000000000000) (hg : Gd T n) (hn : n ≤ 1000) (a : Int) (nm : ByteArray) : Calls Tryz.prog 32 #[.pointer (some ⟨R, 0, none⟩), .int .i64 a, .string nm] w (ChgRet B R T D F n w) := by
  by_cases ha : a < 0 ∨ (T.length : Int) ≤ a
  · exact (c_Unset_no h hG hg.len ha nm).mono fun e w' he => he.chg h
  · obtain ⟨i, rfl⟩ : ∃ i : Nat, a = (i : Int) := ⟨a.toNat, by omega⟩
    have hi : i < T.length := by omega
    have hx := ndA_get hi
    have hal := hg.at_ i
    by_cases hk : (ndA T i).k = 2
    · rcases fnd_spec (ndA T i).at_ nm with ⟨hf, _⟩ | ⟨k, hf, q, hq, _⟩
      · exact (c_Unset_name h hG hg.len hx hk (by omega) nm hf).mono fun e w' he => he.chg h
      · have hkl := (List.getElem?_eq_some_iff.1 hq).1
        refine (c_Unset h hD hg.len hx hk (by omega) nm hf hkl).mono fun e w' ⟨he, u, ho⟩ => he ▸ ho.chg (hg.own hi rfl rfl ?_)
        show ((ndA T i).at_.eraseIdx k).length ≤ _
        rw [List.length_eraseIdx_of_lt hkl]
        omega
    · exact (c_Unset_kind h hG hg.len hx hk nm).mono fun e w' he => he.chg h
theorem c_SayAny (h : TS B R T D F w) (hG : GE w B p) (hD : D.length ≤ 1000000000000) (hg : Gd T n) (a : Int) (s : ByteArray) (hs : s.size ≤ maxLen) : Calls Tryz.prog 33 #[.pointer (some ⟨R, 0, none⟩), .int .i64 a, .string s] w (ChgRet B R T D F n w) := by
  by_cases ha : a < 0 ∨ (T.length : Int) ≤ a
  · exact (c_Say_no h hG hg.len ha s).mono fun e w' he => he.chg h
  · obtain ⟨i, rfl⟩ : ∃ i : Nat, a = (i : Int) := ⟨a.toNat, by omega⟩
    have hi : i < T.length := by omega
    have hx := ndA_get hi
    by_cases hk : (ndA T i).k = 3 ∨ (ndA T i).k = 4
    · by_cases hs2 : s.size ≤ 20000
      · exact (c_Say h hD hg.len hx hk s hs2).mono fun e w' ⟨he, u, ho⟩ => he ▸ ho.chg (hg.own hi rfl rfl (Nat.le_trans (hg.at_ i) (by omega)))
      · exact (c_Say_long h hG hg.len hx s hk (by omega) hs).mono fun e w' he => he.chg h
    · exact (c_Say_bad h hG hg.len hx s hk).mono fun e w' he => he.chg h
theorem c_CopyAny (h : TS B R T D F w) (hG : GE w B p) (hD : D.length ≤ 1000000000000) (hg : Gd T n) (a : Int) : Calls Tryz.prog 35 #[.pointer (some ⟨R, 0, none⟩), .int .i64 a] w (ChgRet B R T D F n w) := by
  by_cases ha : a < 0 ∨ (T.length : Int) ≤ a
  · exact (c_Copy_no h hG hg.len ha).mono fun e w' he => he.chg h
  · obtain ⟨i, rfl⟩ : ∃ i : Nat, a = (i : Int) := ⟨a.toNat, by omega⟩
    have hi : i < T.length := by omega
    obtain ⟨d, hd⟩ := hg.wf
    obtain ⟨Dm, hDm⟩ := tree_deep (T := T) d
    by_cases h0 : i = 0
    · subst h0
      exact (c_Copy_root h hG hg.len hi).mono fun e w' he => he.chg h
    · by_cases hl : T.length + (und T (Dm + 1) i).length ≤ 400
      · refine (c_Copy h hd hDm hD hg.len hi h0 hl).mono fun e w' ⟨he, u, ho⟩ => he ▸ ho.chg ?_
        have hcp := cpF_ok hd (Dm + 1) T i (-1) (Ext.refl T) hi
        exact ⟨wf_of_cp hd hcp, by rw [hcp.len]; exact hl, fun j => Nat.le_trans (cpF_at (fun l => l.length ≤ n) (Dm + 1) T i (-1) hg.at_ j) (by omega)⟩
      · exact (c_Copy_big h hG hd hDm hg.len hi h0 (by omega)).mono fun e w' he => he.chg h
end
end Go.Proofs.YtimlmekgapdkiaaGreatDoor
