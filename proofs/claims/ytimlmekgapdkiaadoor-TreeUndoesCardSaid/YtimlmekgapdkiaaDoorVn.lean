/- the tree: Copy -/
import Derived.Test.YtimlmekgapdkiaaDoorVm
import Derived.Test.YtimlmekgapdkiaaDoorUb
namespace Go.Proofs.YtimlmekgapdkiaaDoor
set_option linter.unusedVariables false
set_option linter.unusedSimpArgs false
open Go.RowKit Go.Cas

set_option maxRecDepth 100000 in
set_option maxHeartbeats 4000000 in
theorem c_Copy1 {w : World} {B R L cap b b6 : Nat} {uv : Value} {Z : Nat → Prop} {M M' K : List NV} (h : NS B R L cap uv Z M w) (hM : M = M' ++ K) (hb : Bk w b 28 #[.pointer (some ⟨R, 0, none⟩)]) (hb6 : Bk w b6 3 #[.int .i64 (M'.length : Int)]) (hl : M.length ≤ 400) :
    Calls Tryd.prog 99 #[.pointer (some ⟨b, 0, none⟩), .pointer (some ⟨b6, 0, none⟩)] w fun e w3 => (∃ u, e = .returned u) ∧ NS B R L M'.length uv Z M' w3 ∧ Kept w w3 (fun k => k = R ∨ k = L) := by
  obtain ⟨w2, hw2⟩ : ∃ w2, w2 = w.drew := ⟨_, rfl⟩
  have h2 : NS B R L cap uv Z M w2 := by rw [hw2]; exact h.below (bl_drew (Below.refl _ w))
  have H := Lib.hid h2
  obtain ⟨g0, g1, g2, g3⟩ := h2.heads
  have hr := h2.ltR
  have e0 : w2.cell? ⟨b, 0, none⟩ = some (.pointer (some ⟨R, 0, none⟩)) := by rw [hw2]; exact hb.cell 0
  have e6 : w2.cell? ⟨b6, 0, none⟩ = some (.int .i64 (M'.length : Int)) := by rw [hw2]; exact hb6.cell 0
  have hcap := h.cap.1
  have e1 : M.length = M'.length + K.length := by rw [hM]; simp
  obtain ⟨n, hn⟩ : ∃ n, n = M'.length := ⟨_, rfl⟩
  rw [← hn] at e1 e6
  obtain ⟨m, hm⟩ : ∃ m, m = M.length := ⟨_, rfl⟩
  rw [← hm] at g0 hl hcap e1
  have hcn : (n : Int) ≤ (cap : Int) := by omega
  have hcn2 : n ≤ cap := by omega
  have h0n : 0 ≤ (n : Int) := by omega
  have v2 : (n : Int).toNat = n := rfl
  have HN := Lib.hid hn
  have HM := Lib.hid hM
  have HW2 := Lib.hid hw2
  clear h h2 hb hb6 hn hM e1 hw2 hm
  go_enter Tryd.func99, Tryd.ntmps99
  go_wp2_with fail
  refine wp_region_still_tail 10 (by kernel_rfl) (by kernel_rfl) ?_
  simp only [List.take_succ_cons, List.take_zero, List.drop_succ_cons, List.drop_zero]
  change wpStill _ _ (World.drew _) _ _ _
  rw [← HW2.out]
  repeat still_step
  refine wpStill_nil ?_
  change wpList _ _ _ _ _ (World.drew _)
  rw [← HW2.out]
  go_wp2_with fail
  go_end0
  refine ⟨⟨_, rfl⟩, ?_, ?_⟩
  · rw [HN.out]; exact H.out.shrink HM.out
  · rw [HW2.out]; exact ((Kept.refl w _).drew).set_ R 0 (fun _ => .inl rfl) _
theorem enter_Copy1 (cs : Array Value) (w : World) : (callFunc 99 cs).run Tryd.prog w = .ok (.enter 99 cs) w := by kernel_rfl
theorem ext_take {T U : List Nod} (h : Ext T U) : U.take T.length = T := by
  apply List.ext_getElem?
  intro j
  rw [List.getElem?_take]
  by_cases hj : j < T.length
  · rw [if_pos hj, ndA_get (Nat.lt_of_lt_of_le hj h.le), h.eq j hj, ← ndA_get hj]
  · rw [if_neg hj, List.getElem?_eq_none (by omega)]
theorem u_Copy {w : World} {B R b b6 : Nat} {Z : Nat → Prop} {T U : List Nod} (hb : Bk w b 28 #[.pointer (some ⟨R, 0, none⟩)]) (hb6 : Bk w b6 3 #[.int .i64 (T.length : Int)]) (hz : Z b) (hz6 : Z b6) (hE : Ext T U) (hU : U.length ≤ 400) :
    UOk B R Z w (.func (.func 99) #[] #[.pointer (some ⟨b, 0, none⟩), .pointer (some ⟨b6, 0, none⟩)]) U T := by
  refine ⟨_, _, rfl, enter_Copy1 _, fun w2 L2 cap2 uv2 Z2 M2 h1 h2 h3 => ?_⟩
  have hl : M2.length = U.length := by rw [← h3]; simp
  have hM : M2 = M2.take T.length ++ M2.drop T.length := (List.take_append_drop _ _).symm
  have hT : (M2.take T.length).map NV.x = T := by rw [List.map_take, h3, ext_take hE]
  have htl : (M2.take T.length).length = T.length := by rw [List.length_take, hl]; have := hE.le; omega
  have hbk : Bk w2 b 28 #[.pointer (some ⟨R, 0, none⟩)] := (h1 b hz).1.trans hb
  have hbk6 : Bk w2 b6 3 #[.int .i64 ((M2.take T.length).length : Int)] := by rw [htl]; exact (h1 b6 hz6).1.trans hb6
  exact (c_Copy1 h2 hM hbk hbk6 (by omega)).mono fun e w3 ⟨q1, q2, q3⟩ => ⟨q1, _, _, q2, hT, q3⟩
def CpyRet (B R : Nat) (U T : List Nod) (D : List (Value × List Nod)) (F : Nat → Prop) (w : World) (e : Ending) (w' : World) : Prop := e = .returned (.tuple #[.int .i64 (T.length : Int), .nilIface]) ∧ ∃ v, TOp B R U ((v, T) :: D) F w w'
set_option maxRecDepth 100000 in
set_option maxHeartbeats 8000000 in
theorem c_Copy {w : World} {B R i Dm : Nat} {F : Nat → Prop} {T : List Nod} {d : Nat → Nat} {D : List (Value × List Nod)} (h : TS B R T D F w) (hW : WF T d) (hDm : ∀ k, k < T.length → d k ≤ Dm) (hD : D.length ≤ 1000000000000) (hT : T.length ≤ 400) (hi : i < T.length) (hi0 : i ≠ 0)
    (hlen : T.length + (und T (Dm + 1) i).length ≤ 400) :
    Calls Tryd.prog 68 #[.pointer (some ⟨R, 0, none⟩), .int .i64 (i : Int)] w (CpyRet B R (cpF (Dm + 1) T i (-1)) T D F w) := by
  have hCP := cpF_ok hW (Dm + 1) T i (-1) (Ext.refl T) hi
  have HCP := Lib.hid hCP
  obtain ⟨U, hU⟩ : ∃ U, U = cpF (Dm + 1) T i (-1) := ⟨_, rfl⟩
  rw [← hU] at HCP ⊢
  have HUN : Hid (∀ W', Below w.heap.size w W' → Calls Tryd.prog 61 #[.pointer (some ⟨R, 0, none⟩), .int .i64 (i : Int)] W' (WyRet W' (und T (Dm + 1) i))) := fun W' hb => c_UnderF hW hDm hT (Dm + 1) W' i (h.below hb) hi (by omega)
  have HCY : Hid (∀ (w : World) (L cap : Nat) (uv : Value) (Z F : Nat → Prop) (M : List NV), TSi B R L cap uv Z M T D F w → M.map NV.x = T → Calls Tryd.prog 98 #[.pointer (some ⟨R, 0, none⟩), .int .i64 (i : Int), .int .i64 (-1)] w (CyRet B R L uv Z F T D U M.length w)) := fun w L cap uv Z F M h1 h2 => by
    have := c_copied (Tc := T) (D := D) (uv := uv) hW hDm (Dm + 1) w L cap Z F M i (-1) h1 (by rw [h2]; exact Ext.refl T) hi (by omega) (by rw [h2]; exact hlen) (by omega)
    rw [h2, ← hU] at this
    exact this
  obtain ⟨u, hu⟩ : ∃ u, u = und T (Dm + 1) i := ⟨_, rfl⟩
  rw [← hu] at hlen HUN HCP
  obtain ⟨L, cap, uv, Z, M, h1, hM⟩ := h
  have H := Lib.hid h1
  have HM := Lib.hid hM
  have HD := Lib.hid hD
  have hlM : M.length = T.length := by rw [← hM]; simp
  have HLM := Lib.hid hlM
  obtain ⟨b, hb⟩ : ∃ b, b = w.heap.size := ⟨_, rfl⟩
  obtain ⟨w1, hw1⟩ : ∃ w1, w1 = w.alloc (.cells #[.pointer (some ⟨R, 0, none⟩)] 28) := ⟨_, rfl⟩
  obtain ⟨w2, hw2⟩ : ∃ w2, w2 = w1.alloc (.cells #[.int .i64 (M.length : Int)] 3) := ⟨_, rfl⟩
  have hbl1 : Below w.heap.size w w1 := by rw [hw1]; exact bl_alloc (Below.refl _ _) _
  have hbl2 : Below w.heap.size w w2 := by rw [hw2]; exact bl_alloc hbl1 _
  have hbk1 : Bk w1 b 28 #[.pointer (some ⟨R, 0, none⟩)] := by rw [hw1, hb]; exact bk_new' _ _ _ rfl
  have hbk2 : Bk w2 b 28 #[.pointer (some ⟨R, 0, none⟩)] := by rw [hw2]; exact hbk1.alloc _
  have hbk3 : Bk w2 (b + 1) 3 #[.int .i64 (M.length : Int)] := by rw [hw2, hb]; exact bk_new' _ _ _ (by rw [hw1]; simp)
  have hS1 := h1.below hbl1
  have HI := Lib.hid (c_is_yes hS1.ns i (by omega) (by omega))
  have e0 : w1.cell? ⟨b, 0, none⟩ = some (.pointer (some ⟨R, 0, none⟩)) := hbk1.cell 0
  obtain ⟨g0, _⟩ := hS1.ns.heads
  have hr := hS1.ns.ltR
  have lb := hbk1.lt
  have hii0 : ¬ (i : Int) = 0 := by omega
  have hii1 : ((i : Int) == 0) = false := by rw [beq_eq_false_iff_ne]; exact hii0
  have HB := Lib.hid hb
  have HBL2 := Lib.hid hbl2
  have HBK2 := Lib.hid hbk2
  have HBK3 := Lib.hid hbk3
  have HW1 := Lib.hid hw1
  have HW2 := Lib.hid hw2
  have HSZ1 : Hid (w1.heap.size = b + 1) := by unfold Hid; rw [hw1, hb]; simp
  have hsum : M.length + u.length ≤ 400 := by omega
  clear h1 hM hD hW hDm hT hi hi0 hlen hCP hU hu hb hw1 hw2 hbl1 hbl2 hbk1 hbk2 hbk3 hS1 hlM
  go_enter Tryd.func68, Tryd.ntmps68
  go_upto_region 1 with fail
  rw [← HW1.out, ← HB.out]
  go_upto_region 6 with (go_at_call 47; refine (HI.out).mono ?_; rintro e w' ⟨rfl, rfl⟩)
  rw [← HW2.out, HSZ1.out]
  go_cut [26] (fun v26 wx => v26 = .bool false ∧ Hid (Below w2.heap.size w2 wx))
  case first =>
    have HF : Hid (∀ W', Below w2.heap.size w2 W' → W'.cell? ⟨b + 1, 0, none⟩ = some (.int .i64 (M.length : Int)) ∧ W'.cell? ⟨b, 0, none⟩ = some (.pointer (some ⟨R, 0, none⟩))) := fun W' hb => ⟨(Bk.below HBK3.out hb HBK3.out.lt).cell 0, (Bk.below HBK2.out hb HBK2.out.lt).cell 0⟩
    have HUX : Hid (∀ W', Below w2.heap.size w2 W' → Calls Tryd.prog 61 #[.pointer (some ⟨R, 0, none⟩), .int .i64 (i : Int)] W' (WyRet W' u)) := fun W' hb => HUN.out W' (bl_trans HBL2.out hb)
    have hsi : IntKind.i64.wrap ((M.length : Int) + (u.length : Int)) = (M.length : Int) + (u.length : Int) := IntWalk.i64_in _ (by omega)
    have hgt : ¬ (400 : Int) < (M.length : Int) + (u.length : Int) := by omega
    obtain ⟨s0, s1⟩ := HF.out w2 (Below.refl _ _)
    clear e0 g0 hr lb
    go_region_held3 (fun w' => w'.cell? ⟨b + 1, 0, none⟩ = some (.int .i64 (M.length : Int)) ∧ w'.cell? ⟨b, 0, none⟩ = some (.pointer (some ⟨R, 0, none⟩)))
      (first | with_reducible exact HF.out _ (Below.refl _ _) | with_reducible exact HF.out _ (bl_drew (Below.refl _ _)) | with_reducible exact HF.out _ HBU.out)
      (first | (go_at_call 61; (with_reducible refine (HUX.out _ (bl_drew (Below.refl _ _))).mono ?_); rintro e wu ⟨vu, rfl, hou, hbu⟩; obtain ⟨_, Au, cu, rfl, _, _⟩ := RdS.of_own hou; have HBU : Hid (Below w2.heap.size w2 wu) := bl_trans (bl_drew (Below.refl _ _)) hbu; clear hou hbu))
    all_goals
      go_wp2_with fail
      go_meet
      exact ⟨by simp <;> omega, HBU.out⟩
  case rest =>
    obtain ⟨rfl, HBC⟩ := hcut
    obtain ⟨w3, rfl⟩ : ∃ w3 : World, w3 = wc := ⟨_, rfl⟩
    clear e0 g0 hr lb
    have hb3 := Bk.below HBK2.out HBC.out HBK2.out.lt
    have hb4 := Bk.below HBK3.out HBC.out HBK3.out.lt
    have e0 : w3.cell? ⟨b, 0, none⟩ = some (.pointer (some ⟨R, 0, none⟩)) := hb3.cell 0
    have lb := hb3.lt
    have hbl3 : Below w.heap.size w w3 := bl_trans HBL2.out HBC.out
    have HBL3 := Lib.hid hbl3
    have HS3 := Lib.hid (H.out.below hbl3)
    have HC3 := Lib.hid (HCY.out w3 L cap uv Z F M HS3.out HM.out)
    have HBK4 := Lib.hid hb3
    have HBK5 := Lib.hid hb4
    clear hb3 hb4 hbl3
    go_upto_region 9 with (go_at_call 98; refine (HC3.out).mono ?_; rintro e w5 ⟨rfl, L5, cap5, Z5, M5, F5, hS5, hM5, hZ5, hF5, hK5, hL5⟩; have HS5 := Lib.hid hS5; have HM5 := Lib.hid hM5; have HZ5 := Lib.hid hZ5; have HF5 := Lib.hid hF5; have HK5 := Lib.hid hK5; have HL5 := Lib.hid hL5; clear hS5 hM5 hZ5 hF5 hK5 hL5)
    have hRb : R < b ∧ L < b := by have h1 := H.out.ns.ltR; have h2 := H.out.ns.ltL; have := HB.out; omega
    have hb5 : Bk w5 b 28 #[.pointer (some ⟨R, 0, none⟩)] := HK5.out.bk HBK4.out (fun e => by omega)
    have hb6 : Bk w5 (b + 1) 3 #[.int .i64 (M.length : Int)] := HK5.out.bk HBK5.out (fun e => by omega)
    have hB : B ≤ b := by have := H.out.ns.geo.1; omega
    have hnF : ∀ k, k = b ∨ k = b + 1 → ¬ F5 k := fun k hk e => by
      have h1 := HBK4.out.lt
      have h2 := HBK5.out.lt
      have h3 := HF5.out k (by omega) e
      have h4 := (H.out.fb k h3).2
      have := HB.out
      omega
    have hSz := HS5.out.wideZ (fun k => k = b ∨ k = b + 1) (fun k hk => ⟨by omega, by have h1 := hb5.lt; have h2 := hb6.lt; omega, fun e => hnF k hk (HS5.out.f k (.inl e))⟩)
    have hUk : UOk B R (fun k => Z5 k ∨ (k = b ∨ k = b + 1)) w5 (.func (.func 99) #[] #[.pointer (some ⟨b, 0, none⟩), .pointer (some ⟨b + 1, 0, none⟩)]) (M5.map NV.x) T := by
      rw [HM5.out]
      refine u_Copy hb5 (by rw [← HLM.out]; exact hb6) (.inr (.inl rfl)) (.inr (.inr rfl)) HCP.out.ext ?_
      rw [HCP.out.len, ← HLM.out]; exact hsum
    have HDN := Lib.hid (c_done hSz hUk HD.out)
    have c0 : w5.cell? ⟨b, 0, none⟩ = some (.pointer (some ⟨R, 0, none⟩)) := hb5.cell 0
    have c1 := hb5.lt
    have HB6 := Lib.hid hb6
    have HNX : Hid (¬ exT R L5 uv (b + 1)) := fun e => hnF (b + 1) (.inr rfl) (HS5.out.f _ (.inl e))
    have HEX : Hid (∀ k, exT R L5 uv k → F5 k) := fun k hk => HS5.out.f k (.inl hk)
    clear hRb hb5 hb6 hB hnF hSz hUk e0 lb
    go_upto_region 10 with (go_at_call 89; refine (HDN.out).mono ?_; rintro e w6 ⟨⟨u6, rfl⟩, uv6, F6, hS6, hF6, hK6⟩; have HS6 := Lib.hid hS6; have HF6 := Lib.hid hF6; have HK6 := Lib.hid hK6; clear hS6 hF6 hK6)
    have hb7 := HK6.out.bk HB6.out HNX.out
    have c5 : w6.cell? ⟨b + 1, 0, none⟩ = some (.int .i64 (M.length : Int)) := hb7.cell 0
    have l5 := hb7.lt
    clear hb7 c0 c1
    go_wp2_with fail
    go_ret2
    have key := HS6.out
    rw [HM5.out] at key
    have k3 : Kept w w3 F := Kept.of_below HBL3.out F
    have hs3 := HBL3.out.size
    have k5 : Kept w w5 F := k3.then_ HK5.out (fun k hk e => by
      rcases e with e | e
      · rw [e]; exact H.out.f R (.inl (.inl rfl))
      · rw [e]; exact H.out.f L (.inl (.inr (.inl rfl))))
    refine ⟨ret_ix (by rw [HLM.out]), _, F6, ⟨L5, cap5, uv6, _, _, key, HM5.out⟩, fun k hk hf => ?_, k5.then_ HK6.out (fun k hk e => HF5.out k (by omega) (HEX.out k e))⟩
    rcases HF6.out k (by have := HK5.out.size; omega) hf with e | e
    · exact HF5.out k (by omega) e
    · exfalso; have := HB.out; omega
end Go.Proofs.YtimlmekgapdkiaaDoor
