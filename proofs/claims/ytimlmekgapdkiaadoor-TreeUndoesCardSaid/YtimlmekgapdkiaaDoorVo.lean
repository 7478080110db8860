/- the tree: Copy that fails -/
import Derived.Test.YtimlmekgapdkiaaDoorVn
namespace Go.Proofs.YtimlmekgapdkiaaDoor
set_option linter.unusedVariables false
set_option linter.unusedSimpArgs false
open Go.RowKit Go.Cas

theorem c_Copy_no {w : World} {B R : Nat} {F : Nat → Prop} {T : List Nod} {D : List (Value × List Nod)} {a : Int} {p : Nat → Addr} (h : TS B R T D F w) (hG : GE w B p) (hT : T.length ≤ 400) (ha : a < 0 ∨ (T.length : Int) ≤ a) :
    Calls Tryd.prog 68 #[.pointer (some ⟨R, 0, none⟩), .int .i64 a] w (ErRet p 4 w) := by
  obtain ⟨w1, hw1⟩ : ∃ w1, w1 = w.alloc (.cells #[.pointer (some ⟨R, 0, none⟩)] 28) := ⟨_, rfl⟩
  obtain ⟨b, hb⟩ : ∃ b, b = w.heap.size := ⟨_, rfl⟩
  have hbk0 : Bk w1 b 28 #[.pointer (some ⟨R, 0, none⟩)] := by rw [hw1, hb]; exact bk_new' _ _ _ rfl
  have hbl : Below w.heap.size w w1 := by rw [hw1]; exact bl_alloc (Below.refl _ _) _
  have h2 := h.below hbl
  obtain ⟨L, cap, uv, Z, M, h1, hM, _⟩ := h2.ns
  have hlM : M.length = T.length := by rw [← hM]; simp
  have HI := Lib.hid (c_is_no h1 a (by omega) (by omega))
  have e0 : w1.cell? ⟨b, 0, none⟩ = some (.pointer (some ⟨R, 0, none⟩)) := hbk0.cell 0
  have l1 := hbk0.lt
  have HG := Lib.hid (hG.below (hbl.mono hG.lt.2))
  have z1 := HG.out.node
  have z2 : 4 < w1.heap.size := by have := HG.out.lt; omega
  have HBL := Lib.hid hbl
  have HB := Lib.hid hb
  have HW1 := Lib.hid hw1
  clear h hG hT ha hw1 hb hbk0 hbl h2 h1 hM hlM
  go_enter Tryd.func68, Tryd.ntmps68
  go_upto_region 1 with fail
  rw [← HW1.out, ← HB.out]
  go_upto_region 2 with (go_at_call 47; refine (HI.out).mono ?_; rintro e w' ⟨rfl, rfl⟩)
  go_quiet (fail)
  go_wp2_with fail
  go_ret2
  exact ⟨rfl, bl_drewN HBL.out _⟩
theorem c_Copy_root {w : World} {B R : Nat} {F : Nat → Prop} {T : List Nod} {D : List (Value × List Nod)} {p : Nat → Addr} (h : TS B R T D F w) (hG : GE w B p) (hT : T.length ≤ 400) (h0 : 0 < T.length) :
    Calls Tryd.prog 68 #[.pointer (some ⟨R, 0, none⟩), .int .i64 0] w (ErRet p 5 w) := by
  obtain ⟨w1, hw1⟩ : ∃ w1, w1 = w.alloc (.cells #[.pointer (some ⟨R, 0, none⟩)] 28) := ⟨_, rfl⟩
  obtain ⟨b, hb⟩ : ∃ b, b = w.heap.size := ⟨_, rfl⟩
  have hbk0 : Bk w1 b 28 #[.pointer (some ⟨R, 0, none⟩)] := by rw [hw1, hb]; exact bk_new' _ _ _ rfl
  have hbl : Below w.heap.size w w1 := by rw [hw1]; exact bl_alloc (Below.refl _ _) _
  have h2 := h.below hbl
  obtain ⟨L, cap, uv, Z, M, h1, hM, _⟩ := h2.ns
  have hlM : M.length = T.length := by rw [← hM]; simp
  have HI : Hid (Calls Tryd.prog 47 #[.pointer (some ⟨R, 0, none⟩), .int .i64 0] w1 fun e w' => e = .returned (.bool true) ∧ w1 = w') := c_is_yes h1 0 (by omega) (by omega)
  have e0 : w1.cell? ⟨b, 0, none⟩ = some (.pointer (some ⟨R, 0, none⟩)) := hbk0.cell 0
  have l1 := hbk0.lt
  have HG := Lib.hid (hG.below (hbl.mono hG.lt.2))
  have z1 := HG.out.place
  have z2 : 5 < w1.heap.size := by have := HG.out.lt; omega
  have HBL := Lib.hid hbl
  have HB := Lib.hid hb
  have HW1 := Lib.hid hw1
  clear h hG hT hw1 hb hbk0 hbl h2 h1 hM hlM h0
  go_enter Tryd.func68, Tryd.ntmps68
  go_upto_region 1 with fail
  rw [← HW1.out, ← HB.out]
  go_upto_region 4 with (go_at_call 47; refine (HI.out).mono ?_; rintro e w' ⟨rfl, rfl⟩)
  go_quiet (fail)
  go_wp2_with fail
  go_ret2
  exact ⟨rfl, bl_drewN HBL.out _⟩
set_option maxRecDepth 100000 in
set_option maxHeartbeats 8000000 in
theorem c_Copy_big {w : World} {B R i Dm : Nat} {F : Nat → Prop} {T : List Nod} {d : Nat → Nat} {D : List (Value × List Nod)} {p : Nat → Addr} (h : TS B R T D F w) (hG : GE w B p) (hW : WF T d) (hDm : ∀ k, k < T.length → d k ≤ Dm) (hT : T.length ≤ 400) (hi : i < T.length) (hi0 : i ≠ 0)
    (hlen : 400 < T.length + (und T (Dm + 1) i).length) :
    Calls Tryd.prog 68 #[.pointer (some ⟨R, 0, none⟩), .int .i64 (i : Int)] w (ErRet p 2 w) := by
  have HUN : Hid (∀ W', Below w.heap.size w W' → Calls Tryd.prog 61 #[.pointer (some ⟨R, 0, none⟩), .int .i64 (i : Int)] W' (WyRet W' (und T (Dm + 1) i))) := fun W' hb => c_UnderF hW hDm hT (Dm + 1) W' i (h.below hb) hi (by omega)
  have hu4 := und_len hW (Dm + 1) i hi
  obtain ⟨u, hu⟩ : ∃ u, u = und T (Dm + 1) i := ⟨_, rfl⟩
  rw [← hu] at hlen HUN hu4
  obtain ⟨L, cap, uv, Z, M, h1, hM⟩ := h
  have hlM : M.length = T.length := by rw [← hM]; simp
  obtain ⟨b, hb⟩ : ∃ b, b = w.heap.size := ⟨_, rfl⟩
  obtain ⟨w1, hw1⟩ : ∃ w1, w1 = w.alloc (.cells #[.pointer (some ⟨R, 0, none⟩)] 28) := ⟨_, rfl⟩
  obtain ⟨w2, hw2⟩ : ∃ w2, w2 = w1.alloc (.cells #[.int .i64 (M.length : Int)] 3) := ⟨_, rfl⟩
  have hbl1 : Below w.heap.size w w1 := by rw [hw1]; exact bl_alloc (Below.refl _ _) _
  have hbl2 : Below w.heap.size w w2 := by rw [hw2]; exact bl_alloc hbl1 _
  have hbk1 : Bk w1 b 28 #[.pointer (some ⟨R, 0, none⟩)] := by rw [hw1, hb]; exact bk_new' _ _ _ rfl
  have hbk2 : Bk w2 b 28 #[.pointer (some ⟨R, 0, none⟩)] := by rw [hw2]; exact hbk1.alloc _
  have hbk3 : Bk w2 (b + 1) 3 #[.int .i64 (M.length : Int)] := by rw [hw2, hb]; exact bk_new' _ _ _ (by rw [hw1]; simp)
  have hS1 := h1.below hbl1
  have HI := Lib.hid (c_is_yes hS1.ns i (by omega) (by omega))
  have e0 : w1.cell? ⟨b, 0, none⟩ = some (.pointer (some ⟨R, 0, none⟩)) := hbk1.cell 0
  obtain ⟨g0, _⟩ := hS1.ns.heads
  have hr := hS1.ns.ltR
  have lb := hbk1.lt
  have hii0 : ¬ (i : Int) = 0 := by omega
  have hii1 : ((i : Int) == 0) = false := by rw [beq_eq_false_iff_ne]; exact hii0
  have HB := Lib.hid hb
  have HBL2 := Lib.hid hbl2
  have HBK2 := Lib.hid hbk2
  have HBK3 := Lib.hid hbk3
  have HW1 := Lib.hid hw1
  have HW2 := Lib.hid hw2
  have HSZ1 : Hid (w1.heap.size = b + 1) := by unfold Hid; rw [hw1, hb]; simp
  have hsum : 400 < M.length + u.length := by omega
  have hm4 : M.length ≤ 400 := by omega
  have hu44 : u.length ≤ 400 := by omega
  have HG := Lib.hid hG
  clear h1 hM hW hDm hT hi hi0 hlen hu hb hw1 hw2 hbl1 hbl2 hbk1 hbk2 hbk3 hS1 hlM hG hu4
  go_enter Tryd.func68, Tryd.ntmps68
  go_upto_region 1 with fail
  rw [← HW1.out, ← HB.out]
  go_upto_region 6 with (go_at_call 47; refine (HI.out).mono ?_; rintro e w' ⟨rfl, rfl⟩)
  rw [← HW2.out, HSZ1.out]
  go_cut [26] (fun v26 wx => v26 = .bool true ∧ Hid (Below w2.heap.size w2 wx))
  case first =>
    have HF : Hid (∀ W', Below w2.heap.size w2 W' → W'.cell? ⟨b + 1, 0, none⟩ = some (.int .i64 (M.length : Int)) ∧ W'.cell? ⟨b, 0, none⟩ = some (.pointer (some ⟨R, 0, none⟩))) := fun W' hb => ⟨(Bk.below HBK3.out hb HBK3.out.lt).cell 0, (Bk.below HBK2.out hb HBK2.out.lt).cell 0⟩
    have HUX : Hid (∀ W', Below w2.heap.size w2 W' → Calls Tryd.prog 61 #[.pointer (some ⟨R, 0, none⟩), .int .i64 (i : Int)] W' (WyRet W' u)) := fun W' hb => HUN.out W' (bl_trans HBL2.out hb)
    have hsi : IntKind.i64.wrap ((M.length : Int) + (u.length : Int)) = (M.length : Int) + (u.length : Int) := IntWalk.i64_in _ (by omega)
    have hgt : (400 : Int) < (M.length : Int) + (u.length : Int) := by omega
    obtain ⟨s0, s1⟩ := HF.out w2 (Below.refl _ _)
    clear e0 g0 hr lb
    go_region_held3 (fun w' => w'.cell? ⟨b + 1, 0, none⟩ = some (.int .i64 (M.length : Int)) ∧ w'.cell? ⟨b, 0, none⟩ = some (.pointer (some ⟨R, 0, none⟩)))
      (first | with_reducible exact HF.out _ (Below.refl _ _) | with_reducible exact HF.out _ (bl_drew (Below.refl _ _)) | with_reducible exact HF.out _ HBU.out)
      (first | (go_at_call 61; (with_reducible refine (HUX.out _ (bl_drew (Below.refl _ _))).mono ?_); rintro e wu ⟨vu, rfl, hou, hbu⟩; obtain ⟨_, Au, cu, rfl, _, _⟩ := RdS.of_own hou; have HBU : Hid (Below w2.heap.size w2 wu) := bl_trans (bl_drew (Below.refl _ _)) hbu; clear hou hbu))
    all_goals
      go_wp2_with fail
      go_meet
      exact ⟨by simp <;> omega, HBU.out⟩
  case rest =>
    obtain ⟨rfl, HBC⟩ := hcut
    have hb3 := bl_trans HBL2.out HBC.out
    have HBL3 := Lib.hid hb3
    have hg := HG.out.below (hb3.mono HG.out.lt.2)
    have z1 := hg.bound
    have z2 : 3 < wc.heap.size := by have := hg.lt; omega
    clear e0 g0 hr lb hb3 hg
    go_upto_region 7 with fail
    go_quiet (fail)
    go_wp2_with fail
    go_ret2
    exact ⟨rfl, bl_drewN HBL3.out _⟩
end Go.Proofs.YtimlmekgapdkiaaDoor
