/- the tree: Say, Take and Put that fail -/
import Derived.Test.YtimlmekgapdkiaaGreatDoorVa
namespace Go.Proofs.YtimlmekgapdkiaaGreatDoor
set_option linter.unusedVariables false
set_option linter.unusedSimpArgs false
open Go.RowKit Go.Cas

def ErrB (p : Nat → Addr) (k : Nat) (w : World) (e : Ending) (w' : World) : Prop := e = .returned (errV p k) ∧ Below w.heap.size w w'
theorem ErrR.b {p : Nat → Addr} {k : Nat} {w : World} {e : Ending} {w' : World} (h : ErrR p k w e w') : ErrB p k w e w' := ⟨h.1, h.2 ▸ Below.refl _ _⟩
theorem c_Say_no {w : World} {B R : Nat} {F : Nat → Prop} {T : List Nod} {D : List (Value × List Nod)} {a : Int} {p : Nat → Addr} (h : TS B R T D F w) (hG : GE w B p) (hT : T.length ≤ 400) (ha : a < 0 ∨ (T.length : Int) ≤ a) (s : ByteArray) :
    Calls Tryz.prog 33 #[.pointer (some ⟨R, 0, none⟩), .int .i64 a, .string s] w (ErrB p 4 w) := by
  obtain ⟨w1, hw1⟩ : ∃ w1, w1 = (w.alloc (.cells #[.pointer (some ⟨R, 0, none⟩)] 23)).alloc (.cells #[.int .i64 a] 3) := ⟨_, rfl⟩
  obtain ⟨b, hb⟩ : ∃ b, b = w.heap.size := ⟨_, rfl⟩
  have hbk0 : Bk w1 b 23 #[.pointer (some ⟨R, 0, none⟩)] := by rw [hw1, hb]; exact (Bk.new _ _ _).alloc _
  have hbk1 : Bk w1 (b + 1) 3 #[.int .i64 a] := by rw [hw1, hb]; exact bk_new' _ _ _ (by simp)
  have hbl : Below w.heap.size w w1 := by rw [hw1]; exact bl_alloc (bl_alloc (Below.refl _ _) _) _
  have h2 := h.below hbl
  obtain ⟨L, cap, uv, Z, M, h1, hM, _⟩ := h2.ns
  have hlM : M.length = T.length := by rw [← hM]; simp
  have HI := Lib.hid (c_is_no h1 a (by omega) (by omega))
  have e0 : w1.cell? ⟨b, 0, none⟩ = some (.pointer (some ⟨R, 0, none⟩)) := hbk0.cell 0
  have e1 : w1.cell? ⟨b + 1, 0, none⟩ = some (.int .i64 a) := hbk1.cell 0
  have l1 := hbk1.lt
  have HG := Lib.hid (hG.below (hbl.mono hG.lt.2))
  have z1 := HG.out.node
  have z2 : 1 < w1.heap.size := by have := HG.out.lt; omega
  have HBL := Lib.hid hbl
  have HB := Lib.hid hb
  have HW1 := Lib.hid hw1
  clear h hG hT ha hw1 hb hbk0 hbk1 hbl h2 h1 hM hlM
  go_enter Tryz.func33, Tryz.ntmps33
  go_upto_region 1 with fail
  rw [← HW1.out, ← HB.out]
  go_wp2_with (go_at_call 45; refine (HI.out).mono ?_; rintro e w' ⟨rfl, rfl⟩)
  go_ret
  exact ⟨rfl, HBL.out⟩
theorem c_Say_bad {w : World} {B R i : Nat} {F : Nat → Prop} {T : List Nod} {D : List (Value × List Nod)} {x : Nod} {p : Nat → Addr} (h : TS B R T D F w) (hG : GE w B p) (hT : T.length ≤ 400) (hx : T[i]? = some x) (s : ByteArray) (hk : ¬ (x.k = 3 ∨ x.k = 4)) :
    Calls Tryz.prog 33 #[.pointer (some ⟨R, 0, none⟩), .int .i64 (i : Int), .string s] w (ErrB p 5 w) := by
  obtain ⟨w1, hw1⟩ : ∃ w1, w1 = (w.alloc (.cells #[.pointer (some ⟨R, 0, none⟩)] 23)).alloc (.cells #[.int .i64 (i : Int)] 3) := ⟨_, rfl⟩
  obtain ⟨b, hb⟩ : ∃ b, b = w.heap.size := ⟨_, rfl⟩
  have hbk0 : Bk w1 b 23 #[.pointer (some ⟨R, 0, none⟩)] := by rw [hw1, hb]; exact (Bk.new _ _ _).alloc _
  have hbk1 : Bk w1 (b + 1) 3 #[.int .i64 (i : Int)] := by rw [hw1, hb]; exact bk_new' _ _ _ (by simp)
  have hbl : Below w.heap.size w w1 := by rw [hw1]; exact bl_alloc (bl_alloc (Below.refl _ _) _) _
  have h2 := h.below hbl
  obtain ⟨L, cap, uv, Z, M, h1, hM, _⟩ := h2.ns
  obtain ⟨y, hy, hyx⟩ := nv_get hM hx
  have hlM : M.length = T.length := by rw [← hM]; simp
  have hp := (List.getElem?_eq_some_iff.1 hx).1
  have HI := Lib.hid (c_is_yes h1 i (by omega) (by omega))
  have e0 : w1.cell? ⟨b, 0, none⟩ = some (.pointer (some ⟨R, 0, none⟩)) := hbk0.cell 0
  have e1 : w1.cell? ⟨b + 1, 0, none⟩ = some (.int .i64 (i : Int)) := hbk1.cell 0
  have l1 := hbk1.lt
  obtain ⟨g0, _⟩ := h1.heads
  have hr := h1.ltR
  have hrL := h1.ltL
  obtain ⟨⟨a0, _, _⟩, _⟩ := h1.cell hy
  rw [hyx] at a0
  have hpM : (i : Int) < (M.length : Int) := by omega
  have h0p : 0 ≤ (i : Int) := by omega
  have hl4 : M.length ≤ 400 := by omega
  obtain ⟨xk, hxk⟩ : ∃ xk, xk = x.k := ⟨_, rfl⟩
  rw [← hxk] at a0 hk
  have k3 : ¬ xk = 3 := fun e => hk (.inl e)
  have k4 : ¬ xk = 4 := fun e => hk (.inr e)
  have b1 : (xk != 3) = true := by rw [bne_iff_ne]; exact k3
  have b2 : (xk != 4) = true := by rw [bne_iff_ne]; exact k4
  have HG := Lib.hid (hG.below (hbl.mono hG.lt.2))
  have z1 := HG.out.place
  have z2 : 2 < w1.heap.size := by have := HG.out.lt; omega
  have HBL := Lib.hid hbl
  have HB := Lib.hid hb
  have HW1 := Lib.hid hw1
  clear h hG hT hx hw1 hb hbk0 hbk1 hbl h2 h1 hM hy hyx hlM hp hxk hk
  go_enter Tryz.func33, Tryz.ntmps33
  go_upto_region 1 with fail
  rw [← HW1.out, ← HB.out]
  go_upto_region 3 with (go_at_call 45; refine (HI.out).mono ?_; rintro e w' ⟨rfl, rfl⟩)
  go_quiet (fail)
  go_wp2_with fail
  go_ret
  exact ⟨rfl, bl_drewN HBL.out _⟩
theorem c_Say_long {w : World} {B R i : Nat} {F : Nat → Prop} {T : List Nod} {D : List (Value × List Nod)} {x : Nod} {p : Nat → Addr} (h : TS B R T D F w) (hG : GE w B p) (hT : T.length ≤ 400) (hx : T[i]? = some x) (s : ByteArray) (hk : x.k = 3 ∨ x.k = 4) (hs : 20000 < s.size) (hs2 : s.size ≤ maxLen) :
    Calls Tryz.prog 33 #[.pointer (some ⟨R, 0, none⟩), .int .i64 (i : Int), .string s] w (ErrB p 2 w) := by
  obtain ⟨w1, hw1⟩ : ∃ w1, w1 = (w.alloc (.cells #[.pointer (some ⟨R, 0, none⟩)] 23)).alloc (.cells #[.int .i64 (i : Int)] 3) := ⟨_, rfl⟩
  obtain ⟨b, hb⟩ : ∃ b, b = w.heap.size := ⟨_, rfl⟩
  have hbk0 : Bk w1 b 23 #[.pointer (some ⟨R, 0, none⟩)] := by rw [hw1, hb]; exact (Bk.new _ _ _).alloc _
  have hbk1 : Bk w1 (b + 1) 3 #[.int .i64 (i : Int)] := by rw [hw1, hb]; exact bk_new' _ _ _ (by simp)
  have hbl : Below w.heap.size w w1 := by rw [hw1]; exact bl_alloc (bl_alloc (Below.refl _ _) _) _
  have h2 := h.below hbl
  obtain ⟨L, cap, uv, Z, M, h1, hM, _⟩ := h2.ns
  obtain ⟨y, hy, hyx⟩ := nv_get hM hx
  have hlM : M.length = T.length := by rw [← hM]; simp
  have hp := (List.getElem?_eq_some_iff.1 hx).1
  have HI := Lib.hid (c_is_yes h1 i (by omega) (by omega))
  have e0 : w1.cell? ⟨b, 0, none⟩ = some (.pointer (some ⟨R, 0, none⟩)) := hbk0.cell 0
  have e1 : w1.cell? ⟨b + 1, 0, none⟩ = some (.int .i64 (i : Int)) := hbk1.cell 0
  have l1 := hbk1.lt
  obtain ⟨g0, _⟩ := h1.heads
  have hr := h1.ltR
  have hrL := h1.ltL
  obtain ⟨⟨a0, _, _⟩, _⟩ := h1.cell hy
  rw [hyx] at a0
  have hpM : (i : Int) < (M.length : Int) := by omega
  have h0p : 0 ≤ (i : Int) := by omega
  have hl4 : M.length ≤ 400 := by omega
  have hsi : (20000 : Int) < (s.size : Int) := by omega
  obtain ⟨xk, hxk⟩ : ∃ xk, xk = x.k := ⟨_, rfl⟩
  rw [← hxk] at a0 hk
  have HG := Lib.hid (hG.below (hbl.mono hG.lt.2))
  have HBL := Lib.hid hbl
  have HB := Lib.hid hb
  have HW1 := Lib.hid hw1
  clear h hG hT hx hw1 hb hbk0 hbk1 hbl h2 h1 hM hy hyx hlM hp hxk
  have hsm : (s.size : Int) ≤ 9223372036854775807 := by unfold maxLen at hs2; omega
  clear hs2
  have z1 := HG.out.bound
  have z2 : 3 < w1.heap.size := by have := HG.out.lt; omega
  rcases hk with rfl | rfl
  · go_enter Tryz.func33, Tryz.ntmps33
    go_upto_region 1 with fail
    rw [← HW1.out, ← HB.out]
    go_upto_region 3 with (go_at_call 45; refine (HI.out).mono ?_; rintro e w' ⟨rfl, rfl⟩)
    go_quiet (fail)
    go_wp2_with fail
    go_ret
    exact ⟨rfl, bl_drewN HBL.out _⟩
  · go_enter Tryz.func33, Tryz.ntmps33
    go_upto_region 1 with fail
    rw [← HW1.out, ← HB.out]
    go_upto_region 3 with (go_at_call 45; refine (HI.out).mono ?_; rintro e w' ⟨rfl, rfl⟩)
    go_quiet (fail)
    go_wp2_with fail
    go_ret
    exact ⟨rfl, bl_drewN HBL.out _⟩
theorem c_Take_no {w : World} {B R : Nat} {F : Nat → Prop} {T : List Nod} {D : List (Value × List Nod)} {a : Int} {p : Nat → Addr} (h : TS B R T D F w) (hG : GE w B p) (hT : T.length ≤ 400) (ha : a < 0 ∨ (T.length : Int) ≤ a) :
    Calls Tryz.prog 28 #[.pointer (some ⟨R, 0, none⟩), .int .i64 a] w (ErrB p 4 w) := by
  obtain ⟨L, cap, uv, Z, M, h1, hM, _⟩ := h.ns
  have hlM : M.length = T.length := by rw [← hM]; simp
  have HI := Lib.hid (c_is_no h1 a (by omega) (by omega))
  have z1 := hG.node
  have z2 : 1 < w.heap.size := by have := hG.lt; omega
  clear h hG h1 hM hlM ha
  go_enter Tryz.func28, Tryz.ntmps28
  go_wp2_with (go_at_call 45; refine (HI.out).mono ?_; rintro e w' ⟨rfl, rfl⟩)
  go_ret
  exact ⟨rfl, Below.refl _ _⟩
theorem c_Take_free {w : World} {B R i : Nat} {F : Nat → Prop} {T : List Nod} {D : List (Value × List Nod)} {x : Nod} {p : Nat → Addr} (h : TS B R T D F w) (hG : GE w B p) (hT : T.length ≤ 400) (hx : T[i]? = some x) (hf : x.pa < 0) :
    Calls Tryz.prog 28 #[.pointer (some ⟨R, 0, none⟩), .int .i64 (i : Int)] w (ErrB p 5 w) := by
  obtain ⟨L, cap, uv, Z, M, h1, hM, _⟩ := h.ns
  obtain ⟨y, hy, rfl⟩ := nv_get hM hx
  have hlM : M.length = T.length := by rw [← hM]; simp
  have hp := (List.getElem?_eq_some_iff.1 hx).1
  have HI := Lib.hid (c_is_yes h1 i (by omega) (by omega))
  obtain ⟨g0, _⟩ := h1.heads
  have hr := h1.ltR
  have hrL := h1.ltL
  obtain ⟨_, _, a4, _⟩ := h1.cell hy
  obtain ⟨pa, hpa⟩ : ∃ pa, pa = y.x.pa := ⟨_, rfl⟩
  rw [← hpa] at a4 hf
  have hpM : (i : Int) < (M.length : Int) := by omega
  have h0p : 0 ≤ (i : Int) := by omega
  have hl4 : M.length ≤ 400 := by omega
  have z1 := hG.place
  have z2 : 2 < w.heap.size := by have := hG.lt; omega
  clear h hG h1 hM hlM hx hy hp hpa
  go_enter Tryz.func28, Tryz.ntmps28
  go_wp2_with (go_at_call 45; refine (HI.out).mono ?_; rintro e w' ⟨rfl, rfl⟩)
  go_ret
  exact ⟨rfl, Below.refl _ _⟩
end Go.Proofs.YtimlmekgapdkiaaGreatDoor
