/- the tree: a node is cut out that lies nowhere -/
import Derived.Test.YtimlmekgapdkiaaDoorTmk
namespace Go.Proofs.YtimlmekgapdkiaaDoor
set_option linter.unusedVariables false
set_option linter.unusedSimpArgs false
open Go.RowKit Go.Cas

def setPa (y : NV) (a : Int) : NV := ⟨{ y.x with pa := a }, y.va, y.vk⟩
def setKi (y : NV) (v : Value) (l : List Nat) : NV := ⟨{ y.x with ki := l }, y.va, v⟩
theorem setPa_cells (y : NV) (a : Int) : (nvc y).set 4 (.int .i64 a) = nvc (setPa y a) := rfl
theorem setKi_cells (y : NV) (v : Value) (l : List Nat) : (nvc y).set 5 v = nvc (setKi y v l) := rfl
set_option maxRecDepth 100000 in
set_option maxHeartbeats 4000000 in
theorem c_cut1 {w : World} {B R L cap b0 b1 i : Nat} {uv : Value} {Z : Nat → Prop} {M : List NV} {y : NV} (h : NS B R L cap uv Z M w) (hy : M[i]? = some y) (hM : M.length ≤ 400)
    (hb0 : Bk w b0 28 #[.pointer (some ⟨R, 0, none⟩)]) (hb1 : Bk w b1 3 #[.int .i64 (i : Int)]) :
    Calls Tryd.prog 113 #[.pointer (some ⟨b0, 0, none⟩), .pointer (some ⟨b1, 0, none⟩)] w fun e w3 => (∃ u, e = .returned u) ∧ NS B R L cap uv Z (M.set i (setPa y (-1))) w3 ∧ Kept w w3 (fun k => k = R ∨ k = L) := by
  obtain ⟨w2, hw2⟩ : ∃ w2, w2 = w.drew := ⟨_, rfl⟩
  have h2 : NS B R L cap uv Z M w2 := by rw [hw2]; exact h.below (bl_drew (Below.refl _ w))
  have H := Lib.hid h2
  obtain ⟨g0, g1, g2, g3⟩ := h2.heads
  have hr := h2.ltR
  have hrL := h2.ltL
  have e0 : w2.cell? ⟨b0, 0, none⟩ = some (.pointer (some ⟨R, 0, none⟩)) := by rw [hw2]; exact hb0.cell 0
  have e1 : w2.cell? ⟨b1, 0, none⟩ = some (.int .i64 (i : Int)) := by rw [hw2]; exact hb1.cell 0
  obtain ⟨_, _, a4, _⟩ := h2.cell hy
  have f4 := h2.free (i * 6 + 4)
  have hi := (List.getElem?_eq_some_iff.1 hy).1
  have hii : (i : Int) < (M.length : Int) := by omega
  have h0i : 0 ≤ (i : Int) := by omega
  have HY := Lib.hid hy
  have HW2 := Lib.hid hw2
  clear h h2 hb0 hb1 hy hw2
  go_enter Tryd.func113, Tryd.ntmps113
  go_wp2_with fail
  refine wp_region_still_tail 7 (by kernel_rfl) (by kernel_rfl) ?_
  simp only [List.take_succ_cons, List.take_zero, List.drop_succ_cons, List.drop_zero]
  change wpStill _ _ (World.drew _) _ _ _
  rw [← HW2.out]
  repeat still_step
  refine wpStill_nil ?_
  change wpList _ _ _ _ _ (World.drew _)
  rw [← HW2.out]
  go_wp2_with fail
  go_end0
  refine ⟨⟨_, rfl⟩, ?_, ?_⟩
  · exact H.out.setN HY.out 4 (by omega) _ (setPa_cells y (-1)) (H.out.rd y (List.mem_of_getElem? HY.out))
  · rw [HW2.out]; exact ((Kept.refl w _).drew).set_ L _ (fun _ => .inr rfl) _
theorem enter_cut1 (cs : Array Value) (w : World) : (callFunc 113 cs).run Tryd.prog w = .ok (.enter 113 cs) w := by kernel_rfl
theorem u_cut1 {w : World} {B R b0 b1 i : Nat} {Z : Nat → Prop} {T : List Nod} {x : Nod} {q : Int} (hx : T[i]? = some x) (hp : x.pa = -1) (hT : T.length ≤ 400)
    (hb0 : Bk w b0 28 #[.pointer (some ⟨R, 0, none⟩)]) (hb1 : Bk w b1 3 #[.int .i64 (i : Int)]) (z0 : Z b0) (z1 : Z b1) :
    UOk B R Z w (.func (.func 113) #[] #[.pointer (some ⟨b0, 0, none⟩), .pointer (some ⟨b1, 0, none⟩)]) (T.set i { x with pa := q }) T := by
  refine ⟨_, _, rfl, enter_cut1 _, fun w2 L2 cap2 uv2 Z2 M2 h1 h2 h3 => ?_⟩
  have hi := (List.getElem?_eq_some_iff.1 hx).1
  obtain ⟨y, hy, hyx⟩ := nv_get h3 (List.getElem?_set_self (by simpa using hi))
  have hl : M2.length ≤ 400 := by
    have := congrArg List.length h3
    simp at this; omega
  refine (c_cut1 h2 hy hl ((h1 b0 z0).1.trans hb0) ((h1 b1 z1).1.trans hb1)).mono fun e w3 ⟨q1, q2, q3⟩ => ⟨q1, _, _, q2, ?_, q3⟩
  rw [List.map_set, h3]
  have : (setPa y (-1)).x = x := by
    show ({ y.x with pa := -1 } : Nod) = x
    rw [hyx]
    show ({ x with pa := -1 } : Nod) = x
    rw [← hp]
  rw [this]
  exact set_back hx
def CtMid (B R L cap : Nat) (uv : Value) (Z : Nat → Prop) (M : List NV) (T : List Nod) (D : List (Value × List Nod)) (F : Nat → Prop) (a : Int) (b i : Nat) (w wx : World) : Prop :=
  TSi B R L cap uv Z M T D F wx ∧ Below w.heap.size w wx ∧ Bk wx b 28 #[.pointer (some ⟨R, 0, none⟩)] ∧ Bk wx (b + 1) 3 #[.int .i64 (i : Int)] ∧ Bk wx (b + 2) 3 #[.int .i64 a]
/-- what cut leaves -/
def CtRet (B R i : Nat) (T : List Nod) (D : List (Value × List Nod)) (F : Nat → Prop) (w : World) (e : Ending) (w' : World) : Prop :=
  ∃ back L cap uv Z M F', e = .returned back ∧ TSi B R L cap uv Z M T D F' w' ∧ M.map NV.x = cutE T i ∧ (∀ k, k < w.heap.size → F' k → F k) ∧ Kept w w' F ∧ ∀ q, UOk B R Z w' back ((cutE T i).set i { ndA (cutE T i) i with pa := q }) T
set_option maxRecDepth 100000 in
set_option maxHeartbeats 8000000 in
theorem c_cut_none {w : World} {B R i : Nat} {F : Nat → Prop} {T : List Nod} {D : List (Value × List Nod)} {x : Nod} (h : TS B R T D F w) (hT : T.length ≤ 400) (hx : T[i]? = some x) (hp : x.pa = -1) :
    Calls Tryd.prog 86 #[.pointer (some ⟨R, 0, none⟩), .int .i64 (i : Int)] w (CtRet B R i T D F w) := by
  obtain ⟨L, cap, uv, Z, M, h1, hM⟩ := h
  obtain ⟨y, hy, rfl⟩ := nv_get hM hx
  have H := Lib.hid h1
  have HM := Lib.hid hM
  have HX := Lib.hid hx
  have HY := Lib.hid hy
  have HT := Lib.hid hT
  have HP := Lib.hid hp
  have hl : M.length ≤ 400 := by rw [← hM] at hT; simpa using hT
  have hi := (List.getElem?_eq_some_iff.1 hy).1
  have hii : (i : Int) < (M.length : Int) := by omega
  have h0i : 0 ≤ (i : Int) := by omega
  obtain ⟨b, hb⟩ : ∃ b, b = w.heap.size := ⟨_, rfl⟩
  obtain ⟨w1, hw1⟩ : ∃ w1, w1 = (w.alloc (.cells #[.pointer (some ⟨R, 0, none⟩)] 28)).alloc (.cells #[.int .i64 (i : Int)] 3) := ⟨_, rfl⟩
  have hbk0 : Bk w1 b 28 #[.pointer (some ⟨R, 0, none⟩)] := by rw [hw1, hb]; exact (Bk.new _ _ _).alloc _
  have hbk1 : Bk w1 (b + 1) 3 #[.int .i64 (i : Int)] := by rw [hw1, hb]; exact bk_new' _ _ _ (by simp)
  have hbl : Below w.heap.size w w1 := by rw [hw1]; exact bl_alloc (bl_alloc (Below.refl _ _) _) _
  have hsz : w1.heap.size = b + 2 := by rw [hw1, hb]; simp
  have h2 := h1.below hbl
  have HS1 := Lib.hid h2
  have HBL := Lib.hid hbl
  have HBK0 := Lib.hid hbk0
  have HBK1 := Lib.hid hbk1
  have HB := Lib.hid hb
  have HSZ := Lib.hid hsz
  have HW1 := Lib.hid hw1
  have hF1 : ∀ W', Below w1.heap.size w1 W' → (W'.cell? ⟨b, 0, none⟩ = some (.pointer (some ⟨R, 0, none⟩)) ∧ W'.cell? ⟨b + 1, 0, none⟩ = some (.int .i64 (i : Int)) ∧ W'.cell? ⟨R, 0, none⟩ = some (.slice (some ⟨L, 0, none⟩) M.length cap) ∧ W'.cell? ⟨L, i * 6 + 4, none⟩ = some (.int .i64 (-1))) := fun W' hb => by
    have n1 := h2.ns.below hb
    refine ⟨(hbk0.below hb hbk0.lt).cell 0, (hbk1.below hb hbk1.lt).cell 0, n1.heads.1, ?_⟩
    rw [← hp]
    exact (n1.cell hy).2.2.1
  have HF1 := Lib.hid hF1
  clear h1 hM hx hy hT hb hw1 hbk0 hbk1 hbl hsz h2 hF1 hp
  go_enter Tryd.func86, Tryd.ntmps86
  go_upto_region 1 with fail
  rw [← HW1.out, ← HB.out]
  go_cut [5] (fun v5 wx => v5 = .pointer (some ⟨b + 2, 0, none⟩) ∧ Hid (CtMid B R L cap uv Z M T D F (-1) b i w wx))
  case first =>
    go_region_held3 (fun w' => w'.cell? ⟨b, 0, none⟩ = some (.pointer (some ⟨R, 0, none⟩)) ∧ w'.cell? ⟨b + 1, 0, none⟩ = some (.int .i64 (i : Int)) ∧ w'.cell? ⟨R, 0, none⟩ = some (.slice (some ⟨L, 0, none⟩) M.length cap) ∧ w'.cell? ⟨L, i * 6 + 4, none⟩ = some (.int .i64 (-1)))
      (first | exact HF1.out _ (Below.refl _ _) | exact HF1.out _ (bl_drew (Below.refl _ _)) | exact HF1.out _ (bl_drew (bl_alloc (Below.refl _ _) _)) | exact HF1.out _ (bl_set (bl_drew (bl_alloc (Below.refl _ _) _)) _ _ (by simp) _))
      (fail)
    all_goals
      go_wp2_with fail
      go_meet
      exact ⟨by rw [HSZ.out], HS1.out.below (bl_drew (bl_alloc (Below.refl _ _) _)), bl_trans HBL.out (bl_drew (bl_alloc (Below.refl _ _) _)), Bk.drew (HBK0.out.alloc _), Bk.drew (HBK1.out.alloc _), Bk.drew (bk_new' _ _ _ HSZ.out.symm)⟩
  case rest =>
    obtain ⟨rfl, hmid⟩ := hcut
    obtain ⟨hSc, hBc, hb0, hb1, hb2⟩ := hmid.out
    have e2 : wc.cell? ⟨b + 2, 0, none⟩ = some (.int .i64 (-1)) := hb2.cell 0
    have l2 := hb2.lt
    have HSc := Lib.hid hSc
    have HBC := Lib.hid hBc
    have HB0 := Lib.hid hb0
    have HB1 := Lib.hid hb1
    clear hSc hBc hb0 hb1 hb2 hmid HF1 HBK0 HBK1 HBL HS1 HW1
    go_wp2_with fail
    go_ret
    have hbw : b = w.heap.size := HB.out
    have hBb : B ≤ b := by have := H.out.ns.geo.1; have := H.out.ns.ltR; omega
    have hexb : ∀ k, exT R L uv k → k < b := fun k hk => by have := (H.out.ns.ex hk).2; omega
    have hSz := HSc.out.wideZ (fun k => k = b ∨ k = b + 1) (fun k hk => by
      rcases hk with rfl | rfl
      · exact ⟨hBb, HB0.out.lt, fun e => by have := hexb _ e; omega⟩
      · exact ⟨by omega, HB1.out.lt, fun e => by have := hexb _ e; omega⟩)
    have hx := HX.out
    have hpn : (ndA T i).pa < 0 := by rw [ndA_eq hx, HP.out]; omega
    refine ⟨_, L, cap, uv, _, M, _, rfl, hSz, ?_, fun k hk hf => ?_, Kept.of_below HBC.out F, fun q => ?_⟩
    · rw [cutE_none hpn]; exact HM.out
    · rcases hf with hf | rfl | rfl
      · exact hf
      · omega
      · omega
    · rw [cutE_none hpn, ndA_eq hx]
      exact u_cut1 hx HP.out HT.out HB0.out HB1.out (.inr (.inl rfl)) (.inr (.inr rfl))
end Go.Proofs.YtimlmekgapdkiaaDoor
