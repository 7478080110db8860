/- the tree: what undoes a Put -/
import Derived.Test.YtimlmekgapdkiaaDoorTml
namespace Go.Proofs.YtimlmekgapdkiaaDoor
set_option linter.unusedVariables false
set_option linter.unusedSimpArgs false
open Go.RowKit Go.Cas

set_option maxRecDepth 100000 in
set_option maxHeartbeats 4000000 in
theorem c_Put1 {w : World} {B R L cap b0 b1 b2 b3 p : Nat} {uv v0 back : Value} {l0 : List Nat} {Z : Nat → Prop} {M : List NV} {T : List Nod} {y : NV} (h : NS B R L cap uv Z M w) (hy : M[p]? = some y) (hM : M.length ≤ 400)
    (hb0 : Bk w b0 28 #[.pointer (some ⟨R, 0, none⟩)]) (hb1 : Bk w b1 3 #[.int .i64 (p : Int)]) (hb2 : Bk w b2 75 #[v0]) (hb3 : Bk w b3 1 #[back]) (hv : RdZ w Z 1 v0 l0.length (kic l0)) (hz3 : Z b3)
    (hU : UOk B R Z w back ((M.set p (setKi y v0 l0)).map NV.x) T) :
    Calls Tryd.prog 90 #[.pointer (some ⟨b2, 0, none⟩), .pointer (some ⟨b0, 0, none⟩), .pointer (some ⟨b1, 0, none⟩), .pointer (some ⟨b3, 0, none⟩)] w fun e w3 => (∃ u, e = .returned u) ∧ ∃ cap3 M3, NS B R L cap3 uv Z M3 w3 ∧ M3.map NV.x = T ∧ Kept w w3 (fun k => k = R ∨ k = L) := by
  obtain ⟨fn, cs, rfl, hE, hU⟩ := hU
  obtain ⟨w2, hw2⟩ : ∃ w2, w2 = w.drew := ⟨_, rfl⟩
  have h2 : NS B R L cap uv Z M w2 := by rw [hw2]; exact h.below (bl_drew (Below.refl _ w))
  have H := Lib.hid h2
  obtain ⟨g0, g1, g2, g3⟩ := h2.heads
  have hr := h2.ltR
  have hrL := h2.ltL
  have e0 : w2.cell? ⟨b0, 0, none⟩ = some (.pointer (some ⟨R, 0, none⟩)) := by rw [hw2]; exact hb0.cell 0
  have e1 : w2.cell? ⟨b1, 0, none⟩ = some (.int .i64 (p : Int)) := by rw [hw2]; exact hb1.cell 0
  have e2 : w2.cell? ⟨b2, 0, none⟩ = some v0 := by rw [hw2]; exact hb2.cell 0
  have HB3 : Hid (Bk w2 b3 1 #[.func (.func fn) #[] cs]) := by rw [hw2]; exact hb3
  have HN3 : Hid (b3 ≠ L) := fun e => (h.z b3 hz3).2.2 (.inr (.inl e))
  obtain ⟨_, _, _, a5⟩ := h2.cell hy
  have f5 := h2.free (p * 6 + 5)
  have hi := (List.getElem?_eq_some_iff.1 hy).1
  have hii : (p : Int) < (M.length : Int) := by omega
  have h0i : 0 ≤ (p : Int) := by omega
  have hv2 : RdZ w2 Z 1 v0 l0.length (kic l0) := hv.keep (fun k _ => by rw [hw2]; rfl) (fun _ h => h)
  have HV := Lib.hid hv2
  have HY := Lib.hid hy
  have HW2 := Lib.hid hw2
  have HE := Lib.hid hE
  have HU := Lib.hid hU
  obtain ⟨_, A, c, rfl, _, _⟩ := hv
  obtain ⟨vk, hvk⟩ : ∃ vk, vk = y.vk := ⟨_, rfl⟩
  rw [← hvk] at a5
  have hy2 := (h2.rd y (List.mem_of_getElem? hy)).2
  rw [← hvk] at hy2
  obtain ⟨_, A2, c2, rfl, _, _⟩ := hy2
  clear h h2 hb0 hb1 hb2 hb3 hv2 hy hw2 hvk hE hU hz3
  go_enter Tryd.func90, Tryd.ntmps90
  go_wp2_with fail
  refine wp_region_still_tail 8 (by kernel_rfl) (by kernel_rfl) ?_
  simp only [List.take_succ_cons, List.take_zero, List.drop_succ_cons, List.drop_zero]
  change wpStill _ _ (World.drew _) _ _ _
  rw [← HW2.out]
  repeat still_step
  refine wpStill_nil ?_
  change wpList _ _ _ _ _ (World.drew _)
  rw [← HW2.out]
  go_upto_region 1 with fail
  obtain ⟨wn, hwn⟩ : ∃ wn, wn = w2.setCell ⟨L, p * 6 + 5, none⟩ (.slice A l0.length c) := ⟨_, rfl⟩
  rw [← hwn]
  have hn : NS B R L cap uv Z (M.set p (setKi y (.slice A l0.length c) l0)) wn := by
    rw [hwn]
    exact H.out.setN HY.out 5 (by omega) _ (setKi_cells y _ l0) ⟨(H.out.rd y (List.mem_of_getElem? HY.out)).1, HV.out⟩
  have hkn : ∀ k, k ≠ L → wn.heap[k]? = w.heap[k]? := fun k hk => by rw [hwn]; exact (Below.heap_setCell w2 ⟨L, p * 6 + 5, none⟩ _ k hk).trans (by rw [HW2.out]; rfl)
  have e3 : wn.cell? ⟨b3, 0, none⟩ = some (.func (.func fn) #[] cs) := by rw [hwn]; exact (HB3.out.far (p := ⟨L, p * 6 + 5, none⟩) HN3.out _).cell 0
  have HC := Lib.hid (HU.out wn L cap uv Z _ (fun k hz => ⟨hkn k (fun e => (H.out.z k hz).2.2 (.inr (.inl e))), hz⟩) hn rfl)
  have HK : Hid (Kept w wn (fun k => k = R ∨ k = L)) := by
    unfold Hid
    rw [hwn, HW2.out]
    exact ((Kept.refl w _).drew).set_ L _ (fun _ => .inr rfl) _
  clear hn hkn hwn e0 e1 e2 g0 g1 g2 g3 hr hrL a5 f5
  go_wp2_with fail
  rw [HE.out, Oper.upon_enter]
  refine HC.out.mono ?_
  rintro e w3 ⟨⟨u, rfl⟩, cap3, M3, h3, hM3, hk3⟩
  have H3 := Lib.hid h3
  have HM3 := Lib.hid hM3
  have HK3 := Lib.hid hk3
  clear h3 hM3 hk3
  go_wp2_with fail
  go_end0
  exact ⟨⟨_, rfl⟩, cap3, M3, H3.out, HM3.out, HK.out.trans HK3.out⟩
theorem enter_Put1 (cs : Array Value) (w : World) : (callFunc 90 cs).run Tryd.prog w = .ok (.enter 90 cs) w := by kernel_rfl
theorem putE_back {T : List Nod} {p i : Nat} {ks : List Nat} {x : Nod} (hp : T[p]? = some x) (hpi : p ≠ i) : (putE T p i ks).set p { ({ x with ki := ks } : Nod) with ki := x.ki } = T.set i { ndA T i with pa := (p : Int) } := by
  unfold putE
  have hpl := (List.getElem?_eq_some_iff.1 hp).1
  have e : ndA (T.set p { ndA T p with ki := ks }) i = ndA T i := by rw [ndA_set hpl, if_neg (Ne.symm hpi)]
  rw [e, List.set_comm _ _ (Ne.symm hpi), List.set_set]
  congr 1
  apply List.ext_getElem?
  intro j
  rw [List.getElem?_set]
  split
  · rename_i hj; subst hj; simp only [hpl, if_true]; exact hp.symm
  · rfl
theorem u_put {w : World} {B R b0 b1 b2 b3 p i : Nat} {v0 back : Value} {ks : List Nat} {Z : Nat → Prop} {T T0 : List Nod} {x : Nod} (hx : T[p]? = some x) (hpi : p ≠ i) (hT : T.length ≤ 400)
    (hb0 : Bk w b0 28 #[.pointer (some ⟨R, 0, none⟩)]) (hb1 : Bk w b1 3 #[.int .i64 (p : Int)]) (hb2 : Bk w b2 75 #[v0]) (hb3 : Bk w b3 1 #[back]) (hv : RdZ w Z 1 v0 x.ki.length (kic x.ki))
    (z0 : Z b0) (z1 : Z b1) (z2 : Z b2) (z3 : Z b3) (hU : UOk B R Z w back (T.set i { ndA T i with pa := (p : Int) }) T0) :
    UOk B R Z w (.func (.func 90) #[] #[.pointer (some ⟨b2, 0, none⟩), .pointer (some ⟨b0, 0, none⟩), .pointer (some ⟨b1, 0, none⟩), .pointer (some ⟨b3, 0, none⟩)]) (putE T p i ks) T0 := by
  refine ⟨_, _, rfl, enter_Put1 _, fun w2 L2 cap2 uv2 Z2 M2 h1 h2 h3 => ?_⟩
  have hpl := (List.getElem?_eq_some_iff.1 hx).1
  have hg : (putE T p i ks)[p]? = some { x with ki := ks } := by
    unfold putE
    rw [List.getElem?_set_ne (Ne.symm hpi), List.getElem?_set_self hpl, ndA_eq hx]
  obtain ⟨y, hy, hyx⟩ := nv_get h3 hg
  have hl : M2.length ≤ 400 := by
    have := congrArg List.length h3
    rw [putE_len] at this
    simp at this; omega
  have hv2 : RdZ w2 Z2 1 v0 x.ki.length (kic x.ki) := hv.keep (fun k hz => (h1 k hz).1) (fun k hz => (h1 k hz).2)
  refine c_Put1 h2 hy hl ((h1 b0 z0).1.trans hb0) ((h1 b1 z1).1.trans hb1) ((h1 b2 z2).1.trans hb2) ((h1 b3 z3).1.trans hb3) hv2 (h1 b3 z3).2 ?_
  rw [List.map_set, h3]
  have : (setKi y v0 x.ki).x = { ({ x with ki := ks } : Nod) with ki := x.ki } := by
    show ({ y.x with ki := x.ki } : Nod) = _
    rw [hyx]
  rw [this, putE_back hx hpi]
  exact hU.mono h1
end Go.Proofs.YtimlmekgapdkiaaDoor
