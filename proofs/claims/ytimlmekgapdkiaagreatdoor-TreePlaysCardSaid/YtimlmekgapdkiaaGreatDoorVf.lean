/- the tree: a node is cut out of where it lies -/
import Derived.Test.YtimlmekgapdkiaaGreatDoorVe
import Derived.Deep.RegionHeld3
namespace Go.Proofs.YtimlmekgapdkiaaGreatDoor
set_option linter.unusedVariables false
set_option linter.unusedSimpArgs false
open Go.RowKit Go.Cas

theorem set_same {T : List Nod} {q : Nat} {y : Nod} (h : T[q]? = some y) : T.set q y = T := by
  apply List.ext_getElem?
  intro j
  rw [List.getElem?_set]
  split
  · rename_i hj; subst hj; rw [h]; have := (List.getElem?_eq_some_iff.1 h).1; simp [this]
  · rfl
theorem set4 {T : List Nod} {q i : Nat} {a b y z : Nod} (hy : T[q]? = some y) (hz : T[i]? = some z) (hqi : q ≠ i) : (((T.set q a).set i b).set q y).set i z = T := by
  rw [List.set_comm _ _ (Ne.symm hqi), List.set_set, List.set_set, set_same hy, set_same hz]
def kidN (x : Nod) (l : List Nat) : Nod := { x with ki := l }
theorem cutE_held {T : List Nod} {i q : Nat} (hq : (ndA T i).pa = (q : Int)) : cutE T i = (T.set q (kidN (ndA T q) ((ndA T q).ki.erase i))).set i { ndA T i with pa := -1 } := by
  unfold cutE
  rw [if_pos (by omega), hq]
  rfl
theorem cutE_i {T : List Nod} {i q : Nat} (hq : (ndA T i).pa = (q : Int)) (hi : i < T.length) : ndA (cutE T i) i = { ndA T i with pa := -1 } := by
  rw [cutE_held hq, ndA_set (by simpa using hi), if_pos rfl]
theorem enter_cut2 (cs : Array Value) (w : World) : (callFunc 73 cs).run Tryz.prog w = .ok (.enter 73 cs) w := by kernel_rfl
theorem u_cut2 {w : World} {B R b0 b1 b2 b3 i q : Nat} {v0 : Value} {Z : Nat → Prop} {T : List Nod} {q' : Int} (hi : i < T.length) (hql : q < T.length) (hq : (ndA T i).pa = (q : Int)) (hqi : q ≠ i) (hT : T.length ≤ 400)
    (hb0 : Bk w b0 23 #[.pointer (some ⟨R, 0, none⟩)]) (hb1 : Bk w b1 3 #[.int .i64 (i : Int)]) (hb2 : Bk w b2 3 #[.int .i64 (q : Int)]) (hb3 : Bk w b3 38 #[v0]) (hv : RdZ w Z 1 v0 (ndA T q).ki.length (kic (ndA T q).ki)) (z0 : Z b0) (z1 : Z b1) (z2 : Z b2) (z3 : Z b3) :
    UOk B R Z w (.func (.func 73) #[] #[.pointer (some ⟨b3, 0, none⟩), .pointer (some ⟨b2, 0, none⟩), .pointer (some ⟨b0, 0, none⟩), .pointer (some ⟨b1, 0, none⟩)]) ((cutE T i).set i { ndA (cutE T i) i with pa := q' }) T := by
  refine ⟨_, _, rfl, enter_cut2 _, fun w2 L2 cap2 uv2 Z2 M2 h1 h2 h3 => ?_⟩
  have hX : (cutE T i).set i { ndA (cutE T i) i with pa := q' } = (T.set q (kidN (ndA T q) ((ndA T q).ki.erase i))).set i { ndA T i with pa := q' } := by
    rw [cutE_i hq hi, cutE_held hq, List.set_set]
  rw [hX] at h3
  have gq : ((T.set q (kidN (ndA T q) ((ndA T q).ki.erase i))).set i { ndA T i with pa := q' })[q]? = some (kidN (ndA T q) ((ndA T q).ki.erase i)) := by
    rw [List.getElem?_set_ne (Ne.symm hqi), List.getElem?_set_self hql]
  have gi : ((T.set q (kidN (ndA T q) ((ndA T q).ki.erase i))).set i { ndA T i with pa := q' })[i]? = some { ndA T i with pa := q' } := by
    rw [List.getElem?_set_self (by simpa using hi)]
  obtain ⟨y, hy, hyx⟩ := nv_get h3 gq
  obtain ⟨z, hz, hzx⟩ := nv_get h3 gi
  have hl : M2.length ≤ 400 := by
    have := congrArg List.length h3
    simp at this; omega
  have hv2 : RdZ w2 Z2 1 v0 (ndA T q).ki.length (kic (ndA T q).ki) := hv.keep (fun k hz => (h1 k hz).1) (fun k hz => (h1 k hz).2)
  refine (c_cut2 h2 hy hz hqi hl ((h1 b0 z0).1.trans hb0) ((h1 b1 z1).1.trans hb1) ((h1 b2 z2).1.trans hb2) ((h1 b3 z3).1.trans hb3) hv2).mono fun e w3 ⟨q1, q2, q3⟩ => ⟨q1, _, _, q2, ?_, q3⟩
  rw [List.map_set, List.map_set, h3]
  have e1 : (setKi y v0 (ndA T q).ki).x = ndA T q := by
    show ({ y.x with ki := (ndA T q).ki } : Nod) = _
    rw [hyx]; rfl
  have e2 : (setPa z (q : Int)).x = ndA T i := by
    show ({ z.x with pa := (q : Int) } : Nod) = _
    rw [hzx]
    show ({ ndA T i with pa := (q : Int) } : Nod) = _
    rw [← hq]
  rw [e1, e2]
  exact set4 (ndA_get hql) (ndA_get hi) hqi
end Go.Proofs.YtimlmekgapdkiaaGreatDoor
