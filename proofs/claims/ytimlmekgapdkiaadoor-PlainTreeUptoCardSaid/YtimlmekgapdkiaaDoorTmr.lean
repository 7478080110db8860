/- the tree of a list of twigs: what its memory holds -/
import Derived.Test.YtimlmekgapdkiaaDoorTmq
import Derived.Test.YtimlmekgapdkiaaDoortree0
namespace Go.Proofs.YtimlmekgapdkiaaDoor
set_option linter.unusedVariables false
set_option linter.unusedSimpArgs false
open Go.RowKit Go.Cas

/-- a twig beside its two slices -/
structure TwV where
  x : Twg
  va : Value
  vk : Value
def twv (y : TwV) : List Value := [.int .i64 y.x.k, .string y.x.tag, .string y.x.txt, y.va, y.vk]
def RdT (w : World) (lim : Nat) (v : Value) (n : Nat) (L : List TwV) : Prop :=
  RdS w lim 5 v n (L.flatMap twv) ∧ ∀ y ∈ L, RdS w lim 2 y.va y.x.at_.length (atc y.x.at_) ∧ RdS w lim 1 y.vk y.x.ki.length (y.x.ki.map (Value.int .i64)) ∧ (y.x.tag.size ≤ maxLen ∧ y.x.txt.size ≤ maxLen) ∧ (∀ p ∈ y.x.at_, p.1.size ≤ maxLen ∧ p.2.size ≤ maxLen) ∧ ∀ k ∈ y.x.ki, -9223372036854775808 ≤ k ∧ k ≤ 9223372036854775807
theorem rd_tw {w : World} {lim n k : Nat} {A : Option Addr} {c : Nat} {L : List TwV} {y : TwV} (h : RdS w lim 5 (.slice A n c) n (L.flatMap twv)) (hp : L[k]? = some y) : ∃ g o, A = some ⟨g, o, none⟩ ∧ g < lim ∧ ∀ w', Below lim w w' →
    (w'.cell? ⟨g, o + k * 5, none⟩ = some (.int .i64 y.x.k) ∧ w'.cell? ⟨g, o + k * 5 + 1, none⟩ = some (.string y.x.tag) ∧ w'.cell? ⟨g, o + k * 5 + 2, none⟩ = some (.string y.x.txt) ∧ w'.cell? ⟨g, o + k * 5 + 3, none⟩ = some y.va ∧ w'.cell? ⟨g, o + k * 5 + 4, none⟩ = some y.vk) := by
  have hl : L.length = n := by
    have h1 := h.1
    have h2 : ∀ L : List TwV, (L.flatMap twv).length = L.length * 5 := by
      intro L
      induction L with
      | nil => rfl
      | cons a l ih => rw [List.flatMap_cons, List.length_append, ih]; simp [twv]; omega
    rw [h2] at h1; omega
  have hk := (List.getElem?_eq_some_iff.1 hp).1
  obtain ⟨_, A', c', e, _, hc⟩ := h
  injection e with e1 _ e2
  subst e1 e2
  obtain ⟨g, o, e, hg, hcell⟩ := hc (by omega)
  refine ⟨g, o, e, hg, fun w' hb => ?_⟩
  have key : ∀ j, j < 5 → ∀ u, (twv y)[j]? = some u → w'.cell? ⟨g, o + k * 5 + j, none⟩ = some u := fun j hj u hu => by
    have := hcell (k * 5 + j) u (by rw [flat_get twv 5 (fun _ => rfl) L k j y hp hj]; exact hu)
    rw [← Nat.add_assoc] at this
    exact (hb.cell (p := ⟨g, _, none⟩) hg).trans this
  exact ⟨key 0 (by omega) _ rfl, key 1 (by omega) _ rfl, key 2 (by omega) _ rfl, key 3 (by omega) _ rfl, key 4 (by omega) _ rfl⟩
/-- what a change leaves alone -/
structure TStep (F F' : Nat → Prop) (w w' : World) : Prop where
  kept : Kept w w' F
  sub : ∀ k, k < w.heap.size → F' k → F k
/-- the tree while it is made; those at the top -/
structure PT (w : World) (R : Nat) (T : List Nod) (D : List (Value × List Nod)) (F : Nat → Prop) (vt : Value) (n : Nat) (wr : World) : Prop where
  ts : TS w.heap.size R T D F wr
  bel : Below w.heap.size w wr
  top : wr.ownsRow w.heap.size 3 1 vt n (kic ((List.range n).map (· + 1)))
  tf : ∀ k, vt.ownBlock = some k → ¬ F k
def Own (wr : World) (F : Nat → Prop) (g : Nat) (o : Obj) : Prop := wr.heap[g]? = some o ∧ ¬ F g
section
variable {w wr w' : World} {R n g : Nat} {T T' : List Nod} {D D' : List (Value × List Nod)} {F F' : Nat → Prop} {vt : Value} {o : Obj}
theorem PT.below (h : PT w R T D F vt n wr) (hb : Below wr.heap.size wr w') : PT w R T D F vt n w' :=
  ⟨h.ts.below hb, bl_trans h.bel hb, own_keep h.top (fun k hk => hb.block k (own_lt h.top hk).2), h.tf⟩
theorem Own.below (h : Own wr F g o) (hb : Below wr.heap.size wr w') : Own w' F g o := ⟨(hb.block g (Array.getElem?_eq_some_iff.1 h.1).1).trans h.1, h.2⟩
theorem TOp.step (h : TOp w.heap.size R T' D' F wr w') : ∃ F', TS w.heap.size R T' D' F' w' ∧ TStep F F' wr w' := by
  obtain ⟨F', h1, h2, h3⟩ := h
  exact ⟨F', h1, h3, h2⟩
theorem PT.step (h : PT w R T D F vt n wr) (ht : TS w.heap.size R T' D' F' w') (hs : TStep F F' wr w') : PT w R T' D' F' vt n w' :=
  ⟨ht, h.bel.trans (hs.kept.below fun k hk => ⟨Nat.lt_of_lt_of_le hk h.bel.size, fun e => by have := (h.ts.fb e).1; omega⟩), own_keep h.top (fun k hk => hs.kept.block k (own_lt h.top hk).2 (h.tf k hk)), fun k hk e => h.tf k hk (hs.sub k (own_lt h.top hk).2 e)⟩
theorem Own.step (h : Own wr F g o) (hs : TStep F F' wr w') : Own w' F' g o :=
  ⟨(hs.kept.block g (Array.getElem?_eq_some_iff.1 h.1).1 h.2).trans h.1, fun e => h.2 (hs.sub g (Array.getElem?_eq_some_iff.1 h.1).1 e)⟩
theorem PT.op (h : PT w R T D F vt n wr) (ht : TOp w.heap.size R T' D' F wr w') : ∃ F', PT w R T' D' F' vt n w' ∧ TStep F F' wr w' := by
  obtain ⟨F', h1, h2⟩ := TOp.step ht
  exact ⟨F', h.step h1 h2, h2⟩
end
/-- Put where it may not be -/
theorem c_Put_kind {w : World} {B R p : Nat} {F : Nat → Prop} {T : List Nod} {D : List (Value × List Nod)} {x : Nod} {i : Nat} {at_ : Int} {pe : Nat → Addr} (h : TS B R T D F w) (hG : GE w B pe) (hT : T.length ≤ 400) (hx : T[p]? = some x) (hi : i < T.length) (hi0 : i ≠ 0) (hk1 : x.k ≠ 1) (hk2 : x.k ≠ 2) :
    Calls Tryd.prog 45 #[.pointer (some ⟨R, 0, none⟩), .int .i64 (p : Int), .int .i64 (i : Int), .int .i64 at_] w fun e w' => e = .returned (errV pe 5) ∧ Below w.heap.size w w' := by
  obtain ⟨w1, hw1⟩ : ∃ w1, w1 = (w.alloc (.cells #[.pointer (some ⟨R, 0, none⟩)] 28)).alloc (.cells #[.int .i64 (p : Int)] 3) := ⟨_, rfl⟩
  obtain ⟨b, hb⟩ : ∃ b, b = w.heap.size := ⟨_, rfl⟩
  have hbk0 : Bk w1 b 28 #[.pointer (some ⟨R, 0, none⟩)] := by rw [hw1, hb]; exact (Bk.new _ _ _).alloc _
  have hbk1 : Bk w1 (b + 1) 3 #[.int .i64 (p : Int)] := by rw [hw1, hb]; exact bk_new' _ _ _ (by simp)
  have hbl : Below w.heap.size w w1 := by rw [hw1]; exact bl_alloc (bl_alloc (Below.refl _ _) _) _
  have h2 := h.below hbl
  obtain ⟨L, cap, uv, Z, M, h1, hM, _⟩ := h2.ns
  obtain ⟨y, hy, hyx⟩ := nv_get hM hx
  have hlM : M.length = T.length := by rw [← hM]; simp
  have hp := (List.getElem?_eq_some_iff.1 hx).1
  have HIS1 := Lib.hid (c_is_yes h1 p (by omega) (by omega))
  have HIS2 := Lib.hid (c_is_yes h1 i (by omega) (by omega))
  have e0 : w1.cell? ⟨b, 0, none⟩ = some (.pointer (some ⟨R, 0, none⟩)) := hbk0.cell 0
  have e1 : w1.cell? ⟨b + 1, 0, none⟩ = some (.int .i64 (p : Int)) := hbk1.cell 0
  have l1 := hbk1.lt
  obtain ⟨g0, _⟩ := h1.heads
  have hr := h1.ltR
  have hrL := h1.ltL
  obtain ⟨⟨a0, _, _⟩, _⟩ := h1.cell hy
  rw [hyx] at a0
  have hpM : (p : Int) < (M.length : Int) := by omega
  have h0p : 0 ≤ (p : Int) := by omega
  have hl4 : M.length ≤ 400 := by omega
  have hii0 : ¬ (i : Int) = 0 := by omega
  have hii1 : ((i : Int) == 0) = false := by rw [beq_eq_false_iff_ne]; exact hii0
  obtain ⟨xk, hxk⟩ : ∃ xk, xk = x.k := ⟨_, rfl⟩
  rw [← hxk] at a0 hk1 hk2
  have b1 : (xk != 1) = true := by rw [bne_iff_ne]; exact hk1
  have b2 : (xk != 2) = true := by rw [bne_iff_ne]; exact hk2
  have HG := Lib.hid (hG.below (hbl.mono hG.lt.2))
  have z1 := HG.out.place
  have z2 : 5 < w1.heap.size := by have := HG.out.lt; omega
  have HBL := Lib.hid hbl
  have HB := Lib.hid hb
  have HW1 := Lib.hid hw1
  clear h hG hT hx hi hi0 hw1 hb hbk0 hbk1 hbl h2 h1 hM hy hyx hlM hp hxk
  go_enter Tryd.func45, Tryd.ntmps45
  go_upto_region 1 with fail
  rw [← HW1.out, ← HB.out]
  go_upto_region 3 with (first | (go_at_call 47; first | (with_reducible refine (HIS1.out).mono ?_) | (with_reducible refine (HIS2.out).mono ?_)); rintro e w' ⟨rfl, rfl⟩)
  go_quiet (fail)
  go_wp2_with fail
  go_ret
  exact ⟨rfl, bl_drewN HBL.out _⟩
end Go.Proofs.YtimlmekgapdkiaaDoor
