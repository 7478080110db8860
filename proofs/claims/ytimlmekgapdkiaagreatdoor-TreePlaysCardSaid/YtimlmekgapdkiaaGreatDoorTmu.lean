/- the tree of a list of twigs: what its memory holds; the tree of a list of twigs: attributes and kids, whatever they are -/
import Derived.Test.YtimlmekgapdkiaaGreatDoorTmq
import Derived.Test.YtimlmekgapdkiaaGreatDoortree0
namespace Go.Proofs.YtimlmekgapdkiaaGreatDoor
set_option linter.unusedVariables false
set_option linter.unusedSimpArgs false
open Go.RowKit Go.Cas

/-- a twig beside its two slices -/
structure TwV where
  x : Twg
  va : Value
  vk : Value
def twv (y : TwV) : List Value := [.int .i64 y.x.k, .string y.x.tag, .string y.x.txt, y.va, y.vk]
def RdT (w : World) (lim : Nat) (v : Value) (n : Nat) (L : List TwV) : Prop :=
  RdS w lim 5 v n (L.flatMap twv) ∧ ∀ y ∈ L, RdS w lim 2 y.va y.x.at_.length (atc y.x.at_) ∧ RdS w lim 1 y.vk y.x.ki.length (y.x.ki.map (Value.int .i64)) ∧ (y.x.tag.size ≤ maxLen ∧ y.x.txt.size ≤ maxLen) ∧ (∀ p ∈ y.x.at_, p.1.size ≤ maxLen ∧ p.2.size ≤ maxLen) ∧ ∀ k ∈ y.x.ki, -9223372036854775808 ≤ k ∧ k ≤ 9223372036854775807
theorem rd_tw {w : World} {lim n k : Nat} {A : Option Addr} {c : Nat} {L : List TwV} {y : TwV} (h : RdS w lim 5 (.slice A n c) n (L.flatMap twv)) (hp : L[k]? = some y) : ∃ g o, A = some ⟨g, o, none⟩ ∧ g < lim ∧ ∀ w', Below lim w w' →
    (w'.cell? ⟨g, o + k * 5, none⟩ = some (.int .i64 y.x.k) ∧ w'.cell? ⟨g, o + k * 5 + 1, none⟩ = some (.string y.x.tag) ∧ w'.cell? ⟨g, o + k * 5 + 2, none⟩ = some (.string y.x.txt) ∧ w'.cell? ⟨g, o + k * 5 + 3, none⟩ = some y.va ∧ w'.cell? ⟨g, o + k * 5 + 4, none⟩ = some y.vk) := by
  have hl : L.length = n := by
    have h1 := h.1
    have h2 : ∀ L : List TwV, (L.flatMap twv).length = L.length * 5 := by
      intro L
      induction L with
      | nil => rfl
      | cons a l ih => rw [List.flatMap_cons, List.length_append, ih]; simp [twv]; omega
    rw [h2] at h1; omega
  have hk := (List.getElem?_eq_some_iff.1 hp).1
  obtain ⟨_, A', c', e, _, hc⟩ := h
  injection e with e1 _ e2
  subst e1 e2
  obtain ⟨g, o, e, hg, hcell⟩ := hc (by omega)
  refine ⟨g, o, e, hg, fun w' hb => ?_⟩
  have key : ∀ j, j < 5 → ∀ u, (twv y)[j]? = some u → w'.cell? ⟨g, o + k * 5 + j, none⟩ = some u := fun j hj u hu => by
    have := hcell (k * 5 + j) u (by rw [flat_get twv 5 (fun _ => rfl) L k j y hp hj]; exact hu)
    rw [← Nat.add_assoc] at this
    exact (hb.cell (p := ⟨g, _, none⟩) hg).trans this
  exact ⟨key 0 (by omega) _ rfl, key 1 (by omega) _ rfl, key 2 (by omega) _ rfl, key 3 (by omega) _ rfl, key 4 (by omega) _ rfl⟩
/-- what a change leaves alone -/
structure TStep (F F' : Nat → Prop) (w w' : World) : Prop where
  kept : Kept w w' F
  sub : ∀ k, k < w.heap.size → F' k → F k
/-- the tree while it is made; those at the top -/
structure PT (w : World) (R : Nat) (T : List Nod) (D : List (Value × List Nod)) (F : Nat → Prop) (vt : Value) (n : Nat) (wr : World) : Prop where
  ts : TS w.heap.size R T D F wr
  bel : Below w.heap.size w wr
  top : wr.ownsRow w.heap.size 3 1 vt n (kic ((List.range n).map (· + 1)))
  tf : ∀ k, vt.ownBlock = some k → ¬ F k
def Own (wr : World) (F : Nat → Prop) (g : Nat) (o : Obj) : Prop := wr.heap[g]? = some o ∧ ¬ F g
section
variable {w wr w' : World} {R n g : Nat} {T T' : List Nod} {D D' : List (Value × List Nod)} {F F' : Nat → Prop} {vt : Value} {o : Obj}
theorem PT.below (h : PT w R T D F vt n wr) (hb : Below wr.heap.size wr w') : PT w R T D F vt n w' :=
  ⟨h.ts.below hb, bl_trans h.bel hb, own_keep h.top (fun k hk => hb.block k (own_lt h.top hk).2), h.tf⟩
theorem Own.below (h : Own wr F g o) (hb : Below wr.heap.size wr w') : Own w' F g o := ⟨(hb.block g (Array.getElem?_eq_some_iff.1 h.1).1).trans h.1, h.2⟩
theorem TOp.step (h : TOp w.heap.size R T' D' F wr w') : ∃ F', TS w.heap.size R T' D' F' w' ∧ TStep F F' wr w' := by
  obtain ⟨F', h1, h2, h3⟩ := h
  exact ⟨F', h1, h3, h2⟩
theorem PT.step (h : PT w R T D F vt n wr) (ht : TS w.heap.size R T' D' F' w') (hs : TStep F F' wr w') : PT w R T' D' F' vt n w' :=
  ⟨ht, h.bel.trans (hs.kept.below fun k hk => ⟨Nat.lt_of_lt_of_le hk h.bel.size, fun e => by have := (h.ts.fb e).1; omega⟩), own_keep h.top (fun k hk => hs.kept.block k (own_lt h.top hk).2 (h.tf k hk)), fun k hk e => h.tf k hk (hs.sub k (own_lt h.top hk).2 e)⟩
theorem Own.step (h : Own wr F g o) (hs : TStep F F' wr w') : Own w' F' g o :=
  ⟨(hs.kept.block g (Array.getElem?_eq_some_iff.1 h.1).1 h.2).trans h.1, fun e => h.2 (hs.sub g (Array.getElem?_eq_some_iff.1 h.1).1 e)⟩
theorem PT.op (h : PT w R T D F vt n wr) (ht : TOp w.heap.size R T' D' F wr w') : ∃ F', PT w R T' D' F' vt n w' ∧ TStep F F' wr w' := by
  obtain ⟨F', h1, h2⟩ := TOp.step ht
  exact ⟨F', h.step h1 h2, h2⟩
end
/-- Put where it may not be -/
theorem c_Put_kind {w : World} {B R p : Nat} {F : Nat → Prop} {T : List Nod} {D : List (Value × List Nod)} {x : Nod} {i : Nat} {at_ : Int} {pe : Nat → Addr} (h : TS B R T D F w) (hG : GE w B pe) (hT : T.length ≤ 400) (hx : T[p]? = some x) (hi : i < T.length) (hi0 : i ≠ 0) (hk1 : x.k ≠ 1) (hk2 : x.k ≠ 2) :
    Calls Tryz.prog 25 #[.pointer (some ⟨R, 0, none⟩), .int .i64 (p : Int), .int .i64 (i : Int), .int .i64 at_] w fun e w' => e = .returned (errV pe 5) ∧ Below w.heap.size w w' := by
  obtain ⟨w1, hw1⟩ : ∃ w1, w1 = (w.alloc (.cells #[.pointer (some ⟨R, 0, none⟩)] 23)).alloc (.cells #[.int .i64 (p : Int)] 3) := ⟨_, rfl⟩
  obtain ⟨b, hb⟩ : ∃ b, b = w.heap.size := ⟨_, rfl⟩
  have hbk0 : Bk w1 b 23 #[.pointer (some ⟨R, 0, none⟩)] := by rw [hw1, hb]; exact (Bk.new _ _ _).alloc _
  have hbk1 : Bk w1 (b + 1) 3 #[.int .i64 (p : Int)] := by rw [hw1, hb]; exact bk_new' _ _ _ (by simp)
  have hbl : Below w.heap.size w w1 := by rw [hw1]; exact bl_alloc (bl_alloc (Below.refl _ _) _) _
  have h2 := h.below hbl
  obtain ⟨L, cap, uv, Z, M, h1, hM, _⟩ := h2.ns
  obtain ⟨y, hy, hyx⟩ := nv_get hM hx
  have hlM : M.length = T.length := by rw [← hM]; simp
  have hp := (List.getElem?_eq_some_iff.1 hx).1
  have HIS1 := Lib.hid (c_is_yes h1 p (by omega) (by omega))
  have HIS2 := Lib.hid (c_is_yes h1 i (by omega) (by omega))
  have e0 : w1.cell? ⟨b, 0, none⟩ = some (.pointer (some ⟨R, 0, none⟩)) := hbk0.cell 0
  have e1 : w1.cell? ⟨b + 1, 0, none⟩ = some (.int .i64 (p : Int)) := hbk1.cell 0
  have l1 := hbk1.lt
  obtain ⟨g0, _⟩ := h1.heads
  have hr := h1.ltR
  have hrL := h1.ltL
  obtain ⟨⟨a0, _, _⟩, _⟩ := h1.cell hy
  rw [hyx] at a0
  have hpM : (p : Int) < (M.length : Int) := by omega
  have h0p : 0 ≤ (p : Int) := by omega
  have hl4 : M.length ≤ 400 := by omega
  have hii0 : ¬ (i : Int) = 0 := by omega
  have hii1 : ((i : Int) == 0) = false := by rw [beq_eq_false_iff_ne]; exact hii0
  obtain ⟨xk, hxk⟩ : ∃ xk, xk = x.k := ⟨_, rfl⟩
  rw [← hxk] at a0 hk1 hk2
  have b1 : (xk != 1) = true := by rw [bne_iff_ne]; exact hk1
  have b2 : (xk != 2) = true := by rw [bne_iff_ne]; exact hk2
  have HG := Lib.hid (hG.below (hbl.mono hG.lt.2))
  have z1 := HG.out.place
  have z2 : 2 < w1.heap.size := by have := HG.out.lt; omega
  have HBL := Lib.hid hbl
  have HB := Lib.hid hb
  have HW1 := Lib.hid hw1
  clear h hG hT hx hi hi0 hw1 hb hbk0 hbk1 hbl h2 h1 hM hy hyx hlM hp hxk
  go_enter Tryz.func25, Tryz.ntmps25
  go_upto_region 1 with fail
  rw [← HW1.out, ← HB.out]
  go_upto_region 3 with (first | (go_at_call 45; first | (with_reducible refine (HIS1.out).mono ?_) | (with_reducible refine (HIS2.out).mono ?_)); rintro e w' ⟨rfl, rfl⟩)
  go_quiet (fail)
  go_wp2_with fail
  go_ret
  exact ⟨rfl, bl_drewN HBL.out _⟩
end Go.Proofs.YtimlmekgapdkiaaGreatDoor
namespace Go.Proofs.YtimlmekgapdkiaaGreatDoor
set_option linter.unusedVariables false
set_option linter.unusedSimpArgs false
open Go.RowKit Go.Cas

/-- what a step leaves -/
def AnyRet (w : World) (R : Nat) (T' : List Nod) (D : List (Value × List Nod)) (F : Nat → Prop) (vt : Value) (n : Nat) (wr : World) (e : Ending) (w' : World) : Prop :=
  (∃ u, e = .returned u) ∧ ∃ D' F', D'.length ≤ D.length + 1 ∧ PT w R T' D' F' vt n w' ∧ ∀ g o, Own wr F g o → Own w' F' g o
theorem c_SetAny {w wr : World} {R n i : Nat} {T : List Nod} {D : List (Value × List Nod)} {F : Nat → Prop} {vt : Value} {p : Nat → Addr} (h : PT w R T D F vt n wr) (hG : GE w w.heap.size p) (hD : D.length ≤ 1000000000000) (hT : T.length ≤ 400) (hi : i < T.length) (hlen : (ndA T i).at_.length ≤ 100000000)
    (nm val : ByteArray) (hs : nm.size ≤ maxLen) (hv : val.size ≤ maxLen) :
    Calls Tryz.prog 30 #[.pointer (some ⟨R, 0, none⟩), .int .i64 (i : Int), .string nm, .string val] wr (AnyRet w R (atW isNm setA i T (nm, val)) D F vt n wr) := by
  have hx := ndA_get hi
  have hG2 := hG.below h.bel
  have same : ∀ {q : Nat}, atW isNm setA i T (nm, val) = T → Calls Tryz.prog 30 #[.pointer (some ⟨R, 0, none⟩), .int .i64 (i : Int), .string nm, .string val] wr (ErrR p q wr) → Calls Tryz.prog 30 #[.pointer (some ⟨R, 0, none⟩), .int .i64 (i : Int), .string nm, .string val] wr (AnyRet w R (atW isNm setA i T (nm, val)) D F vt n wr) := by
    intro q hsame hc
    refine hc.mono ?_
    rintro e w' ⟨he, rfl⟩
    rw [hsame]
    exact ⟨⟨_, he⟩, D, F, by omega, h, fun g o h => h⟩
  by_cases hk : (ndA T i).k = 2
  case neg => exact same (by unfold atW; rw [if_neg (fun h => hk h.1)]) (c_Set_kind h.ts hG2 hT hx hk nm val)
  by_cases hn : isNm nm = true
  case neg => exact same (by unfold atW; rw [if_neg (fun h => hn h.2.1)]) (c_Set_name h.ts hG2 hT hx hk nm val hs (by simpa using hn))
  by_cases hl : val.size ≤ 20000
  case neg => exact same (by unfold atW; rw [if_neg (fun h => hl h.2.2)]) (c_Set_long h.ts hG2 hT hx hk nm val hs hn hv (by omega))
  refine (c_Set h.ts hD hT hx hk hlen nm val hs hn hl).mono ?_
  rintro e w' ⟨he, u, hop⟩
  obtain ⟨F', h1, h2⟩ := h.op hop
  refine ⟨⟨_, he⟩, (u, T) :: D, F', Nat.le_refl _, ?_, fun g o h => h.step h2⟩
  unfold atW
  rw [if_pos ⟨hk, hn, hl⟩]
  exact h1
/-- a node without a parent is put at the end -/
theorem c_PutFree {w wr : World} {R n p i : Nat} {T : List Nod} {d : Nat → Nat} {D : List (Value × List Nod)} {F : Nat → Prop} {vt : Value} (h : PT w R T D F vt n wr) (hW : WF T d) (hD : D.length ≤ 1000000000000) (hT : T.length ≤ 400) (hp : p < T.length) (hi : i < T.length) (hi0 : i ≠ 0)
    (hk : (ndA T p).k = 1 ∨ (ndA T p).k = 2) (ha : ¬ Anc T i p) (hpa : (ndA T i).pa < 0) :
    Calls Tryz.prog 25 #[.pointer (some ⟨R, 0, none⟩), .int .i64 (p : Int), .int .i64 (i : Int), .int .i64 ((ndA T p).ki.length : Int)] wr (AnyRet w R (putG T p i (ndA T p).ki.length) D F vt n wr) := by
  have hpa1 : (ndA T i).pa = -1 := by rcases hW.pa i hi with e | ⟨e, _⟩ <;> omega
  have hc : cutE T i = T := cutE_none hpa
  have hkl : (ndA T p).ki.length ≤ 400 := Nat.le_trans (nodup_lt _ _ (hW.nd p hp) (fun k hk => (hW.ki p hp k hk).1)) hT
  refine (c_Put (at_ := (ndA T p).ki.length) h.ts hW hD hT (ndA_get hp) hi hi0 hk ha (by rw [hc]; exact Nat.le_refl _) (fun w2 h2 => c_cut_none h2 hT (ndA_get hi) hpa1) (by rw [hc]; exact insOk_end _ _ (by omega))).mono ?_
  rintro e w' ⟨he, u, hop⟩
  obtain ⟨F', h1, h2⟩ := h.op hop
  exact ⟨⟨_, he⟩, (u, T) :: D, F', Nat.le_refl _, h1, fun g o h => h.step h2⟩
theorem c_KidAny {w wr : World} {R n k i : Nat} {T : List Nod} {D : List (Value × List Nod)} {F : Nat → Prop} {vt : Value} {p : Nat → Addr} (h : PT w R T D F vt n wr) (hG : GE w w.heap.size p) (hI : TI T (k + 1)) (hD : D.length ≤ 1000000000000) (hT : T.length ≤ 400) (hk2 : (ndA T (k + 1)).k ≠ 1) (hfree : (ndA T (k + 1)).pa = -1) (hi : i < k) (hpa : (ndA T (i + 1)).pa < 0) :
    Calls Tryz.prog 25 #[.pointer (some ⟨R, 0, none⟩), .int .i64 ((k : Int) + 1), .int .i64 ((i : Int) + 1), .int .i64 ((ndA T (k + 1)).ki.length : Int)] wr (AnyRet w R (kiW k T (i : Int)) D F vt n wr) := by
  have hl := hI.len
  obtain ⟨d, hd⟩ := hI.wf
  have et : ((i : Int) + 1).toNat = i + 1 := by omega
  by_cases hk : (ndA T (k + 1)).k = 2
  · have hc := c_PutFree (p := k + 1) (i := i + 1) h hd hD hT (by omega) (by omega) (by omega) (.inr hk) (anc_free (by rw [hfree]; omega) (by omega)) hpa
    have e : kiW k T (i : Int) = putG T (k + 1) (i + 1) (ndA T (k + 1)).ki.length := by
      unfold kiW
      rw [et, if_pos ⟨hk, by omega, by omega, hpa⟩]
    rw [e]
    exact hc
  · have e : kiW k T (i : Int) = T := by unfold kiW; rw [if_neg (fun h => hk h.1)]
    rw [e]
    have hc := c_Put_kind (p := k + 1) (i := i + 1) (at_ := ((ndA T (k + 1)).ki.length : Int)) (pe := p) h.ts (hG.below h.bel) hT (ndA_get (by omega)) (by omega) (by omega) hk2 hk
    refine Calls.mono hc ?_
    rintro e w' ⟨he, hb⟩
    exact ⟨⟨_, he⟩, D, F, by omega, h.below hb, fun g o h => h.below hb⟩
theorem tops_snoc (k : Nat) : kic ((List.range (k + 1)).map (· + 1)) = kic ((List.range k).map (· + 1)) ++ [.int .i64 ((k : Int) + 1)] := by
  rw [List.range_succ, List.map_append]
  unfold kic
  rw [List.map_append]
  rfl
theorem PT.push {w wr w' : World} {R k : Nat} {T : List Nod} {D : List (Value × List Nod)} {F : Nat → Prop} {vt v' : Value} (h : PT w R T D F vt k wr) (hp : Pushed wr w.heap.size 3 1 vt k (kic ((List.range k).map (· + 1))) [.int .i64 ((k : Int) + 1)] v' w') : PT w R T D F v' (k + 1) w' := by
  refine ⟨h.ts.kept (Kept.grown hp.grown (fun a => vt.ownBlock = some a) (fun a e => e)) (fun a e => h.tf a e), hp.below h.bel (Nat.le_refl _) h.bel.size, ?_, fun a ha => ?_⟩
  · rw [tops_snoc]; exact hp.own
  · rcases hp.at_ with e | ⟨j, hj, e⟩
    · exact h.tf a (e ▸ ha)
    · rw [e] at ha; injection ha with ha; subst ha; exact h.ts.new_ hj
theorem ndW_facts (x : Twg) : (ndW isNm x).k ≠ 1 ∧ (ndW isNm x).pa = -1 ∧ (ndW isNm x).at_ = [] ∧ (ndW isNm x).ki = [] := by
  unfold ndW
  split
  · exact ⟨by show (2 : Int) ≠ 1; decide, rfl, rfl, rfl⟩
  · split
    · exact ⟨by show (4 : Int) ≠ 1; decide, rfl, rfl, rfl⟩
    · exact ⟨by show (3 : Int) ≠ 1; decide, rfl, rfl, rfl⟩
theorem rd_li {w : World} {lim n k : Nat} {A : Option Addr} {c : Nat} {x : Int} {l : List Int} (h : RdS w lim 1 (.slice A n c) n (l.map (Value.int .i64))) (hx : l[k]? = some x) : ∃ g o, A = some ⟨g, o, none⟩ ∧ g < lim ∧ ∀ w', Below lim w w' → w'.cell? ⟨g, o + k, none⟩ = some (.int .i64 x) := by
  have hl : l.length = n := by have := h.1; simpa using this
  have hk := (List.getElem?_eq_some_iff.1 hx).1
  obtain ⟨_, A', c', e, _, hc⟩ := h
  injection e with e1 _ e2
  subst e1 e2
  obtain ⟨g, o, e, hg, hcell⟩ := hc (by omega)
  refine ⟨g, o, e, hg, fun w' hb => (hb.cell (p := ⟨g, _, none⟩) hg).trans (hcell k _ ?_)⟩
  rw [List.getElem?_map, hx]; rfl
theorem foldl_take {α β : Type} (f : β → α → β) (b : β) {l : List α} {m : Nat} {x : α} (h : l[m]? = some x) : (l.take (m + 1)).foldl f b = f ((l.take m).foldl f b) x := by
  rw [List.take_add_one, h]; simp
/-- what the steps keep of the newest node -/
theorem atW_nd {T : List Nod} {i j : Nat} {q : ByteArray × ByteArray} (hi : i < T.length) : (ndA (atW isNm setA i T q) j).k = (ndA T j).k ∧ (ndA (atW isNm setA i T q) j).pa = (ndA T j).pa ∧ (ndA (atW isNm setA i T q) i).at_.length ≤ (ndA T i).at_.length + 1 := by
  unfold atW
  split
  · rename_i h
    rw [ndA_set hi, ndA_set hi, if_pos rfl]
    refine ⟨?_, ?_, ?_⟩
    · split
      · rename_i e; rw [e]
      · rfl
    · split
      · rename_i e; rw [e]
      · rfl
    · show (setA (ndA T i).at_ q.1 q.2).length ≤ _
      unfold setA
      split <;> simp
  · exact ⟨rfl, rfl, by omega⟩
theorem atW_TI {T : List Nod} {n i : Nat} {q : ByteArray × ByteArray} (h : TI T n) (hi : i < T.length) : TI (atW isNm setA i T q) n := by
  unfold atW
  split
  · exact h.at_ hi
  · exact h
theorem kiW_TI {T : List Nod} {k : Nat} {kk : Int} (h : TI T (k + 1)) (hf : (ndA T (k + 1)).pa = -1) : TI (kiW k T kk) (k + 1) ∧ (ndA (kiW k T kk) (k + 1)).k = (ndA T (k + 1)).k ∧ (ndA (kiW k T kk) (k + 1)).pa = -1 := by
  unfold kiW
  split
  · rename_i hc
    obtain ⟨h2, h3, h4, h5⟩ := hc
    obtain ⟨i, rfl⟩ := Int.eq_ofNat_of_zero_le h3
    have hi : i < k := by omega
    have et : ((i : Int) + 1).toNat = i + 1 := by omega
    rw [et] at h5 ⊢
    have hl := h.len
    have hne : k + 1 ≠ i + 1 := by omega
    refine ⟨h.put (by omega) (by omega) (by omega) (anc_free (by rw [hf]; omega) hne), ?_⟩
    rw [putG_none h5, putE_nd (by omega) (by omega) hne, if_neg hne, if_pos rfl]
    exact ⟨rfl, hf⟩
  · exact ⟨h, rfl, hf⟩
end Go.Proofs.YtimlmekgapdkiaaGreatDoor
