/- the tree of a list of twigs: attributes and kids, whatever they are -/
import Derived.Test.YtimlmekgapdkiaaDoorTmr
namespace Go.Proofs.YtimlmekgapdkiaaDoor
set_option linter.unusedVariables false
set_option linter.unusedSimpArgs false
open Go.RowKit Go.Cas

/-- what a step leaves -/
def AnyRet (w : World) (R : Nat) (T' : List Nod) (D : List (Value × List Nod)) (F : Nat → Prop) (vt : Value) (n : Nat) (wr : World) (e : Ending) (w' : World) : Prop :=
  (∃ u, e = .returned u) ∧ ∃ D' F', D'.length ≤ D.length + 1 ∧ PT w R T' D' F' vt n w' ∧ ∀ g o, Own wr F g o → Own w' F' g o
theorem c_SetAny {w wr : World} {R n i : Nat} {T : List Nod} {D : List (Value × List Nod)} {F : Nat → Prop} {vt : Value} {p : Nat → Addr} (h : PT w R T D F vt n wr) (hG : GE w w.heap.size p) (hD : D.length ≤ 1000000000000) (hT : T.length ≤ 400) (hi : i < T.length) (hlen : (ndA T i).at_.length ≤ 100000000)
    (nm val : ByteArray) (hs : nm.size ≤ maxLen) (hv : val.size ≤ maxLen) :
    Calls Tryd.prog 43 #[.pointer (some ⟨R, 0, none⟩), .int .i64 (i : Int), .string nm, .string val] wr (AnyRet w R (atW isNm setA i T (nm, val)) D F vt n wr) := by
  have hx := ndA_get hi
  have hG2 := hG.below h.bel
  have same : ∀ {q : Nat}, atW isNm setA i T (nm, val) = T → Calls Tryd.prog 43 #[.pointer (some ⟨R, 0, none⟩), .int .i64 (i : Int), .string nm, .string val] wr (ErrR p q wr) → Calls Tryd.prog 43 #[.pointer (some ⟨R, 0, none⟩), .int .i64 (i : Int), .string nm, .string val] wr (AnyRet w R (atW isNm setA i T (nm, val)) D F vt n wr) := by
    intro q hsame hc
    refine hc.mono ?_
    rintro e w' ⟨he, rfl⟩
    rw [hsame]
    exact ⟨⟨_, he⟩, D, F, by omega, h, fun g o h => h⟩
  by_cases hk : (ndA T i).k = 2
  case neg => exact same (by unfold atW; rw [if_neg (fun h => hk h.1)]) (c_Set_kind h.ts hG2 hT hx hk nm val)
  by_cases hn : isNm nm = true
  case neg => exact same (by unfold atW; rw [if_neg (fun h => hn h.2.1)]) (c_Set_name h.ts hG2 hT hx hk nm val hs (by simpa using hn))
  by_cases hl : val.size ≤ 20000
  case neg => exact same (by unfold atW; rw [if_neg (fun h => hl h.2.2)]) (c_Set_long h.ts hG2 hT hx hk nm val hs hn hv (by omega))
  refine (c_Set h.ts hD hT hx hk hlen nm val hs hn hl).mono ?_
  rintro e w' ⟨he, u, hop⟩
  obtain ⟨F', h1, h2⟩ := h.op hop
  refine ⟨⟨_, he⟩, (u, T) :: D, F', Nat.le_refl _, ?_, fun g o h => h.step h2⟩
  unfold atW
  rw [if_pos ⟨hk, hn, hl⟩]
  exact h1
/-- a node without a parent is put at the end -/
theorem c_PutFree {w wr : World} {R n p i : Nat} {T : List Nod} {d : Nat → Nat} {D : List (Value × List Nod)} {F : Nat → Prop} {vt : Value} (h : PT w R T D F vt n wr) (hW : WF T d) (hD : D.length ≤ 1000000000000) (hT : T.length ≤ 400) (hp : p < T.length) (hi : i < T.length) (hi0 : i ≠ 0)
    (hk : (ndA T p).k = 1 ∨ (ndA T p).k = 2) (ha : ¬ Anc T i p) (hpa : (ndA T i).pa < 0) :
    Calls Tryd.prog 45 #[.pointer (some ⟨R, 0, none⟩), .int .i64 (p : Int), .int .i64 (i : Int), .int .i64 ((ndA T p).ki.length : Int)] wr (AnyRet w R (putG T p i (ndA T p).ki.length) D F vt n wr) := by
  have hpa1 : (ndA T i).pa = -1 := by rcases hW.pa i hi with e | ⟨e, _⟩ <;> omega
  have hc : cutE T i = T := cutE_none hpa
  have hkl : (ndA T p).ki.length ≤ 400 := Nat.le_trans (nodup_lt _ _ (hW.nd p hp) (fun k hk => (hW.ki p hp k hk).1)) hT
  refine (c_Put (at_ := (ndA T p).ki.length) h.ts hW hD hT (ndA_get hp) hi hi0 hk ha (by rw [hc]; exact Nat.le_refl _) (fun w2 h2 => c_cut_none h2 hT (ndA_get hi) hpa1) (by rw [hc]; exact insOk_end _ _ (by omega))).mono ?_
  rintro e w' ⟨he, u, hop⟩
  obtain ⟨F', h1, h2⟩ := h.op hop
  exact ⟨⟨_, he⟩, (u, T) :: D, F', Nat.le_refl _, h1, fun g o h => h.step h2⟩
theorem c_KidAny {w wr : World} {R n k i : Nat} {T : List Nod} {D : List (Value × List Nod)} {F : Nat → Prop} {vt : Value} {p : Nat → Addr} (h : PT w R T D F vt n wr) (hG : GE w w.heap.size p) (hI : TI T (k + 1)) (hD : D.length ≤ 1000000000000) (hT : T.length ≤ 400) (hk2 : (ndA T (k + 1)).k ≠ 1) (hfree : (ndA T (k + 1)).pa = -1) (hi : i < k) (hpa : (ndA T (i + 1)).pa < 0) :
    Calls Tryd.prog 45 #[.pointer (some ⟨R, 0, none⟩), .int .i64 ((k : Int) + 1), .int .i64 ((i : Int) + 1), .int .i64 ((ndA T (k + 1)).ki.length : Int)] wr (AnyRet w R (kiW k T (i : Int)) D F vt n wr) := by
  have hl := hI.len
  obtain ⟨d, hd⟩ := hI.wf
  have et : ((i : Int) + 1).toNat = i + 1 := by omega
  by_cases hk : (ndA T (k + 1)).k = 2
  · have hc := c_PutFree (p := k + 1) (i := i + 1) h hd hD hT (by omega) (by omega) (by omega) (.inr hk) (anc_free (by rw [hfree]; omega) (by omega)) hpa
    have e : kiW k T (i : Int) = putG T (k + 1) (i + 1) (ndA T (k + 1)).ki.length := by
      unfold kiW
      rw [et, if_pos ⟨hk, by omega, by omega, hpa⟩]
    rw [e]
    exact hc
  · have e : kiW k T (i : Int) = T := by unfold kiW; rw [if_neg (fun h => hk h.1)]
    rw [e]
    have hc := c_Put_kind (p := k + 1) (i := i + 1) (at_ := ((ndA T (k + 1)).ki.length : Int)) (pe := p) h.ts (hG.below h.bel) hT (ndA_get (by omega)) (by omega) (by omega) hk2 hk
    refine Calls.mono hc ?_
    rintro e w' ⟨he, hb⟩
    exact ⟨⟨_, he⟩, D, F, by omega, h.below hb, fun g o h => h.below hb⟩
theorem tops_snoc (k : Nat) : kic ((List.range (k + 1)).map (· + 1)) = kic ((List.range k).map (· + 1)) ++ [.int .i64 ((k : Int) + 1)] := by
  rw [List.range_succ, List.map_append]
  unfold kic
  rw [List.map_append]
  rfl
theorem PT.push {w wr w' : World} {R k : Nat} {T : List Nod} {D : List (Value × List Nod)} {F : Nat → Prop} {vt v' : Value} (h : PT w R T D F vt k wr) (hp : Pushed wr w.heap.size 3 1 vt k (kic ((List.range k).map (· + 1))) [.int .i64 ((k : Int) + 1)] v' w') : PT w R T D F v' (k + 1) w' := by
  refine ⟨h.ts.kept (Kept.grown hp.grown (fun a => vt.ownBlock = some a) (fun a e => e)) (fun a e => h.tf a e), hp.below h.bel (Nat.le_refl _) h.bel.size, ?_, fun a ha => ?_⟩
  · rw [tops_snoc]; exact hp.own
  · rcases hp.at_ with e | ⟨j, hj, e⟩
    · exact h.tf a (e ▸ ha)
    · rw [e] at ha; injection ha with ha; subst ha; exact h.ts.new_ hj
theorem ndW_facts (x : Twg) : (ndW isNm x).k ≠ 1 ∧ (ndW isNm x).pa = -1 ∧ (ndW isNm x).at_ = [] ∧ (ndW isNm x).ki = [] := by
  unfold ndW
  split
  · exact ⟨by show (2 : Int) ≠ 1; decide, rfl, rfl, rfl⟩
  · split
    · exact ⟨by show (4 : Int) ≠ 1; decide, rfl, rfl, rfl⟩
    · exact ⟨by show (3 : Int) ≠ 1; decide, rfl, rfl, rfl⟩
theorem rd_li {w : World} {lim n k : Nat} {A : Option Addr} {c : Nat} {x : Int} {l : List Int} (h : RdS w lim 1 (.slice A n c) n (l.map (Value.int .i64))) (hx : l[k]? = some x) : ∃ g o, A = some ⟨g, o, none⟩ ∧ g < lim ∧ ∀ w', Below lim w w' → w'.cell? ⟨g, o + k, none⟩ = some (.int .i64 x) := by
  have hl : l.length = n := by have := h.1; simpa using this
  have hk := (List.getElem?_eq_some_iff.1 hx).1
  obtain ⟨_, A', c', e, _, hc⟩ := h
  injection e with e1 _ e2
  subst e1 e2
  obtain ⟨g, o, e, hg, hcell⟩ := hc (by omega)
  refine ⟨g, o, e, hg, fun w' hb => (hb.cell (p := ⟨g, _, none⟩) hg).trans (hcell k _ ?_)⟩
  rw [List.getElem?_map, hx]; rfl
theorem foldl_take {α β : Type} (f : β → α → β) (b : β) {l : List α} {m : Nat} {x : α} (h : l[m]? = some x) : (l.take (m + 1)).foldl f b = f ((l.take m).foldl f b) x := by
  rw [List.take_add_one, h]; simp
/-- what the steps keep of the newest node -/
theorem atW_nd {T : List Nod} {i j : Nat} {q : ByteArray × ByteArray} (hi : i < T.length) : (ndA (atW isNm setA i T q) j).k = (ndA T j).k ∧ (ndA (atW isNm setA i T q) j).pa = (ndA T j).pa ∧ (ndA (atW isNm setA i T q) i).at_.length ≤ (ndA T i).at_.length + 1 := by
  unfold atW
  split
  · rename_i h
    rw [ndA_set hi, ndA_set hi, if_pos rfl]
    refine ⟨?_, ?_, ?_⟩
    · split
      · rename_i e; rw [e]
      · rfl
    · split
      · rename_i e; rw [e]
      · rfl
    · show (setA (ndA T i).at_ q.1 q.2).length ≤ _
      unfold setA
      split <;> simp
  · exact ⟨rfl, rfl, by omega⟩
theorem atW_TI {T : List Nod} {n i : Nat} {q : ByteArray × ByteArray} (h : TI T n) (hi : i < T.length) : TI (atW isNm setA i T q) n := by
  unfold atW
  split
  · exact h.at_ hi
  · exact h
theorem kiW_TI {T : List Nod} {k : Nat} {kk : Int} (h : TI T (k + 1)) (hf : (ndA T (k + 1)).pa = -1) : TI (kiW k T kk) (k + 1) ∧ (ndA (kiW k T kk) (k + 1)).k = (ndA T (k + 1)).k ∧ (ndA (kiW k T kk) (k + 1)).pa = -1 := by
  unfold kiW
  split
  · rename_i hc
    obtain ⟨h2, h3, h4, h5⟩ := hc
    obtain ⟨i, rfl⟩ := Int.eq_ofNat_of_zero_le h3
    have hi : i < k := by omega
    have et : ((i : Int) + 1).toNat = i + 1 := by omega
    rw [et] at h5 ⊢
    have hl := h.len
    have hne : k + 1 ≠ i + 1 := by omega
    refine ⟨h.put (by omega) (by omega) (by omega) (anc_free (by rw [hf]; omega) hne), ?_⟩
    rw [putG_none h5, putE_nd (by omega) (by omega) hne, if_neg hne, if_pos rfl]
    exact ⟨rfl, hf⟩
  · exact ⟨h, rfl, hf⟩
end Go.Proofs.YtimlmekgapdkiaaDoor
