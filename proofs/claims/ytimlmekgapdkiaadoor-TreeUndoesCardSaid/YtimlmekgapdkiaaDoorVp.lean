/- the tree: any change, whatever it is asked -/
import Derived.Test.YtimlmekgapdkiaaDoorVo
namespace Go.Proofs.YtimlmekgapdkiaaDoor
set_option linter.unusedVariables false
set_option linter.unusedSimpArgs false
open Go.RowKit Go.Cas

/-- a tree as the law has it: a forest, not too great -/
structure Gd (T : List Nod) (n : Nat) : Prop where
  wf : ∃ d, WF T d
  len : T.length ≤ 400
  at_ : ∀ j, (ndA T j).at_.length ≤ n
theorem Gd.mono {T : List Nod} {n m : Nat} (h : Gd T n) (hm : n ≤ m) : Gd T m := ⟨h.wf, h.len, fun j => Nat.le_trans (h.at_ j) hm⟩
/-- a change, or none -/
def ChgRet (B R : Nat) (T : List Nod) (D : List (Value × List Nod)) (F : Nat → Prop) (n : Nat) (w : World) (e : Ending) (w' : World) : Prop :=
  (∃ u, e = .returned u) ∧ ∃ T' D' F', TS B R T' D' F' w' ∧ (∀ k, k < w.heap.size → F' k → F k) ∧ Kept w w' F ∧ ((T' = T ∧ D' = D) ∨ ∃ u, D' = (u, T) :: D ∧ Gd T' (n + 1))
section
variable {w w' : World} {B R n : Nat} {T T' : List Nod} {D : List (Value × List Nod)} {F : Nat → Prop} {p : Nat → Addr} {e : Ending} {k : Nat}
theorem ChgRet.none_ {e0 : Value} (h : TS B R T D F w) (hb : Below w.heap.size w w') : ChgRet B R T D F n w (.returned e0) w' :=
  ⟨⟨_, rfl⟩, T, D, F, h.below hb, fun _ _ h => h, Kept.of_below hb F, .inl ⟨rfl, rfl⟩⟩
theorem ErrB.chg (h : TS B R T D F w) (he : ErrB p k w e w') : ChgRet B R T D F n w e w' := by
  obtain ⟨rfl, hb⟩ := he
  exact ChgRet.none_ h hb
theorem ErRet.chg (h : TS B R T D F w) (he : ErRet p k w e w') : ChgRet B R T D F n w e w' := by
  obtain ⟨rfl, hb⟩ := he
  exact ChgRet.none_ h hb
theorem TOp.chg {u : Value} {r : Value} (he : TOp B R T' ((u, T) :: D) F w w') (hG : Gd T' (n + 1)) : ChgRet B R T D F n w (.returned r) w' := by
  obtain ⟨F', h1, h2, h3⟩ := he
  exact ⟨⟨_, rfl⟩, T', _, F', h1, h2, h3, .inr ⟨u, rfl, hG⟩⟩
end
theorem Gd.add {T : List Nod} {n : Nat} {x : Nod} (h : Gd T n) (hl : T.length < 400) (hp : x.pa = -1) (hk : x.ki = []) (ha : x.at_ = []) : Gd (T ++ [x]) (n + 1) := by
  obtain ⟨d, hd⟩ := h.wf
  refine ⟨⟨d, hd.add hp hk⟩, by simp; omega, fun j => ?_⟩
  rw [ndA_app]
  split
  · rw [ha]; simp
  · exact Nat.le_trans (h.at_ j) (by omega)
/-- one node's own words are other ones -/
theorem Gd.own {T : List Nod} {n i : Nat} {y : Nod} (h : Gd T n) (hi : i < T.length) (hp : y.pa = (ndA T i).pa) (hk : y.ki = (ndA T i).ki) (ha : y.at_.length ≤ n + 1) : Gd (T.set i y) (n + 1) := by
  obtain ⟨d, hd⟩ := h.wf
  refine ⟨⟨d, hd.same (by simp) (fun j hj => ?_) (fun j hj => ?_)⟩, by rw [List.length_set]; exact h.len, fun j => ?_⟩
  · rw [ndA_set hi]; split
    · rename_i e; rw [hp, e]
    · rfl
  · rw [ndA_set hi]; split
    · rename_i e; rw [hk, e]
    · rfl
  · rw [ndA_set hi]; split
    · exact ha
    · exact Nat.le_trans (h.at_ j) (by omega)
theorem at_set2 {T : List Nod} {p : Nat} {y : Nod} (h : y.at_ = (ndA T p).at_) (j : Nat) : (ndA (T.set p y) j).at_ = (ndA T j).at_ := by
  by_cases hp : p < T.length
  · rw [ndA_set hp]
    split
    · rename_i e; rw [h, e]
    · rfl
  · rw [List.set_eq_of_length_le (by omega)]
theorem at_putE2 (T : List Nod) (p i : Nat) (ks : List Nat) (j : Nat) : (ndA (putE T p i ks) j).at_ = (ndA T j).at_ := by
  unfold putE
  rw [at_set2 (by rfl), at_set2 (by rfl)]
theorem at_cutE2 (T : List Nod) (i : Nat) (j : Nat) : (ndA (cutE T i) j).at_ = (ndA T j).at_ := by
  unfold cutE
  split
  · rw [at_set2 (by rw [at_set2 (by rfl)]), at_set2 (by rfl)]
  · rfl
theorem Gd.cut {T : List Nod} {n i : Nat} (h : Gd T n) (hi : i < T.length) : Gd (cutE T i) (n + 1) := by
  obtain ⟨d, hd⟩ := h.wf
  exact ⟨⟨d, hd.cut hi⟩, by rw [cutE_len]; exact h.len, fun j => by rw [at_cutE2]; exact Nat.le_trans (h.at_ j) (by omega)⟩
theorem Gd.put {T : List Nod} {n p i m : Nat} (h : Gd T n) (hp : p < T.length) (hi : i < T.length) (ha : ¬ Anc T i p) : Gd (putG T p i m) (n + 1) := by
  obtain ⟨d, hd⟩ := h.wf
  obtain ⟨d', hd'⟩ := hd.putG m hp hi ha
  refine ⟨⟨d', hd'⟩, by rw [putG_len]; exact h.len, fun j => ?_⟩
  unfold putG
  rw [at_putE2, at_cutE2]
  exact Nat.le_trans (h.at_ j) (by omega)
theorem setA_len (l : List (ByteArray × ByteArray)) (nm v : ByteArray) : (setA l nm v).length ≤ l.length + 1 := by
  unfold setA
  split
  · simp
  · simp
theorem tree_deep {T : List Nod} (d : Nat → Nat) : ∃ Dm, ∀ k, k < T.length → d k ≤ Dm := by
  refine ⟨((List.range T.length).map d).sum, fun k hk => ?_⟩
  have hm : d k ∈ (List.range T.length).map d := List.mem_map_of_mem (List.mem_range.2 hk)
  have key : ∀ (l : List Nat) (x : Nat), x ∈ l → x ≤ l.sum := by
    intro l
    induction l with
    | nil => intro x h; cases h
    | cons a l ih =>
      intro x h
      rw [List.sum_cons]
      rcases List.mem_cons.1 h with rfl | h
      · omega
      · have := ih x h; omega
  exact key _ _ hm
section
variable {w : World} {B R n : Nat} {T : List Nod} {D : List (Value × List Nod)} {F : Nat → Prop} {p : Nat → Addr}
theorem c_ElementAny (h : TS B R T D F w) (hG : GE w B p) (hD : D.length ≤ 1000000000000) (hg : Gd T n) (s : ByteArray) (hs : s.size ≤ maxLen) : Calls Tryd.prog 17 #[.pointer (some ⟨R, 0, none⟩), .string s] w (ChgRet B R T D F n w) := by
  cases hn : isNm s with
  | false => exact (c_Element_bad hG s hs hn).mono fun e w' he => he.chg h
  | true =>
    by_cases hl : T.length < 400
    · exact (c_Element h hD s hl hs hn).mono fun e w' ⟨he, u, ho⟩ => he ▸ ho.chg (hg.add hl rfl rfl rfl)
    · exact (c_Element_full h hG s (by have := hg.len; omega) hs hn).mono fun e w' he => he.chg h
theorem c_TextAny (h : TS B R T D F w) (hG : GE w B p) (hD : D.length ≤ 1000000000000) (hg : Gd T n) (s : ByteArray) (hs : s.size ≤ maxLen) : Calls Tryd.prog 42 #[.pointer (some ⟨R, 0, none⟩), .string s] w (ChgRet B R T D F n w) := by
  by_cases hl : T.length < 400 ∧ s.size ≤ 20000
  · exact (c_Text h hD s hl.1 hl.2).mono fun e w' ⟨he, u, ho⟩ => he ▸ ho.chg (hg.add hl.1 rfl rfl rfl)
  · exact (c_Text_no h hG s hg.len hs (by omega)).mono fun e w' he => he.chg h
theorem c_CommentAny (h : TS B R T D F w) (hG : GE w B p) (hD : D.length ≤ 1000000000000) (hg : Gd T n) (s : ByteArray) (hs : s.size ≤ maxLen) : Calls Tryd.prog 41 #[.pointer (some ⟨R, 0, none⟩), .string s] w (ChgRet B R T D F n w) := by
  by_cases hl : T.length < 400 ∧ s.size ≤ 20000
  · exact (c_Comment h hD s hl.1 hl.2).mono fun e w' ⟨he, u, ho⟩ => he ▸ ho.chg (hg.add hl.1 rfl rfl rfl)
  · exact (c_Comment_no h hG s hg.len hs (by omega)).mono fun e w' he => he.chg h
theorem c_TakeAny (h : TS B R T D F w) (hG : GE w B p) (hD : D.length ≤ 1000000000000) (hg : Gd T n) (a : Int) : Calls Tryd.prog 65 #[.pointer (some ⟨R, 0, none⟩), .int .i64 a] w (ChgRet B R T D F n w) := by
  by_cases ha : a < 0 ∨ (T.length : Int) ≤ a
  · exact (c_Take_no h hG hg.len ha).mono fun e w' he => he.chg h
  · obtain ⟨i, rfl⟩ : ∃ i : Nat, a = (i : Int) := ⟨a.toNat, by omega⟩
    have hi : i < T.length := by omega
    obtain ⟨d, hd⟩ := hg.wf
    by_cases hp : (ndA T i).pa < 0
    · exact (c_Take_free h hG hg.len (ndA_get hi) hp).mono fun e w' he => he.chg h
    · exact (c_Take h hd hD hg.len hi (by omega)).mono fun e w' ⟨he, u, ho⟩ => he ▸ ho.chg (hg.cut hi)
theorem c_PutAny2 (h : TS B R T D F w) (hG : GE w B p) (hD : D.length ≤ 1000000000000) (hg : Gd T n) (a b c : Int) : Calls Tryd.prog 45 #[.pointer (some ⟨R, 0, none⟩), .int .i64 a, .int .i64 b, .int .i64 c] w (ChgRet B R T D F n w) := by
  by_cases hab : (a < 0 ∨ (T.length : Int) ≤ a) ∨ (b < 0 ∨ (T.length : Int) ≤ b)
  · exact (c_Put_no h hG hg.len hab).mono fun e w' he => he.chg h
  · obtain ⟨q, rfl⟩ : ∃ i : Nat, a = (i : Int) := ⟨a.toNat, by omega⟩
    obtain ⟨i, rfl⟩ : ∃ i : Nat, b = (i : Int) := ⟨b.toNat, by omega⟩
    have hq : q < T.length := by omega
    have hi : i < T.length := by omega
    obtain ⟨d, hd⟩ := hg.wf
    by_cases hn : i = 0 ∨ ¬ ((ndA T q).k = 1 ∨ (ndA T q).k = 2) ∨ Anc T i q ∨ c < 0 ∨ (kLen T q i : Int) < c
    · exact (c_Put_place h hG hd hg.len hq hi hn).mono fun e w' he => he.chg h
    · have h0 : i ≠ 0 := fun e => hn (.inl e)
      have hk : (ndA T q).k = 1 ∨ (ndA T q).k = 2 := Classical.byContradiction fun e => hn (.inr (.inl e))
      have ha : ¬ Anc T i q := fun e => hn (.inr (.inr (.inl e)))
      have hc1 : ¬ c < 0 := fun e => hn (.inr (.inr (.inr (.inl e))))
      have hc2 : ¬ (kLen T q i : Int) < c := fun e => hn (.inr (.inr (.inr (.inr e))))
      obtain ⟨m, rfl⟩ : ∃ m : Nat, c = (m : Int) := ⟨c.toNat, by omega⟩
      exact (c_PutAny h hd hD hg.len hq hi h0 hk ha (by unfold kLen at hc2; omega)).mono fun e w' ⟨he, u, ho⟩ => he ▸ ho.chg (hg.put hq hi ha)
theorem c_SetAny2 (h : TS B R T D F w) (hG : GE w B p) (hD : D.length ≤ 1000000000000) (hg : Gd T n) (hn : n ≤ 1000) (a : Int) (nm v : ByteArray) (hs : nm.size ≤ maxLen) (hv : v.size ≤ maxLen) : Calls Tryd.prog 43 #[.pointer (some ⟨R, 0, none⟩), .int .i64 a, .string nm, .string v] w (ChgRet B R T D F n w) := by
  by_cases ha : a < 0 ∨ (T.length : Int) ≤ a
  · exact (c_Set_no h hG hg.len ha nm v).mono fun e w' he => he.b.chg h
  · obtain ⟨i, rfl⟩ : ∃ i : Nat, a = (i : Int) := ⟨a.toNat, by omega⟩
    have hi : i < T.length := by omega
    have hx := ndA_get hi
    by_cases hk : (ndA T i).k = 2
    · cases hm : isNm nm with
      | false => exact (c_Set_name h hG hg.len hx hk nm v hs hm).mono fun e w' he => he.b.chg h
      | true =>
        by_cases hv2 : v.size ≤ 20000
        · have hal := hg.at_ i
          refine (c_Set h hD hg.len hx hk (by omega) nm v hs hm hv2).mono fun e w' ⟨he, u, ho⟩ => he ▸ ho.chg (hg.own hi rfl rfl ?_)
          have := setA_len (ndA T i).at_ nm v
          show (setA (ndA T i).at_ nm v).length ≤ _
          omega
        · exact (c_Set_long h hG hg.len hx hk nm v hs hm hv (by omega)).mono fun e w' he => he.b.chg h
    · exact (c_Set_kind h hG hg.len hx hk nm v).mono fun e w' he => he.b.chg h
theorem c_UnsetAny (h : TS B R T D F w) (hG : GE w B p) (hD : D.length ≤ 1000000000000) (hg : Gd T n) (hn : n ≤ 1000) (a : Int) (nm : ByteArray) : Calls Tryd.prog 66 #[.pointer (some ⟨R, 0, none⟩), .int .i64 a, .string nm] w (ChgRet B R T D F n w) := by
  by_cases ha : a < 0 ∨ (T.length : Int) ≤ a
  · exact (c_Unset_no h hG hg.len ha nm).mono fun e w' he => he.chg h
  · obtain ⟨i, rfl⟩ : ∃ i : Nat, a = (i : Int) := ⟨a.toNat, by omega⟩
    have hi : i < T.length := by omega
    have hx := ndA_get hi
    have hal := hg.at_ i
    by_cases hk : (ndA T i).k = 2
    · rcases fnd_spec (ndA T i).at_ nm with ⟨hf, _⟩ | ⟨k, hf, q, hq, _⟩
      · exact (c_Unset_name h hG hg.len hx hk (by omega) nm hf).mono fun e w' he => he.chg h
      · have hkl := (List.getElem?_eq_some_iff.1 hq).1
        refine (c_Unset h hD hg.len hx hk (by omega) nm hf hkl).mono fun e w' ⟨he, u, ho⟩ => he ▸ ho.chg (hg.own hi rfl rfl ?_)
        show ((ndA T i).at_.eraseIdx k).length ≤ _
        rw [List.length_eraseIdx_of_lt hkl]
        omega
    · exact (c_Unset_kind h hG hg.len hx hk nm).mono fun e w' he => he.chg h
theorem c_SayAny (h : TS B R T D F w) (hG : GE w B p) (hD : D.length ≤ 1000000000000) (hg : Gd T n) (a : Int) (s : ByteArray) (hs : s.size ≤ maxLen) : Calls Tryd.prog 67 #[.pointer (some ⟨R, 0, none⟩), .int .i64 a, .string s] w (ChgRet B R T D F n w) := by
  by_cases ha : a < 0 ∨ (T.length : Int) ≤ a
  · exact (c_Say_no h hG hg.len ha s).mono fun e w' he => he.chg h
  · obtain ⟨i, rfl⟩ : ∃ i : Nat, a = (i : Int) := ⟨a.toNat, by omega⟩
    have hi : i < T.length := by omega
    have hx := ndA_get hi
    by_cases hk : (ndA T i).k = 3 ∨ (ndA T i).k = 4
    · by_cases hs2 : s.size ≤ 20000
      · exact (c_Say h hD hg.len hx hk s hs2).mono fun e w' ⟨he, u, ho⟩ => he ▸ ho.chg (hg.own hi rfl rfl (Nat.le_trans (hg.at_ i) (by omega)))
      · exact (c_Say_long h hG hg.len hx s hk (by omega) hs).mono fun e w' he => he.chg h
    · exact (c_Say_bad h hG hg.len hx s hk).mono fun e w' he => he.chg h
theorem c_CopyAny (h : TS B R T D F w) (hG : GE w B p) (hD : D.length ≤ 1000000000000) (hg : Gd T n) (a : Int) : Calls Tryd.prog 68 #[.pointer (some ⟨R, 0, none⟩), .int .i64 a] w (ChgRet B R T D F n w) := by
  by_cases ha : a < 0 ∨ (T.length : Int) ≤ a
  · exact (c_Copy_no h hG hg.len ha).mono fun e w' he => he.chg h
  · obtain ⟨i, rfl⟩ : ∃ i : Nat, a = (i : Int) := ⟨a.toNat, by omega⟩
    have hi : i < T.length := by omega
    obtain ⟨d, hd⟩ := hg.wf
    obtain ⟨Dm, hDm⟩ := tree_deep (T := T) d
    by_cases h0 : i = 0
    · subst h0
      exact (c_Copy_root h hG hg.len hi).mono fun e w' he => he.chg h
    · by_cases hl : T.length + (und T (Dm + 1) i).length ≤ 400
      · refine (c_Copy h hd hDm hD hg.len hi h0 hl).mono fun e w' ⟨he, u, ho⟩ => he ▸ ho.chg ?_
        have hcp := cpF_ok hd (Dm + 1) T i (-1) (Ext.refl T) hi
        exact ⟨wf_of_cp hd hcp, by rw [hcp.len]; exact hl, fun j => Nat.le_trans (cpF_at (fun l => l.length ≤ n) (Dm + 1) T i (-1) hg.at_ j) (by omega)⟩
      · exact (c_Copy_big h hG hd hDm hg.len hi h0 (by omega)).mono fun e w' he => he.chg h
end
end Go.Proofs.YtimlmekgapdkiaaDoor
