/- what a change does to both trees: either both say the same error, or both are the same other tree -/
import Derived.Test.YtimlmekgapdkiaaGreatDoorWk
import Derived.Test.YtimlmekgapdkiaaGreatDoorWi
import Derived.Test.YtimlmekgapdkiaaGreatDoorWv
import Derived.Test.YtimlmekgapdkiaaGreatDoorWh
import Derived.Test.YtimlmekgapdkiaaGreatDoorVp
namespace Go.Proofs.YtimlmekgapdkiaaGreatDoor
set_option linter.unusedVariables false
set_option linter.unusedSimpArgs false
open Go.RowKit Go.Cas

/-- kinds ps the language has them -/
def KdOk (T : List Nod) : Prop := ∀ j, j < T.length → (ndA T j).k = 1 ∨ (ndA T j).k = 2 ∨ (ndA T j).k = 3 ∨ (ndA T j).k = 4
structure Gk (T : List Nod) (n : Nat) : Prop where
  gd : Gd T n
  kd : KdOk T
  pos : 0 < T.length
theorem Gk.mono {T : List Nod} {n m : Nat} (h : Gk T n) (hm : n ≤ m) : Gk T m := ⟨h.gd.mono hm, h.kd, h.pos⟩
theorem KdOk.of {T U : List Nod} (h : KdOk T) (hl : U.length = T.length) (he : ∀ j, (ndA U j).k = (ndA T j).k) : KdOk U := fun j hj => by rw [he j]; exact h j (by omega)
theorem KdOk.app {T : List Nod} {x : Nod} (h : KdOk T) (hx : x.k = 1 ∨ x.k = 2 ∨ x.k = 3 ∨ x.k = 4) : KdOk (T ++ [x]) := fun j hj => by
  rw [ndA_app]
  split
  · exact hx
  · exact h j (by rw [List.length_append, List.length_cons, List.length_nil] at hj; omega)
theorem k_set2 {T : List Nod} {p : Nat} {y : Nod} (h : y.k = (ndA T p).k) (j : Nat) : (ndA (T.set p y) j).k = (ndA T j).k := by
  by_cases hp : p < T.length
  · rw [ndA_set hp]
    split
    · rename_i e; rw [h, e]
    · rfl
  · rw [List.set_eq_of_length_le (by omega)]
theorem k_putE2 (T : List Nod) (p i : Nat) (ks : List Nat) (j : Nat) : (ndA (putE T p i ks) j).k = (ndA T j).k := by
  unfold putE
  rw [k_set2 (by rfl), k_set2 (by rfl)]
theorem k_cutE2 (T : List Nod) (i : Nat) (j : Nat) : (ndA (cutE T i) j).k = (ndA T j).k := by
  unfold cutE
  split
  · rw [k_set2 (by rw [k_set2 (by rfl)]), k_set2 (by rfl)]
  · rfl
theorem rcI_k {N : Nat} {l : List Nat} {pa : Int} {a : Nat} : ∀ (k : Nat) (S : List Nod) (j : Nat), (ndA (rcI N l pa a k S).1 j).k = (ndA S j).k := by
  intro k
  induction k with
  | zero => intro S j; rfl
  | succ k ih =>
    intro S j
    unfold rcI
    split
    · unfold att
      rw [k_set2 (by rfl)]; exact ih S j
    · exact ih S j
theorem rcA_k {T : List Nod} (h : KdOk T) (l : List Nat) (hl : ∀ x ∈ l, x < T.length) : ∀ a, a ≤ l.length → KdOk (rcA T l a) := by
  intro a
  induction a with
  | zero => intro _; exact h
  | succ a ih =>
    intro ha
    unfold rcA
    refine KdOk.app ((ih (by omega)).of (rcI_len _ _ _ _ _ _) (rcI_k _ _)) ?_
    show (ndA T (l.getD a 0)).k = 1 ∨ _
    rw [getD_of (List.getElem?_eq_getElem (by omega))]
    exact h _ (hl _ (List.getElem_mem _))
theorem Gd.few {T : List Nod} {n : Nat} (h : Gd T n) (hn : n ≤ 1000) : FewT T := fun x hx => by
  obtain ⟨j, hj, rfl⟩ := List.getElem_of_mem hx
  have e : ndA T j = T[j] := ndA_eq (List.getElem?_eq_getElem hj)
  rw [← e]
  have h1 := h.at_ j
  obtain ⟨d, hd⟩ := h.wf
  have h2 := nodup_lt _ _ (hd.nd j hj) (fun k hk => (hd.ki j hj k hk).1)
  have := h.len
  omega
theorem RD.rs {B R : Nat} {T : List Nod} {D : List (List Nod)} {G : Nat → Prop} {w : World} (h : RD B R T D G w) : ∃ τ, RS B R T D.length τ w := by
  obtain ⟨τ, xs, h1, _⟩ := h
  exact ⟨τ, h1.rs⟩
theorem RD.chg {B R g : Nat} {ps : Array Value} {v : Value} {T T' : List Nod} {D : List (List Nod)} {G : Nat → Prop} {w : World} (h : RD B R T D G w) (hT : 0 < T.length)
    (hC : ∀ τ xs, RSx B R T D.length xs τ w → Calls Tryz.prog g ps w (fun e w' => e = .returned v ∧ ROpX B R T' T D.length xs τ w w')) : Calls Tryz.prog g ps w (fun e w' => e = .returned v ∧ RDop B R T' (T :: D) G w w') := by
  obtain ⟨τ, xs, h1, h2, h3, h4⟩ := h
  have hB : B ≤ w.heap.size := by
    obtain ⟨L, cap, tv, M, a, _⟩ := h1
    exact a.hB
  exact (hC τ xs h1).mono fun e w' ⟨a, b⟩ => ⟨a, b.rd rfl h2 h3 h4 hB hT⟩
/-- both sides' contracts of one change -/
def JC (B Rt R : Nat) (p : Nat → Addr) (T : List Nod) (D : List (Value × List Nod)) (n : Nat) (f g : Nat) (ps bs : Array Value) (okP okR : Value) (erP erR : Nat → Value) : Prop :=
  (∃ q, 1 ≤ q ∧ q ≤ 7 ∧ (∀ w F, TS B Rt T D F w → GE w B p → Calls Tryz.prog f ps w (fun e w' => e = .returned (erP q) ∧ Below w.heap.size w w')) ∧ (∀ w G, RD B R T (D.map Prod.snd) G w → Calls Tryz.prog g bs w (fun e w' => e = .returned (erR q) ∧ Below w.heap.size w w'))) ∨
  (∃ T', Gk T' (n + 1) ∧ (∀ w F, TS B Rt T D F w → Calls Tryz.prog f ps w (fun e w' => e = .returned okP ∧ ∃ u, TOp B Rt T' ((u, T) :: D) F w w')) ∧ (∀ w G, RD B R T (D.map Prod.snd) G w → Calls Tryz.prog g bs w (fun e w' => e = .returned okR ∧ RDop B R T' (T :: D.map Prod.snd) G w w')))
def erP1 (p : Nat → Addr) (q : Nat) : Value := errV p q
def erR1 (q : Nat) : Value := .int .i64 (q : Int)
def erP2 (p : Nat → Addr) (q : Nat) : Value := .tuple #[.int .i64 0, errV p q]
def erR2 (q : Nat) : Value := .tuple #[.int .i64 0, .int .i64 (q : Int)]
section
variable {B Rt R n : Nat} {p : Nat → Addr} {T : List Nod} {D : List (Value × List Nod)}
theorem j_Element (hg : Gk T n) (hn : n ≤ 1000) (hD : D.length ≤ 1000000) (s : ByteArray) (hs : s.size ≤ maxLen) : JC B Rt R p T D n 20 21 #[.pointer (some ⟨Rt, 0, none⟩), .string s] #[.pointer (some ⟨R, 0, none⟩), .int .i64 2, .string s] (.tuple #[.int .i64 (T.length : Int), .nilIface]) (.tuple #[.int .i64 (T.length : Int), .int .i64 0]) (erP2 p) erR2 := by
  have hlen := hg.gd.len
  cases hm : isNm s with
  | false =>
    refine .inl ⟨3, by decide, by decide, fun w F h hG => c_Element_bad hG s hs hm, fun w G h => ?_⟩
    obtain ⟨τ, h⟩ := h.rs
    exact c_rMake_name h s hs hm
  | true =>
    by_cases hl : T.length < 400
    · refine .inr ⟨T ++ [newN 2 s ByteArray.empty], ⟨hg.gd.add hl rfl rfl rfl, hg.kd.app (.inr (.inl rfl)), by simp⟩, fun w F h => c_Element h (by omega) s hl hs hm, fun w G h => h.chg hg.pos fun τ xs h => ?_⟩
      exact c_rMake h hl (hg.gd.few hn) (by rw [List.length_map]; exact hD) 2 s (.inl ⟨rfl, hm⟩) hs
    · refine .inl ⟨2, by decide, by decide, fun w F h hG => c_Element_full h hG s (by omega) hs hm, fun w G h => ?_⟩
      obtain ⟨τ, h⟩ := h.rs
      exact c_rMake_full h (by omega) 2 s hs (fun _ => hm)
theorem j_Text (hg : Gk T n) (hn : n ≤ 1000) (hD : D.length ≤ 1000000) (s : ByteArray) (hs : s.size ≤ maxLen) : JC B Rt R p T D n 23 21 #[.pointer (some ⟨Rt, 0, none⟩), .string s] #[.pointer (some ⟨R, 0, none⟩), .int .i64 3, .string s] (.tuple #[.int .i64 (T.length : Int), .nilIface]) (.tuple #[.int .i64 (T.length : Int), .int .i64 0]) (erP2 p) erR2 := by
  have hlen := hg.gd.len
  by_cases hl : T.length < 400 ∧ s.size ≤ 20000
  · refine .inr ⟨T ++ [newN 3 ByteArray.empty s], ⟨hg.gd.add hl.1 rfl rfl rfl, hg.kd.app (.inr (.inr (.inl rfl))), by simp⟩, fun w F h => c_Text h (by omega) s hl.1 hl.2, fun w G h => h.chg hg.pos fun τ xs h => ?_⟩
    exact c_rMake h hl.1 (hg.gd.few hn) (by rw [List.length_map]; exact hD) 3 s (.inr ⟨by decide, hl.2⟩) hs
  · refine .inl ⟨2, by decide, by decide, fun w F h hG => c_Text_no h hG s hlen hs (by omega), fun w G h => ?_⟩
    obtain ⟨τ, h⟩ := h.rs
    by_cases h4 : T.length = 400
    · exact c_rMake_full h h4 3 s hs (fun e => by omega)
    · exact c_rMake_long h (by omega) 3 s hs (by decide) (by omega)
theorem j_Comment (hg : Gk T n) (hn : n ≤ 1000) (hD : D.length ≤ 1000000) (s : ByteArray) (hs : s.size ≤ maxLen) : JC B Rt R p T D n 24 21 #[.pointer (some ⟨Rt, 0, none⟩), .string s] #[.pointer (some ⟨R, 0, none⟩), .int .i64 4, .string s] (.tuple #[.int .i64 (T.length : Int), .nilIface]) (.tuple #[.int .i64 (T.length : Int), .int .i64 0]) (erP2 p) erR2 := by
  have hlen := hg.gd.len
  by_cases hl : T.length < 400 ∧ s.size ≤ 20000
  · refine .inr ⟨T ++ [newN 4 ByteArray.empty s], ⟨hg.gd.add hl.1 rfl rfl rfl, hg.kd.app (.inr (.inr (.inr rfl))), by simp⟩, fun w F h => c_Comment h (by omega) s hl.1 hl.2, fun w G h => h.chg hg.pos fun τ xs h => ?_⟩
    exact c_rMake h hl.1 (hg.gd.few hn) (by rw [List.length_map]; exact hD) 4 s (.inr ⟨by decide, hl.2⟩) hs
  · refine .inl ⟨2, by decide, by decide, fun w F h hG => c_Comment_no h hG s hlen hs (by omega), fun w G h => ?_⟩
    obtain ⟨τ, h⟩ := h.rs
    by_cases h4 : T.length = 400
    · exact c_rMake_full h h4 4 s hs (fun e => by omega)
    · exact c_rMake_long h (by omega) 4 s hs (by decide) (by omega)
theorem j_Take (hg : Gk T n) (hn : n ≤ 1000) (hD : D.length ≤ 1000000) (a : Int) : JC B Rt R p T D n 28 29 #[.pointer (some ⟨Rt, 0, none⟩), .int .i64 a] #[.pointer (some ⟨R, 0, none⟩), .int .i64 a] .nilIface (.int .i64 0) (erP1 p) erR1 := by
  have hlen := hg.gd.len
  by_cases ha : a < 0 ∨ (T.length : Int) ≤ a
  · refine .inl ⟨4, by decide, by decide, fun w F h hG => c_Take_no h hG hlen ha, fun w G h => ?_⟩
    obtain ⟨τ, h⟩ := h.rs
    exact c_rTake_no h a ha hlen
  · obtain ⟨i, rfl⟩ : ∃ i : Nat, a = (i : Int) := ⟨a.toNat, by omega⟩
    have hi : i < T.length := by omega
    obtain ⟨d, hd⟩ := hg.gd.wf
    by_cases hp : (ndA T i).pa < 0
    · refine .inl ⟨5, by decide, by decide, fun w F h hG => c_Take_free h hG hlen (ndA_get hi) hp, fun w G h => ?_⟩
      obtain ⟨τ, h⟩ := h.rs
      exact c_rTake_free h hi hlen hp
    · obtain ⟨q, hq⟩ := Int.eq_ofNat_of_zero_le (show 0 ≤ (ndA T i).pa by omega)
      refine .inr ⟨cutE T i, ⟨hg.gd.cut hi, hg.kd.of (cutE_len _ _) (k_cutE2 _ _), by rw [cutE_len]; exact hg.pos⟩, fun w F h => c_Take h hd (by omega) hlen hi (by omega), fun w G h => h.chg hg.pos fun τ xs h => ?_⟩
      exact c_rTake h hd hlen (hg.gd.few hn) (by rw [List.length_map]; exact hD) hi hq
theorem j_Put (hg : Gk T n) (hn : n ≤ 1000) (hD : D.length ≤ 1000000) (a b c : Int) : JC B Rt R p T D n 25 27 #[.pointer (some ⟨Rt, 0, none⟩), .int .i64 a, .int .i64 b, .int .i64 c] #[.pointer (some ⟨R, 0, none⟩), .int .i64 a, .int .i64 b, .int .i64 c] .nilIface (.int .i64 0) (erP1 p) erR1 := by
  have hlen := hg.gd.len
  by_cases ha : a < 0 ∨ (T.length : Int) ≤ a
  · refine .inl ⟨4, by decide, by decide, fun w F h hG => c_Put_no h hG hlen (.inl ha), fun w G h => ?_⟩
    obtain ⟨τ, h⟩ := h.rs
    exact c_rPut_no1 h a b c ha hlen (by omega)
  obtain ⟨q, rfl⟩ : ∃ i : Nat, a = (i : Int) := ⟨a.toNat, by omega⟩
  have hq : q < T.length := by omega
  by_cases hb : b < 0 ∨ (T.length : Int) ≤ b
  · refine .inl ⟨4, by decide, by decide, fun w F h hG => c_Put_no h hG hlen (.inr hb), fun w G h => ?_⟩
    obtain ⟨τ, h⟩ := h.rs
    exact c_rPut_no2 h b c hq hlen hb
  obtain ⟨i, rfl⟩ : ∃ i : Nat, b = (i : Int) := ⟨b.toNat, by omega⟩
  have hi : i < T.length := by omega
  obtain ⟨d, hd⟩ := hg.gd.wf
  by_cases h0 : i = 0
  · refine .inl ⟨5, by decide, by decide, fun w F h hG => c_Put_place h hG hd hlen hq hi (.inl h0), fun w G h => ?_⟩
    obtain ⟨τ, h⟩ := h.rs
    subst h0
    exact c_rPut_root h c hq hg.pos hlen
  have hkd := hg.kd q hq
  by_cases hk : (ndA T q).k = 3 ∨ (ndA T q).k = 4
  · refine .inl ⟨5, by decide, by decide, fun w F h hG => c_Put_place h hG hd hlen hq hi (.inr (.inl (by omega))), fun w G h => ?_⟩
    obtain ⟨τ, h⟩ := h.rs
    exact c_rPut_kind h c hlen hq hi h0 hk
  by_cases hna : Anc T i q
  · refine .inl ⟨5, by decide, by decide, fun w F h hG => c_Put_place h hG hd hlen hq hi (.inr (.inr (.inl hna))), fun w G h => ?_⟩
    obtain ⟨τ, h⟩ := h.rs
    exact c_rPut_ring h c hd hlen hq hi h0 (by omega) (by omega) hna
  have hne : q ≠ i := fun e => hna (e ▸ .refl)
  have hkl : kLen T q i = (wo (ndA T q).ki i).length := by unfold kLen; rw [cut_ki hd hi hq hne]
  by_cases hc : c < 0 ∨ (kLen T q i : Int) < c
  · refine .inl ⟨5, by decide, by decide, fun w F h hG => c_Put_place h hG hd hlen hq hi (.inr (.inr (.inr hc))), fun w G h => ?_⟩
    obtain ⟨τ, h⟩ := h.rs
    rw [hkl] at hc
    exact c_rPut_place h c hd hlen hq hi h0 (by omega) (by omega) hna hc
  obtain ⟨m, rfl⟩ : ∃ m : Nat, c = (m : Int) := ⟨c.toNat, by omega⟩
  refine .inr ⟨putG T q i m, ⟨hg.gd.put hq hi hna, hg.kd.of (putG_len _ _ _ _) (fun j => by unfold putG; rw [k_putE2, k_cutE2]), by rw [putG_len]; exact hg.pos⟩, fun w F h => c_PutAny h hd (by omega) hlen hq hi h0 (by omega) hna (by unfold kLen at hc; omega), fun w G h => h.chg hg.pos fun τ xs h => ?_⟩
  exact c_rPut h hd hlen (hg.gd.few hn) (by rw [List.length_map]; exact hD) hq hi h0 (by omega) (by omega) hna (by rw [hkl] at hc; omega)
theorem KdOk.own {T : List Nod} {i : Nat} {y : Nod} (h : KdOk T) (hy : y.k = (ndA T i).k) : KdOk (T.set i y) := h.of (by simp) (k_set2 hy)
theorem j_Set (hg : Gk T n) (hn : n ≤ 1000) (hD : D.length ≤ 1000000) (a : Int) (nm v : ByteArray) (hs : nm.size ≤ maxLen) (hv : v.size ≤ maxLen) : JC B Rt R p T D n 30 31 #[.pointer (some ⟨Rt, 0, none⟩), .int .i64 a, .string nm, .string v] #[.pointer (some ⟨R, 0, none⟩), .int .i64 a, .string nm, .string v, .bool false] .nilIface (.int .i64 0) (erP1 p) erR1 := by
  have hlen := hg.gd.len
  by_cases ha : a < 0 ∨ (T.length : Int) ≤ a
  · refine .inl ⟨4, by decide, by decide, fun w F h hG => (c_Set_no h hG hlen ha nm v).mono fun _ _ he => he.b, fun w G h => ?_⟩
    obtain ⟨τ, h⟩ := h.rs
    exact c_rSet_no h a ha hlen nm v false
  obtain ⟨i, rfl⟩ : ∃ i : Nat, a = (i : Int) := ⟨a.toNat, by omega⟩
  have hi : i < T.length := by omega
  have hx := ndA_get hi
  by_cases hk : (ndA T i).k = 2
  case neg =>
    refine .inl ⟨5, by decide, by decide, fun w F h hG => (c_Set_kind h hG hlen hx hk nm v).mono fun _ _ he => he.b, fun w G h => ?_⟩
    obtain ⟨τ, h⟩ := h.rs
    exact c_rSet_kind h hi hlen nm v false hk
  cases hm : isNm nm with
  | false =>
    refine .inl ⟨3, by decide, by decide, fun w F h hG => (c_Set_name h hG hlen hx hk nm v hs hm).mono fun _ _ he => he.b, fun w G h => ?_⟩
    obtain ⟨τ, h⟩ := h.rs
    exact c_rSet_name h hi hlen (hg.gd.few hn) nm v hs hk hm
  | true =>
    by_cases hv2 : v.size ≤ 20000
    case neg =>
      refine .inl ⟨2, by decide, by decide, fun w F h hG => (c_Set_long h hG hlen hx hk nm v hs hm hv (by omega)).mono fun _ _ he => he.b, fun w G h => ?_⟩
      obtain ⟨τ, h⟩ := h.rs
      exact c_rSet_long h hi hlen (hg.gd.few hn) nm v hs hk hm (by omega)
    have hal := hg.gd.at_ i
    refine .inr ⟨T.set i { ndA T i with at_ := setA (ndA T i).at_ nm v }, ⟨hg.gd.own hi rfl rfl ?_, hg.kd.own rfl, by rw [List.length_set]; exact hg.pos⟩, fun w F h => c_Set h (by omega) hlen hx hk (by omega) nm v hs hm hv2, fun w G h => h.chg hg.pos fun τ xs h => ?_⟩
    · have := setA_len (ndA T i).at_ nm v
      show (setA (ndA T i).at_ nm v).length ≤ _
      omega
    · rcases fnd_spec (ndA T i).at_ nm with ⟨hf, _⟩ | ⟨k, hf, q, hq, _⟩
      · exact c_rSetMiss h hlen (hg.gd.few hn) (by rw [List.length_map]; exact hD) hi nm v hs hk hm hv2 hf
      · exact c_rSetHit h hlen (hg.gd.few hn) (by rw [List.length_map]; exact hD) hi nm v hs hk hm hv2 hf hq
theorem j_Unset (hg : Gk T n) (hn : n ≤ 1000) (hD : D.length ≤ 1000000) (a : Int) (nm : ByteArray) : JC B Rt R p T D n 32 31 #[.pointer (some ⟨Rt, 0, none⟩), .int .i64 a, .string nm] #[.pointer (some ⟨R, 0, none⟩), .int .i64 a, .string nm, .string ByteArray.empty, .bool true] .nilIface (.int .i64 0) (erP1 p) erR1 := by
  have hlen := hg.gd.len
  by_cases ha : a < 0 ∨ (T.length : Int) ≤ a
  · refine .inl ⟨4, by decide, by decide, fun w F h hG => c_Unset_no h hG hlen ha nm, fun w G h => ?_⟩
    obtain ⟨τ, h⟩ := h.rs
    exact c_rSet_no h a ha hlen nm _ true
  obtain ⟨i, rfl⟩ : ∃ i : Nat, a = (i : Int) := ⟨a.toNat, by omega⟩
  have hi : i < T.length := by omega
  have hx := ndA_get hi
  have hal := hg.gd.at_ i
  by_cases hk : (ndA T i).k = 2
  case neg =>
    refine .inl ⟨5, by decide, by decide, fun w F h hG => c_Unset_kind h hG hlen hx hk nm, fun w G h => ?_⟩
    obtain ⟨τ, h⟩ := h.rs
    exact c_rSet_kind h hi hlen nm _ true hk
  rcases fnd_spec (ndA T i).at_ nm with ⟨hf, _⟩ | ⟨k, hf, q, hq, _⟩
  · refine .inl ⟨3, by decide, by decide, fun w F h hG => c_Unset_name h hG hlen hx hk (by omega) nm hf, fun w G h => ?_⟩
    obtain ⟨τ, h⟩ := h.rs
    exact c_rDrop_no h hi hlen (hg.gd.few hn) nm _ hk hf
  · have hkl := (List.getElem?_eq_some_iff.1 hq).1
    refine .inr ⟨T.set i (atN (ndA T i) ((ndA T i).at_.eraseIdx k)), ⟨hg.gd.own hi rfl rfl ?_, hg.kd.own rfl, by rw [List.length_set]; exact hg.pos⟩, fun w F h => c_Unset h (by omega) hlen hx hk (by omega) nm hf hkl, fun w G h => h.chg hg.pos fun τ xs h => ?_⟩
    · show ((ndA T i).at_.eraseIdx k).length ≤ _
      rw [List.length_eraseIdx_of_lt hkl]
      omega
    · exact c_rDrop h hlen (hg.gd.few hn) (by rw [List.length_map]; exact hD) hi nm _ hk hf hkl
theorem j_Say (hg : Gk T n) (hn : n ≤ 1000) (hD : D.length ≤ 1000000) (a : Int) (s : ByteArray) (hs : s.size ≤ maxLen) : JC B Rt R p T D n 33 34 #[.pointer (some ⟨Rt, 0, none⟩), .int .i64 a, .string s] #[.pointer (some ⟨R, 0, none⟩), .int .i64 a, .string s] .nilIface (.int .i64 0) (erP1 p) erR1 := by
  have hlen := hg.gd.len
  by_cases ha : a < 0 ∨ (T.length : Int) ≤ a
  · refine .inl ⟨4, by decide, by decide, fun w F h hG => c_Say_no h hG hlen ha s, fun w G h => ?_⟩
    obtain ⟨τ, h⟩ := h.rs
    exact c_rSay_no h a ha hlen s
  obtain ⟨i, rfl⟩ : ∃ i : Nat, a = (i : Int) := ⟨a.toNat, by omega⟩
  have hi : i < T.length := by omega
  have hx := ndA_get hi
  by_cases hk : (ndA T i).k = 3 ∨ (ndA T i).k = 4
  case neg =>
    refine .inl ⟨5, by decide, by decide, fun w F h hG => c_Say_bad h hG hlen hx s hk, fun w G h => ?_⟩
    obtain ⟨τ, h⟩ := h.rs
    exact c_rSay_bad h hi hlen s (fun e => hk (.inl e)) (fun e => hk (.inr e))
  by_cases hs2 : s.size ≤ 20000
  · refine .inr ⟨T.set i (txN (ndA T i) s), ⟨hg.gd.own hi rfl rfl (Nat.le_trans (hg.gd.at_ i) (by omega)), hg.kd.own rfl, by rw [List.length_set]; exact hg.pos⟩, fun w F h => c_Say h (by omega) hlen hx hk s hs2, fun w G h => h.chg hg.pos fun τ xs h => ?_⟩
    exact c_rSay h hlen (hg.gd.few hn) (by rw [List.length_map]; exact hD) hi s hk hs2
  · refine .inl ⟨2, by decide, by decide, fun w F h hG => c_Say_long h hG hlen hx s hk (by omega) hs, fun w G h => ?_⟩
    obtain ⟨τ, h⟩ := h.rs
    exact c_rSay_long h hi hlen s hk (by omega) hs
theorem j_Copy (hg : Gk T n) (hn : n ≤ 1000) (hD : D.length ≤ 1000000) (a : Int) : JC B Rt R p T D n 35 36 #[.pointer (some ⟨Rt, 0, none⟩), .int .i64 a] #[.pointer (some ⟨R, 0, none⟩), .int .i64 a] (.tuple #[.int .i64 (T.length : Int), .nilIface]) (.tuple #[.int .i64 (T.length : Int), .int .i64 0]) (erP2 p) erR2 := by
  have hlen := hg.gd.len
  by_cases ha : a < 0 ∨ (T.length : Int) ≤ a
  · refine .inl ⟨4, by decide, by decide, fun w F h hG => c_Copy_no h hG hlen ha, fun w G h => ?_⟩
    obtain ⟨τ, h⟩ := h.rs
    exact c_rCopy_no h a ha hlen
  obtain ⟨i, rfl⟩ : ∃ i : Nat, a = (i : Int) := ⟨a.toNat, by omega⟩
  have hi : i < T.length := by omega
  obtain ⟨d, hd⟩ := hg.gd.wf
  obtain ⟨Dm, hDm⟩ := tree_deep (T := T) d
  by_cases h0 : i = 0
  · subst h0
    refine .inl ⟨5, by decide, by decide, fun w F h hG => c_Copy_root h hG hlen hi, fun w G h => ?_⟩
    obtain ⟨τ, h⟩ := h.rs
    exact c_rCopy_root h hi hlen
  by_cases hl : T.length + (und T (Dm + 1) i).length ≤ 400
  case neg =>
    refine .inl ⟨2, by decide, by decide, fun w F h hG => c_Copy_big h hG hd hDm hlen hi h0 (by omega), fun w G h => ?_⟩
    obtain ⟨τ, h⟩ := h.rs
    exact c_rCopy_big h hd hDm hlen hi h0 (by omega)
  have hcp := cpF_ok hd (Dm + 1) T i (-1) (Ext.refl T) hi
  have hrc := rc_copy hd (Dm + 1) i hi
  refine .inr ⟨cpF (Dm + 1) T i (-1), ⟨⟨wf_of_cp hd hcp, by rw [hcp.len]; exact hl, fun j => Nat.le_trans (cpF_at (fun l => l.length ≤ n) (Dm + 1) T i (-1) hg.gd.at_ j) (by omega)⟩, ?_, by rw [hcp.len]; have := hg.pos; omega⟩, fun w F h => c_Copy h hd hDm (by omega) hlen hi h0 hl, fun w G h => h.chg hg.pos fun τ xs h => ?_⟩
  · rw [← hrc]
    exact rcA_k hg.kd _ (fun x hx => (und_mem hd _ i hi x hx).1) _ (Nat.le_refl _)
  · rw [← hrc]
    exact c_rCopy h hd hDm hlen (hg.gd.few hn) (by rw [List.length_map]; exact hD) hi h0 hl
end
end Go.Proofs.YtimlmekgapdkiaaGreatDoor
