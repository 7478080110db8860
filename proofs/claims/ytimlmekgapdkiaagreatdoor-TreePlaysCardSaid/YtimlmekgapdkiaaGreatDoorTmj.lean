/- the tree: Set; the tree: Set that fails; whether a node lies in another one -/
import Derived.Test.YtimlmekgapdkiaaGreatDoorTmh
namespace Go.Proofs.YtimlmekgapdkiaaGreatDoor
set_option linter.unusedVariables false
set_option linter.unusedSimpArgs false
open Go.RowKit Go.Cas

def setA (l : List (ByteArray × ByteArray)) (n v : ByteArray) : List (ByteArray × ByteArray) :=
  if fnd l n < 0 then l ++ [(n, v)] else l.set (fnd l n).toNat ((l.getD (fnd l n).toNat (n, v)).1, v)
theorem setA_hit {l : List (ByteArray × ByteArray)} {n v : ByteArray} {k : Nat} {p : ByteArray × ByteArray} (h : fnd l n = (k : Int)) (hp : l[k]? = some p) : setA l n v = l.set k (p.1, v) := by
  unfold setA
  rw [h, if_neg (by omega)]
  have : ((k : Int)).toNat = k := rfl
  rw [this, List.getD_eq_getElem?_getD, hp]; rfl
theorem setA_miss {l : List (ByteArray × ByteArray)} {n v : ByteArray} (h : fnd l n = -1) : setA l n v = l ++ [(n, v)] := by
  unfold setA
  rw [h, if_pos (by omega)]
theorem atc_set {l : List (ByteArray × ByteArray)} {k : Nat} {p : ByteArray × ByteArray} (hp : l[k]? = some p) (v : ByteArray) : (atc l).set (k * 2 + 1) (.string v) = atc (l.set k (p.1, v)) :=
  flat_set (fun p : ByteArray × ByteArray => ([.string p.1, .string p.2] : List Value)) 2 (fun _ => rfl) l k 1 p (p.1, v) (.string v) hp (by omega) rfl
theorem atc_snoc (l : List (ByteArray × ByteArray)) (p : ByteArray × ByteArray) : atc (l ++ [p]) = atc l ++ [.string p.1, .string p.2] := by simp [atc]
theorem own_mono {w : World} {base base' : Nat} {e : TypeId} {size n : Nat} {v : Value} {xs : List Value} (h : w.ownsRow base e size v n xs) (hb : base' ≤ base) : w.ownsRow base' e size v n xs := by
  refine ⟨h.1, ?_⟩
  rcases h.2 with h | ⟨g, cap, cur, e1, h1, h2⟩
  · exact .inl h
  · exact .inr ⟨g, cap, cur, e1, by omega, h2⟩
def StRet (B R : Nat) (T' T : List Nod) (D : List (Value × List Nod)) (F : Nat → Prop) (w : World) (e : Ending) (w' : World) : Prop := e = .returned .nilIface ∧ ∃ u, TOp B R T' ((u, T) :: D) F w w'
theorem AtRet.st {B R : Nat} {T T0 : List Nod} {D : List (Value × List Nod)} {F : Nat → Prop} {v' : Value} {w w3 : World} {e : Ending} {w' : World} (h : AtRet B R T T0 D F v' w3 e w') (hb : Below w.heap.size w w3) (hv : ∀ g, v'.ownBlock = some g → w.heap.size ≤ g) : (∃ u, e = .returned u) ∧ ∃ u, TOp B R T ((u, T0) :: D) F w w' := by
  obtain ⟨h1, u, F', h2, h3, h4⟩ := h
  refine ⟨h1, u, F', h2, fun k hk hf => ?_, (Kept.of_below hb F).then_ h4 (fun _ _ e => e)⟩
  rcases h3 k (Nat.lt_of_lt_of_le hk hb.size) hf with e | e
  · exact e
  · have := hv k e; omega
set_option maxRecDepth 100000 in
set_option maxHeartbeats 8000000 in
theorem c_Set {w : World} {B R i : Nat} {F : Nat → Prop} {T : List Nod} {D : List (Value × List Nod)} {x : Nod} (h : TS B R T D F w) (hD : D.length ≤ 1000000000000) (hT : T.length ≤ 400) (hx : T[i]? = some x) (hk : x.k = 2) (hlen : x.at_.length ≤ 100000000)
    (nm val : ByteArray) (hs : nm.size ≤ maxLen) (hn : isNm nm = true) (hv : val.size ≤ 20000) :
    Calls Tryz.prog 30 #[.pointer (some ⟨R, 0, none⟩), .int .i64 (i : Int), .string nm, .string val] w (StRet B R (T.set i { x with at_ := setA x.at_ nm val }) T D F w) := by
  have HE := Lib.hid (c_element h hT hx hk)
  have HNM := Lib.hid (c_Name nm w hs)
  rw [hn] at HNM
  have hvi : (val.size : Int) ≤ 20000 := by omega
  have HTS := Lib.hid h
  have HX := Lib.hid hx
  have HD := Lib.hid hD
  have HT := Lib.hid hT
  obtain ⟨L, cap, uv, Z, M, h1, hM, hZF⟩ := h.ns
  obtain ⟨y, hy, rfl⟩ := nv_get hM hx
  have hl : M.length ≤ 400 := by rw [← hM] at hT; simpa using hT
  have hi := (List.getElem?_eq_some_iff.1 hy).1
  have hii : (i : Int) < (M.length : Int) := by omega
  have h0i : 0 ≤ (i : Int) := by omega
  obtain ⟨g0, _⟩ := h1.heads
  have hr := h1.ltR
  have hrL := h1.ltL
  obtain ⟨_, a3, _, _⟩ := h1.cell hy
  have hrd := (h1.rd y (List.mem_of_getElem? hy)).1.toS (fun k hz => (h1.z k hz).2.1)
  have HCL := Lib.hid (c_CloneA hrd (one_atc _) (by omega) (Nat.le_refl _))
  obtain ⟨va, hva⟩ : ∃ va, va = y.va := ⟨_, rfl⟩
  rw [← hva] at a3 HCL hrd
  obtain ⟨_, A2, c2, rfl, _, _⟩ := hrd
  have HLEN := Lib.hid hlen
  have hBw : B ≤ w.heap.size := Nat.le_trans h1.geo.1 (Nat.le_of_lt hr)
  have HBW := Lib.hid hBw
  clear h h1 hM hx hy hk hn hs hv hva hZF hD hT hlen hBw
  go_enter Tryz.func30, Tryz.ntmps30
  go_upto_region 9 with (first | (go_at_call 60; refine (HE.out).mono ?_; rintro e w' ⟨rfl, rfl⟩) | (go_at_call 48; refine (HNM.out).mono ?_; rintro e w' ⟨rfl, rfl⟩) | (go_at_call 46; refine (HCL.out).mono ?_; rintro e w1 ⟨v1, rfl, ho1, hb1⟩; have HO1 := Lib.hid ho1; have HB1 := Lib.hid hb1; clear ho1 hb1))
  have hrd1 := RdS.of_own HO1.out
  have HFD := Lib.hid (c_find (s := nm) hrd1 (by have := HLEN.out; omega) (Nat.le_refl _))
  obtain ⟨ats, hats⟩ : ∃ ats, ats = y.x.at_ := ⟨_, rfl⟩
  have HATS := Lib.hid hats
  rw [← hats] at HO1 HFD hrd1 HLEN
  have hnl : Hid (∀ g, v1.ownBlock = some g → w.heap.size ≤ g) := fun g hg => (own_lt HO1.out hg).1
  obtain ⟨_, A1, c1, rfl, _, _⟩ := hrd1
  clear HCL HE HNM g0 hr hrL a3 hi hats
  rcases fnd_spec ats nm with ⟨hf, _⟩ | ⟨k, hf, p, hp, _⟩
  · have HSA := Lib.hid (setA_miss (v := val) hf)
    rw [hf] at HFD
    clear hf
    go_upto_region 12 with ((go_at_call 61; refine (HFD.out).mono ?_; rintro e w2 ⟨rfl, hb2⟩; have HB2 := Lib.hid hb2; clear hb2))
    have ho2 := own_keep HO1.out (fun k hk => HB2.out.block k (own_lt HO1.out hk).2)
    have HO2 := Lib.hid ho2
    have hb0 : w.heap.size ≤ w2.heap.size := Nat.le_trans HB1.out.size HB2.out.size
    have hlb : ats.length ≤ 100000000 := HLEN.out
    clear ho2
    go_upto_region 13 with (at_builtin; refine wp_push rfl _ _ 37 rfl w.heap.size 79 Tryz.underlying37 inf_A rfl (by decide) w2 (.slice A1 ats.length c1) ats.length (atc ats) [.string nm, .string val] rfl rfl rfl HO2.out rfl (by simp [Value.oneCell']) (by omega) (by omega) hb0 ?_; intro v5 w5 hpush; have HPU := Lib.hid hpush; clear hpush)
    have hp := HPU.out
    have htb : TS B R T D F w2 := HTS.out.below (bl_trans HB1.out HB2.out)
    have ht5 : TS B R T D F w5 := htb.kept (Kept.grown hp.grown (fun k => (Value.slice A1 ats.length c1).ownBlock = some k) (fun k e => e)) (fun k e => HTS.out.new_ (hnl.out k e))
    have ho5 : w5.ownsRow B 79 2 v5 (ats ++ [(nm, val)]).length (atc (ats ++ [(nm, val)])) := by
      rw [atc_snoc, List.length_append]
      exact own_mono hp.own HBW.out
    have hn5 : ∀ g, v5.ownBlock = some g → w.heap.size ≤ g := fun g hg => by
      rcases hp.at_ with e | ⟨j, hj, e⟩
      · exact hnl.out g (e ▸ hg)
      · rw [e] at hg; injection hg with hg; omega
    have HAT := Lib.hid (c_attrs ht5 HD.out HT.out HX.out ho5 (fun g hg => HTS.out.new_ (hn5 g hg)))
    have HB5 : Hid (Below w.heap.size w w5) := by
      exact (bl_trans HB1.out HB2.out).grown hp.grown hb0 (fun k hk => hnl.out k hk)
    have HN5 := Lib.hid hn5
    clear hp htb ht5 ho5 hn5
    go_wp2_with ((go_at_call 62; refine (HAT.out).mono ?_; rintro e w6 hst; have HST := Lib.hid (hst.st HB5.out HN5.out); clear hst; obtain ⟨⟨u, rfl⟩, _⟩ := HST.out))
    go_ret
    refine ⟨rfl, ?_⟩
    rw [← HATS.out, HSA.out]
    exact HST.out.2
  · have HSA := Lib.hid (setA_hit (v := val) hf hp)
    rw [hf] at HFD
    have hkl := (List.getElem?_eq_some_iff.1 hp).1
    have HP := Lib.hid hp
    clear hf hp
    go_upto_region 11 with ((go_at_call 61; refine (HFD.out).mono ?_; rintro e w2 ⟨rfl, hb2⟩; have HB2 := Lib.hid hb2; clear hb2))
    have ho2 := own_keep HO1.out (fun k hk => HB2.out.block k (own_lt HO1.out hk).2)
    obtain ⟨gg, cg, eg, hgg, hgl⟩ := ho2.form (by omega)
    injection eg with eg1 _ eg2
    subst eg1 eg2
    have HO2 := Lib.hid ho2
    have hck := (ho2.cells (g := gg) rfl (k * 2 + 1) (.string p.2) (by unfold atc; rw [flat_get (fun p : ByteArray × ByteArray => ([.string p.1, .string p.2] : List Value)) 2 (fun _ => rfl) ats k 1 p HP.out (by omega)]; rfl))
    rw [add_none, Nat.zero_add] at hck
    have hfk := own_free ho2 (k * 2 + 1)
    have hki : (k : Int) < (ats.length : Int) := by omega
    have h0k : 0 ≤ (k : Int) := by omega
    clear ho2
    go_upto_region 13 with fail
    obtain ⟨w5, hw5⟩ : ∃ w5, w5 = w2.setCell ⟨gg, k * 2 + 1, none⟩ (.string val) := ⟨_, rfl⟩
    rw [← hw5]
    have hb0 : w.heap.size ≤ w2.heap.size := Nat.le_trans HB1.out.size HB2.out.size
    have htb : TS B R T D F w2 := HTS.out.below (bl_trans HB1.out HB2.out)
    have ht5 : TS B R T D F w5 := by rw [hw5]; exact htb.set_ (HTS.out.new_ hgg) _ _
    have ho5 : w5.ownsRow B 79 2 (.slice (some ⟨gg, 0, none⟩) ats.length c1) (ats.set k (p.1, val)).length (atc (ats.set k (p.1, val))) := by
      rw [hw5, ← atc_set HP.out, List.length_set]
      exact own_mono (own_setN HO2.out _ _) HBW.out
    have HAT := Lib.hid (c_attrs ht5 HD.out HT.out HX.out ho5 (fun g hg => HTS.out.new_ (hnl.out g hg)))
    have HB5 : Hid (Below w.heap.size w w5) := by
      rw [hw5]; exact bl_set (bl_trans HB1.out HB2.out) gg _ hgg _
    clear htb ht5 ho5 hck hfk hw5
    go_wp2_with ((go_at_call 62; refine (HAT.out).mono ?_; rintro e w6 hst; have HST := Lib.hid (hst.st HB5.out hnl.out); clear hst; obtain ⟨⟨u, rfl⟩, _⟩ := HST.out))
    go_ret
    refine ⟨rfl, ?_⟩
    rw [← HATS.out, HSA.out]
    exact HST.out.2
end Go.Proofs.YtimlmekgapdkiaaGreatDoor
namespace Go.Proofs.YtimlmekgapdkiaaGreatDoor
set_option linter.unusedVariables false
set_option linter.unusedSimpArgs false
open Go.RowKit Go.Cas

theorem c_Set_no {w : World} {B R : Nat} {F : Nat → Prop} {T : List Nod} {D : List (Value × List Nod)} {a : Int} {p : Nat → Addr} (h : TS B R T D F w) (hG : GE w B p) (hT : T.length ≤ 400) (ha : a < 0 ∨ (T.length : Int) ≤ a) (nm val : ByteArray) :
    Calls Tryz.prog 30 #[.pointer (some ⟨R, 0, none⟩), .int .i64 a, .string nm, .string val] w (ErrR p 4 w) := by
  have HE := Lib.hid (c_element_no h hG hT ha)
  unfold ErrR errV at HE
  clear h hG ha
  go_enter Tryz.func30, Tryz.ntmps30
  go_wp2_with (go_at_call 60; refine (HE.out).mono ?_; rintro e w' ⟨rfl, rfl⟩)
  go_ret
  exact ⟨rfl, rfl⟩
theorem c_Set_kind {w : World} {B R i : Nat} {F : Nat → Prop} {T : List Nod} {D : List (Value × List Nod)} {x : Nod} {p : Nat → Addr} (h : TS B R T D F w) (hG : GE w B p) (hT : T.length ≤ 400) (hx : T[i]? = some x) (hk : x.k ≠ 2) (nm val : ByteArray) :
    Calls Tryz.prog 30 #[.pointer (some ⟨R, 0, none⟩), .int .i64 (i : Int), .string nm, .string val] w (ErrR p 5 w) := by
  have HE := Lib.hid (c_element_kind h hG hT hx hk)
  unfold ErrR errV at HE
  clear h hG hx hk
  go_enter Tryz.func30, Tryz.ntmps30
  go_wp2_with (go_at_call 60; refine (HE.out).mono ?_; rintro e w' ⟨rfl, rfl⟩)
  go_ret
  exact ⟨rfl, rfl⟩
theorem c_Set_name {w : World} {B R i : Nat} {F : Nat → Prop} {T : List Nod} {D : List (Value × List Nod)} {x : Nod} {p : Nat → Addr} (h : TS B R T D F w) (hG : GE w B p) (hT : T.length ≤ 400) (hx : T[i]? = some x) (hk : x.k = 2) (nm val : ByteArray) (hs : nm.size ≤ maxLen) (hn : isNm nm = false) :
    Calls Tryz.prog 30 #[.pointer (some ⟨R, 0, none⟩), .int .i64 (i : Int), .string nm, .string val] w (ErrR p 3 w) := by
  have HE := Lib.hid (c_element h hT hx hk)
  have HNM := Lib.hid (c_Name nm w hs)
  rw [hn] at HNM
  have e1 := hG.name_
  have e2 : 0 < w.heap.size := by have := hG.lt; omega
  clear h hG hx hk hs hn
  go_enter Tryz.func30, Tryz.ntmps30
  go_wp2_with (first | (go_at_call 60; refine (HE.out).mono ?_; rintro e w' ⟨rfl, rfl⟩) | (go_at_call 48; refine (HNM.out).mono ?_; rintro e w' ⟨rfl, rfl⟩))
  go_ret
  exact ⟨rfl, rfl⟩
theorem c_Set_long {w : World} {B R i : Nat} {F : Nat → Prop} {T : List Nod} {D : List (Value × List Nod)} {x : Nod} {p : Nat → Addr} (h : TS B R T D F w) (hG : GE w B p) (hT : T.length ≤ 400) (hx : T[i]? = some x) (hk : x.k = 2) (nm val : ByteArray) (hs : nm.size ≤ maxLen) (hn : isNm nm = true) (hvs : val.size ≤ maxLen) (hv : 20000 < val.size) :
    Calls Tryz.prog 30 #[.pointer (some ⟨R, 0, none⟩), .int .i64 (i : Int), .string nm, .string val] w (ErrR p 2 w) := by
  have HE := Lib.hid (c_element h hT hx hk)
  have HNM := Lib.hid (c_Name nm w hs)
  rw [hn] at HNM
  have e1 := hG.bound
  have e2 : 3 < w.heap.size := by have := hG.lt; omega
  have q : (20000 : Int) < (val.size : Int) := by omega
  unfold maxLen at hvs
  clear h hG hx hk hs hn hv
  go_enter Tryz.func30, Tryz.ntmps30
  go_wp2_with (first | (go_at_call 60; refine (HE.out).mono ?_; rintro e w' ⟨rfl, rfl⟩) | (go_at_call 48; refine (HNM.out).mono ?_; rintro e w' ⟨rfl, rfl⟩))
  go_ret
  exact ⟨rfl, rfl⟩
/-- how far the way up is -/
def wm (d : Nat → Nat) (a : Int) : Nat := if a < 0 then 0 else d a.toNat + 1
set_option maxRecDepth 100000 in
set_option maxHeartbeats 4000000 in
theorem c_within {w : World} {B R i p : Nat} {F : Nat → Prop} {T : List Nod} {d : Nat → Nat} {D : List (Value × List Nod)} (h : TS B R T D F w) (hW : WF T d) (hT : T.length ≤ 400) (hp : p < T.length) :
    Calls Tryz.prog 52 #[.pointer (some ⟨R, 0, none⟩), .int .i64 (p : Int), .int .i64 (i : Int)] w fun e w' => e = .returned (.bool (ancB T i p)) ∧ w = w' := by
  obtain ⟨L, cap, uv, Z, M, h1, hM, _⟩ := h.ns
  have hl : M.length = T.length := by rw [← hM]; simp
  obtain ⟨g0, _⟩ := h1.heads
  have hr := h1.ltR
  have hrL := h1.ltL
  have H1 := Lib.hid h1
  have HM := Lib.hid hM
  have HW := Lib.hid hW
  have HLL := Lib.hid hl
  have hl4 : M.length ≤ 400 := by omega
  have hpM : p < M.length := by omega
  clear h h1 hM hW hl hT hp
  go_enter Tryz.func52, Tryz.ntmps52
  go_wp2_with fail
  go_loop [1] (fun c => ∃ (a : Int), c = .int .i64 a ∧ Hid ((a < 0 ∧ ¬ Anc T i p) ∨ (∃ q : Nat, a = (q : Int) ∧ q < M.length ∧ (Anc T i q ↔ Anc T i p)))) (fun c => wm d (intOf c))
  case atStart => exact ⟨(p : Int), rfl, .inr ⟨p, rfl, hpM, Iff.rfl⟩⟩
  case round =>
    obtain ⟨a, rfl, HR⟩ := hrel
    by_cases ha : a < 0
    · have ha2 : ¬ 0 ≤ a := by omega
      have HF : Hid (ancB T i p = false) := by
        rcases HR.out with ⟨_, h⟩ | ⟨q, e, _⟩
        · exact ancB_false.2 h
        · omega
      clear ha
      go_wp2_with fail
      go_ret
      exact ⟨ret_bool HF.out.symm, rfl⟩
    · obtain ⟨q, rfl, hq, hiff⟩ : ∃ q : Nat, a = (q : Int) ∧ q < M.length ∧ (Anc T i q ↔ Anc T i p) := by
        rcases HR.out with ⟨e, _⟩ | h
        · omega
        · exact h
      have HI := Lib.hid hiff
      obtain ⟨y, hy⟩ : ∃ y, M[q]? = some y := ⟨_, List.getElem?_eq_getElem hq⟩
      have HY := Lib.hid hy
      obtain ⟨_, _, a4, _⟩ := H1.out.cell hy
      have hqi : (q : Int) < (M.length : Int) := by omega
      have h0q : 0 ≤ (q : Int) := by omega
      have hyx : ndA T q = y.x := ndA_eq (by rw [← HM.out, List.getElem?_map, HY.out]; rfl)
      have HYX := Lib.hid hyx
      by_cases he : q = i
      · have HF : Hid (ancB T i p = true) := ancB_true.2 (HI.out.1 (by rw [he]; exact .refl))
        have hei : (q : Int) = (i : Int) := by omega
        have hei2 : ((q : Int) == (i : Int)) = true := by rw [beq_iff_eq]; exact hei
        clear hiff hy hyx ha
        go_wp2_with fail
        go_ret
        exact ⟨ret_bool HF.out.symm, rfl⟩
      · have hei : ¬ (q : Int) = (i : Int) := by omega
        have hei2 : ((q : Int) == (i : Int)) = false := by rw [beq_eq_false_iff_ne]; exact hei
        have HNE := Lib.hid he
        obtain ⟨pa, hpa⟩ : ∃ pa, pa = y.x.pa := ⟨_, rfl⟩
        have HPA := Lib.hid hpa
        rw [← hpa] at a4
        clear hiff hy hyx ha hpa he
        go_wp2_with fail
        go_round
        case rel =>
          refine ⟨pa, rfl, ?_⟩
          by_cases h0 : pa < 0
          · refine .inl ⟨h0, fun h => anc_root ?_ HNE.out (HI.out.2 h)⟩
            rw [HYX.out, ← HPA.out]; exact h0
          · have hqT : q < T.length := by have := HLL.out; omega
            have hpq : (ndA T q).pa = ((pa.toNat : Nat) : Int) := by rw [HYX.out, ← HPA.out]; omega
            refine .inr ⟨pa.toNat, by omega, ?_, ?_⟩
            · rcases HW.out.pa q hqT with e | ⟨_, e⟩
              · omega
              · rw [hpq] at e; have := HLL.out; omega
            · exact (anc_up hpq HNE.out).symm.trans HI.out
        case measure =>
          show wm d pa < wm d (q : Int)
          unfold wm
          rw [if_neg (by omega : ¬ (q : Int) < 0)]
          by_cases h0 : pa < 0
          · rw [if_pos h0]; omega
          · rw [if_neg h0]
            have hqT : q < T.length := by have := HLL.out; omega
            have := HW.out.ac q hqT (by rw [HYX.out, ← HPA.out]; omega)
            rw [HYX.out, ← HPA.out] at this
            have e : ((q : Int)).toNat = q := rfl
            rw [e]; omega
end Go.Proofs.YtimlmekgapdkiaaGreatDoor
