/- the tree of a list of twigs: the program's plain.Tree -/
import Derived.Test.YtimlmekgapdkiaaDoorTmu
namespace Go.Proofs.YtimlmekgapdkiaaDoor
set_option linter.unusedVariables false
set_option linter.unusedSimpArgs false
open Go.RowKit Go.Cas

def cst (l : List Twg) : Nat := (l.map fun x => x.at_.length + x.ki.length + 4).sum
theorem cst_snoc (l : List Twg) (x : Twg) : cst (l ++ [x]) = cst l + (x.at_.length + x.ki.length + 4) := by simp [cst]
theorem cst_take_le (l : List Twg) (k : Nat) : cst (l.take k) ≤ cst l := by
  have : cst l = cst (l.take k) + cst (l.drop k) := by
    conv => lhs; rw [← List.take_append_drop k l]
    simp only [cst, List.map_append, List.sum_append]
  omega
def plainT (l : List Twg) : List Nod := topsW (twsW isNm setA [root0] 0 l) l.length
def TrRet (w : World) (xs : List Twg) (e : Ending) (w' : World) : Prop :=
  (e = .returned (.pointer none) ∧ (399 ≤ xs.length ∨ ∃ x ∈ xs, 20000 < x.txt.size) ∧ Below w.heap.size w w') ∨
  (∃ R F, e = .returned (.pointer (some ⟨R, 0, none⟩)) ∧ TS w.heap.size R (plainT xs) [] F w' ∧ TI (plainT xs) xs.length ∧ xs.length < 400 ∧ Below w.heap.size w w')
theorem TI0 : TI [root0] 0 := ⟨⟨fun _ => 0, ⟨fun i hi => by simp at hi; subst hi; exact .inl rfl, fun p hp k hk => by simp at hp; subst hp; simp [ndA, root0] at hk, fun p hp => by simp at hp; subst hp; simp [ndA, root0], fun i hi h0 => by simp at hi; subst hi; simp [ndA, root0] at h0, fun i hi h0 => by simp at hi; subst hi; simp [ndA, root0] at h0⟩⟩, rfl, rfl, rfl⟩
/-- what Element leaves -/
def ElA (w : World) (R : Nat) (T : List Nod) (D : List (Value × List Nod)) (F : Nat → Prop) (vt : Value) (k g : Nat) (o : Obj) (tag : ByteArray) (v7 v8 : Value) (wx : World) : Prop :=
  isNm tag = true ∧ T.length < 400 ∧ v7 = .int .i64 ((k : Int) + 1) ∧ v8 = .nilIface ∧ ∃ u F', PT w R (T ++ [newN 2 tag ByteArray.empty]) ((u, T) :: D) F' vt k wx ∧ Own wx F' g o
def ElB (w : World) (R : Nat) (T : List Nod) (D : List (Value × List Nod)) (F : Nat → Prop) (vt : Value) (k g : Nat) (o : Obj) (p : Nat → Addr) (tag : ByteArray) (v8 : Value) (wx : World) : Prop :=
  (isNm tag = false ∨ 400 ≤ T.length) ∧ (∃ q, v8 = errV p q) ∧ PT w R T D F vt k wx ∧ Own wx F g o
def ElMid (w : World) (R : Nat) (T : List Nod) (D : List (Value × List Nod)) (F : Nat → Prop) (vt : Value) (k g : Nat) (o : Obj) (p : Nat → Addr) (tag : ByteArray) (v7 v8 : Value) (wx : World) : Prop :=
  ElA w R T D F vt k g o tag v7 v8 wx ∨ ElB w R T D F vt k g o p tag v8 wx
def NdMid (w : World) (R : Nat) (T : List Nod) (D : List (Value × List Nod)) (vt : Value) (k g : Nat) (o : Obj) (p : Nat → Addr) (x : Twg) (v7 v8 : Value) (wx : World) : Prop :=
  (T.length < 400 ∧ v7 = .int .i64 ((k : Int) + 1) ∧ v8 = .nilIface ∧ ∃ D' F', D'.length ≤ D.length + 1 ∧ PT w R (T ++ [ndW isNm x]) D' F' vt k wx ∧ Own wx F' g o) ∨
  ((400 ≤ T.length ∨ 20000 < x.txt.size) ∧ v8 = errV p 2 ∧ Below w.heap.size w wx)
theorem own_bk {wr : World} {F : Nat → Prop} {g : Nat} {o : Obj} {t : TypeId} {cs : Array Value} (h : o = .cells cs t (0, 0)) (ho : Own wr F g o) : Bk wr g t cs := by rw [h] at ho; exact ho.1
set_option maxRecDepth 100000 in
set_option maxHeartbeats 32000000 in
theorem c_Tree {w : World} {v : Value} {n : Nat} {L : List TwV} {p : Nat → Addr} (hr : RdT w w.heap.size v n L) (hn : L.length = n) (hn2 : n ≤ 1000000000) (hG : GE w w.heap.size p) (hc : cst (L.map TwV.x) ≤ 10000000) :
    Calls Tryd.prog 12 #[v] w (TrRet w (L.map TwV.x)) := by
  have HR := Lib.hid hr
  have HNEW := Lib.hid (c_New w)
  have HG := Lib.hid hG
  have HC := Lib.hid hc
  have HN := Lib.hid hn
  obtain ⟨⟨_, A, c, rfl, _, _⟩, _⟩ := hr
  clear hG hc hn
  go_enter Tryd.func12, Tryd.ntmps12
  go_upto_region 6 with (go_at_call 16; refine (HNEW.out).mono ?_; rintro e w1 ⟨R, F0, rfl, hT0, hB0⟩; have HT0 := Lib.hid hT0; have HB0 := Lib.hid hB0; clear hT0 hB0)
  have HP0 : Hid (PT w R [root0] [] F0 (.slice none 0 0) 0 w1) := ⟨HT0.out, HB0.out, World.ownsRow_nil _ _ _ _, fun k e => by simp [Value.ownBlock] at e⟩
  go_loopw [4, 20] (fun vt a wr => ∃ (k : Nat) (T : List Nod) (D : List (Value × List Nod)) (F : Nat → Prop), a = .int .i64 (k : Int) ∧ k ≤ n ∧ Hid (PT w R T D F vt k wr) ∧ Hid (TI T k) ∧ Hid (T = twsW isNm setA [root0] 0 ((L.map TwV.x).take k)) ∧ Hid (D.length ≤ cst ((L.map TwV.x).take k)) ∧ k < 400) (fun _ a _ => n - (intOf a).toNat)
  case atStart => exact ⟨0, [root0], [], F0, rfl, by omega, HP0.out, TI0, rfl, by simp [Hid], by omega⟩
  case round =>
    obtain ⟨k, T, D, F, rfl, hk, HP, HTI, HTW, HDL, hk4⟩ := hrel
    by_cases hlt : k < n
    · have hik : (k : Int) < (n : Int) := by omega
      obtain ⟨y, hy⟩ : ∃ y, L[k]? = some y := ⟨_, List.getElem?_eq_getElem (by have := HN.out; omega)⟩
      obtain ⟨g, o, rfl, hg, hcell⟩ := rd_tw HR.out.1 hy
      obtain ⟨d0, d1, d2, d3, d4⟩ := hcell wr HP.out.bel
      have hyR := HR.out.2 y (List.mem_of_getElem? hy)
      have HYR := Lib.hid hyR
      have HY := Lib.hid hy
      obtain ⟨⟨_, A3, c3, e3, _, _⟩, ⟨_, A4, c4, e4, _, _⟩, _⟩ := hyR
      rw [e3] at d3
      rw [e4] at d4
      have HE3 := Lib.hid e3
      have HE4 := Lib.hid e4
      obtain ⟨xk, hxk⟩ : ∃ xk, xk = y.x.k := ⟨_, rfl⟩
      obtain ⟨xt, hxt⟩ : ∃ xt, xt = y.x.tag := ⟨_, rfl⟩
      obtain ⟨xx, hxx⟩ : ∃ xx, xx = y.x.txt := ⟨_, rfl⟩
      rw [← hxk] at d0
      rw [← hxt] at d1
      rw [← hxx] at d2
      have HXK := Lib.hid hxk
      have HXT := Lib.hid hxt
      have HXX := Lib.hid hxx
      clear hcell hy e3 e4 hxk hxt hxx
      go_upto_region 8 with fail
      obtain ⟨gb, hgb⟩ : ∃ gb, gb = wr.heap.size := ⟨_, rfl⟩
      obtain ⟨w2, hw2⟩ : ∃ w2, w2 = wr.alloc (.cells #[.int .i64 xk, .string xt, .string xx, .slice A3 y.x.at_.length c3, .slice A4 y.x.ki.length c4] 86) := ⟨_, rfl⟩
      rw [← hw2, ← hgb]
      have hP2 : PT w R T D F (vt := u4) k w2 := by rw [hw2]; exact HP.out.below (bl_alloc (Below.refl _ _) _)
      have hO2 : Own w2 F gb (.cells #[.int .i64 xk, .string xt, .string xx, .slice A3 y.x.at_.length c3, .slice A4 y.x.ki.length c4] 86 (0, 0)) := by
        refine ⟨by rw [hw2, hgb]; exact heap_alloc_new wr _, ?_⟩
        rw [hgb]; exact HP.out.ts.new_ (Nat.le_refl _)
      have hob2 : Bk w2 gb 86 #[.int .i64 xk, .string xt, .string xx, .slice A3 y.x.at_.length c3, .slice A4 y.x.ki.length c4] := hO2.1
      obtain ⟨ob, hob⟩ : ∃ ob : Obj, ob = .cells #[.int .i64 xk, .string xt, .string xx, .slice A3 y.x.at_.length c3, .slice A4 y.x.ki.length c4] 86 (0, 0) := ⟨_, rfl⟩
      rw [← hob] at hO2
      have HOB := Lib.hid hob
      have hlT : T.length = k + 1 := HTI.out.len
      have hTs : (xt.size ≤ maxLen ∧ xx.size ≤ maxLen) := by rw [HXT.out, HXX.out]; exact HYR.out.2.2.1
      have q1 := hob2.cell 0; have q2 := hob2.cell 1; have q3 := hob2.cell 2; have ql := hob2.lt
      have HP2 := Lib.hid hP2
      have HO2 := Lib.hid hO2
      have HTS := Lib.hid hTs
      have hDb : Hid (D.length ≤ 1000000000000) := by
        have h1 := HDL.out
        have h2 := cst_take_le (L.map TwV.x) k
        have h3 := HC.out
        unfold Hid; omega
      have HLT := Lib.hid hlT
      clear hgb hw2 hP2 hO2 hob2 hob hTs d0 d1 d2 d3 d4 hlT
      go_cut [7, 8] (fun v7 v8 wx => Hid (ElMid w R T D F u4 k gb ob p xt v7 v8 wx))
      case first =>
        by_cases hnm : isNm xt = true
        · by_cases hfl : T.length < 400
          · have HEL := Lib.hid (c_Element HP2.out.ts hDb.out xt hfl HTS.out.1 hnm)
            have HNF : Hid (isNm xt = true ∧ T.length < 400) := ⟨hnm, hfl⟩
            clear hnm hfl
            go_wp2_with (go_at_call 17; refine (HEL.out).mono ?_; rintro e w3 ⟨rfl, u, hop⟩; have HOP := Lib.hid hop; clear hop)
            go_meet
            obtain ⟨F', hP3, hs3⟩ := HP2.out.op HOP.out
            exact .inl ⟨HNF.out.1, HNF.out.2, by rw [HLT.out]; rfl, rfl, _, F', hP3, HO2.out.step hs3⟩
          · have HEL := Lib.hid (c_Element_full (p := p) HP2.out.ts (HG.out.below HP2.out.bel) xt (by have := HLT.out; omega) HTS.out.1 hnm)
            have HNF : Hid (400 ≤ T.length) := by unfold Hid; omega
            clear hnm hfl
            unfold ErRet errV at HEL
            go_wp2_with (go_at_call 17; refine (HEL.out).mono ?_; rintro e w3 ⟨rfl, hb⟩; have HBE := Lib.hid hb; clear hb)
            go_meet
            exact .inr ⟨.inr HNF.out, ⟨2, rfl⟩, HP2.out.below HBE.out, HO2.out.below HBE.out⟩
        · have hnm2 : isNm xt = false := by simpa using hnm
          have HEL := Lib.hid (c_Element_bad (R := R) (p := p) (HG.out.below HP2.out.bel) xt HTS.out.1 hnm2)
          have HNF := Lib.hid hnm2
          clear hnm hnm2
          unfold ErRet errV at HEL
          go_wp2_with (go_at_call 17; refine (HEL.out).mono ?_; rintro e w3 ⟨rfl, hb⟩; have HBE := Lib.hid hb; clear hb)
          go_meet
          exact .inr ⟨.inl HNF.out, ⟨3, rfl⟩, HP2.out.below HBE.out, HO2.out.below HBE.out⟩
      case rest =>
        obtain ⟨wq, rfl⟩ : ∃ wq : World, wq = wc := ⟨_, rfl⟩
        go_upto_region 9 with fail
        go_cut [38] (fun v38 wx => Hid ((xk = 2 ∧ v38 = .bool false ∧ ElA w R T D F u4 k gb ob xt u7 u8 wx) ∨ (xk ≠ 2 ∧ v38 = .bool true ∧ ElA w R T D F u4 k gb ob xt u7 u8 wx) ∨ (v38 = .bool true ∧ ElB w R T D F u4 k gb ob p xt u8 wx)))
        case first =>
          rcases hcut.out with hA | hB
          · have HA := Lib.hid hA
            obtain ⟨_, _, h7, h8, u, F', hP, hO⟩ := hA
            rw [HOB.out] at hO
            have hob2 : Bk wq gb 86 #[.int .i64 xk, .string xt, .string xx, .slice A3 y.x.at_.length c3, .slice A4 y.x.ki.length c4] := hO.1
            have q1 := hob2.cell 0; have ql := hob2.lt
            subst h7 h8
            clear hcut hP hO hob2
            by_cases hk2 : xk = 2
            · have b1 : (xk != 2) = false := by rw [bne_eq_false_iff_eq]; exact hk2
              have HK2 := Lib.hid hk2
              clear hk2
              go_wp2_with fail
              go_meet
              exact .inl ⟨HK2.out, rfl, HA.out⟩
            · have b1 : (xk != 2) = true := by rw [bne_iff_ne]; exact hk2
              go_wp2_with fail
              go_meet
              exact .inr (.inl ⟨hk2, rfl, HA.out⟩)
          · have HB := Lib.hid hB
            obtain ⟨_, ⟨q, h8⟩, hP, hO⟩ := hB
            rw [HOB.out] at hO
            have hob2 : Bk wq gb 86 #[.int .i64 xk, .string xt, .string xx, .slice A3 y.x.at_.length c3, .slice A4 y.x.ki.length c4] := hO.1
            have q1 := hob2.cell 0; have ql := hob2.lt
            subst h8
            unfold errV at HB ⊢
            clear hcut hP hO hob2
            by_cases hk2 : xk = 2
            · have b1 : (xk != 2) = false := by rw [bne_eq_false_iff_eq]; exact hk2
              clear hk2
              go_wp2_with fail
              go_meet
              exact .inr (.inr ⟨rfl, HB.out⟩)
            · have b1 : (xk != 2) = true := by rw [bne_iff_ne]; exact hk2
              go_wp2_with fail
              go_meet
              exact .inr (.inr ⟨rfl, HB.out⟩)
        case rest =>
          obtain ⟨wr2, rfl⟩ : ∃ wr2 : World, wr2 = wc := ⟨_, rfl⟩
          have HE2 := Lib.hid hcut.out
          clear hcut
          go_upto_if 38 with fail
          go_cut [7, 8] (fun v7 v8 wx => Hid (NdMid w R T D u4 k gb ob p y.x v7 v8 wx))
          case first =>
            rcases HE2.out with ⟨hk2, h38, hA⟩ | ⟨hk2, h38, hA⟩ | ⟨h38, hB⟩
            · subst h38
              obtain ⟨hnm, hfl, h7, h8, u, F', hP, hO⟩ := hA
              subst h7 h8
              have HNW : Hid (ndW isNm y.x = newN 2 xt ByteArray.empty) := by
                unfold Hid ndW newN
                rw [if_pos ⟨by rw [← HXK.out]; exact hk2, by rw [← HXT.out]; exact hnm⟩, ← HXT.out]
              have HFL := Lib.hid hfl
              have HPP := Lib.hid hP
              have HOO := Lib.hid hO
              clear hk2 hnm hfl hP hO
              go_wp2_with fail
              go_meet
              exact .inl ⟨HFL.out, rfl, rfl, _, F', Nat.le_refl _, by rw [HNW.out]; exact HPP.out, HOO.out⟩
            · subst h38
              obtain ⟨hnm, hfl, h7, h8, u, F', hP, hO⟩ := hA
              subst h7 h8
              have HNG : Hid (¬ (xk = 2 ∧ isNm xt = true)) := fun h => hk2 h.1
              have HPV := Lib.hid hP
              have HOV := Lib.hid hO
              clear hk2 hnm hfl hP hO
              by_cases hk4 : xk = 4
              · have b4 : (xk == 4) = true := by rw [beq_iff_eq]; exact hk4
                have HNW : Hid (ndW isNm y.x = newN 4 ByteArray.empty xx) := by
                  unfold Hid ndW newN
                  rw [if_neg (fun h => HNG.out ⟨by rw [HXK.out]; exact h.1, by rw [HXT.out]; exact h.2⟩), if_pos (by rw [← HXK.out]; exact hk4), ← HXX.out]
                subst hk4
                by_cases hfl : T.length < 400 ∧ xx.size ≤ 20000
                · have HFL := Lib.hid hfl
                  clear hfl
                  go_wp2_with (first | (go_at_call 22; refine (c_Undo HPV.out.ts hDb.out).mono ?_; rintro e w6 ⟨rfl, hts6, hk6⟩; have hst6 : TStep F' F' wr2 w6 := ⟨hk6, fun k _ h => h⟩; have HPU := Lib.hid (HPV.out.step hts6 hst6); have HOU := Lib.hid (HOV.out.step hst6); clear hts6 hk6 hst6; have q3w := (own_bk HOB.out HOU.out).cell 0; have q4w := (own_bk HOB.out HOU.out).cell 2; have q5w := (own_bk HOB.out HOU.out).lt) | (go_at_call 41; refine (c_Comment HPU.out.ts hDb.out xx HFL.out.1 HFL.out.2).mono ?_; rintro e w7 ⟨rfl, u7, hop⟩; have HOP := Lib.hid hop; clear hop))
                  go_meet
                  obtain ⟨F7, hP7, hs7⟩ := HPU.out.op HOP.out
                  exact .inl ⟨HFL.out.1, by rw [HLT.out]; rfl, rfl, _, F7, Nat.le_refl _, by rw [HNW.out]; exact hP7, HOU.out.step hs7⟩
                · have HFL := Lib.hid (show 400 ≤ T.length ∨ 20000 < xx.size by omega)
                  clear hfl
                  go_wp2_with (first | (go_at_call 22; refine (c_Undo HPV.out.ts hDb.out).mono ?_; rintro e w6 ⟨rfl, hts6, hk6⟩; have hst6 : TStep F' F' wr2 w6 := ⟨hk6, fun k _ h => h⟩; have HPU := Lib.hid (HPV.out.step hts6 hst6); have HOU := Lib.hid (HOV.out.step hst6); clear hts6 hk6 hst6; have q3w := (own_bk HOB.out HOU.out).cell 0; have q4w := (own_bk HOB.out HOU.out).cell 2; have q5w := (own_bk HOB.out HOU.out).lt) | (go_at_call 41; refine (c_Comment_no (p := p) HPU.out.ts (HG.out.below HPU.out.bel) xx (by have := HLT.out; omega) HTS.out.2 HFL.out).mono ?_; rintro e w7 ⟨rfl, hb7⟩; have HB7 := Lib.hid hb7; clear hb7))
                  go_meet
                  exact .inr ⟨by rw [← HXX.out]; exact HFL.out, rfl, bl_trans HPU.out.bel HB7.out⟩
              · have b4 : (xk == 4) = false := by rw [beq_eq_false_iff_ne]; exact hk4
                have b5 : ¬ xk = 4 := hk4
                have HNW : Hid (ndW isNm y.x = newN 3 ByteArray.empty xx) := by
                  unfold Hid ndW newN
                  rw [if_neg (fun h => HNG.out ⟨by rw [HXK.out]; exact h.1, by rw [HXT.out]; exact h.2⟩), if_neg (by rw [← HXK.out]; exact hk4), ← HXX.out]
                by_cases hfl : T.length < 400 ∧ xx.size ≤ 20000
                · have HFL := Lib.hid hfl
                  clear hfl hk4
                  go_wp2_with (first | (go_at_call 22; refine (c_Undo HPV.out.ts hDb.out).mono ?_; rintro e w6 ⟨rfl, hts6, hk6⟩; have hst6 : TStep F' F' wr2 w6 := ⟨hk6, fun k _ h => h⟩; have HPU := Lib.hid (HPV.out.step hts6 hst6); have HOU := Lib.hid (HOV.out.step hst6); clear hts6 hk6 hst6; have q3w := (own_bk HOB.out HOU.out).cell 0; have q4w := (own_bk HOB.out HOU.out).cell 2; have q5w := (own_bk HOB.out HOU.out).lt) | (go_at_call 42; refine (c_Text HPU.out.ts hDb.out xx HFL.out.1 HFL.out.2).mono ?_; rintro e w7 ⟨rfl, u7, hop⟩; have HOP := Lib.hid hop; clear hop))
                  go_meet
                  obtain ⟨F7, hP7, hs7⟩ := HPU.out.op HOP.out
                  exact .inl ⟨HFL.out.1, by rw [HLT.out]; rfl, rfl, _, F7, Nat.le_refl _, by rw [HNW.out]; exact hP7, HOU.out.step hs7⟩
                · have HFL := Lib.hid (show 400 ≤ T.length ∨ 20000 < xx.size by omega)
                  clear hfl hk4
                  go_wp2_with (first | (go_at_call 22; refine (c_Undo HPV.out.ts hDb.out).mono ?_; rintro e w6 ⟨rfl, hts6, hk6⟩; have hst6 : TStep F' F' wr2 w6 := ⟨hk6, fun k _ h => h⟩; have HPU := Lib.hid (HPV.out.step hts6 hst6); have HOU := Lib.hid (HOV.out.step hst6); clear hts6 hk6 hst6; have q3w := (own_bk HOB.out HOU.out).cell 0; have q4w := (own_bk HOB.out HOU.out).cell 2; have q5w := (own_bk HOB.out HOU.out).lt) | (go_at_call 42; refine (c_Text_no (p := p) HPU.out.ts (HG.out.below HPU.out.bel) xx (by have := HLT.out; omega) HTS.out.2 HFL.out).mono ?_; rintro e w7 ⟨rfl, hb7⟩; have HB7 := Lib.hid hb7; clear hb7))
                  go_meet
                  exact .inr ⟨by rw [← HXX.out]; exact HFL.out, rfl, bl_trans HPU.out.bel HB7.out⟩
            · subst h38
              obtain ⟨hnf, ⟨q, h8⟩, hP, hO⟩ := hB
              subst h8
              by_cases hng : xk = 2 ∧ isNm xt = true
              · have h400 : 400 ≤ T.length := hnf.elim (fun h => by rw [hng.2] at h; cases h) id
                have HPU := Lib.hid hP
                have HOU := Lib.hid hO
                have q3w := (own_bk HOB.out HOU.out).cell 0; have q4w := (own_bk HOB.out HOU.out).cell 2; have q5w := (own_bk HOB.out HOU.out).lt
                unfold errV
                have HFL := Lib.hid h400
                have hk2 := hng.1
                clear hnf hP hO hng h400
                subst hk2
                go_wp2_with (go_at_call 42; refine (c_Text_no (p := p) HPU.out.ts (HG.out.below HPU.out.bel) xx (by have := HLT.out; omega) HTS.out.2 (.inl HFL.out)).mono ?_; rintro e w7 ⟨rfl, hb7⟩; have HB7 := Lib.hid hb7; clear hb7)
                go_meet
                exact .inr ⟨.inl HFL.out, rfl, bl_trans HPU.out.bel HB7.out⟩
              · have HNG := Lib.hid hng
                have HPU := Lib.hid hP
                have HOU := Lib.hid hO
                have q3w := (own_bk HOB.out HOU.out).cell 0; have q4w := (own_bk HOB.out HOU.out).cell 2; have q5w := (own_bk HOB.out HOU.out).lt
                unfold errV
                clear hnf hP hO hng
                by_cases hk4 : xk = 4
                · have b4 : (xk == 4) = true := by rw [beq_iff_eq]; exact hk4
                  have HNW : Hid (ndW isNm y.x = newN 4 ByteArray.empty xx) := by
                    unfold Hid ndW newN
                    rw [if_neg (fun h => HNG.out ⟨by rw [HXK.out]; exact h.1, by rw [HXT.out]; exact h.2⟩), if_pos (by rw [← HXK.out]; exact hk4), ← HXX.out]
                  subst hk4
                  by_cases hfl : T.length < 400 ∧ xx.size ≤ 20000
                  · have HFL := Lib.hid hfl
                    clear hfl
                    go_wp2_with (first | (go_at_call 41; refine (c_Comment HPU.out.ts hDb.out xx HFL.out.1 HFL.out.2).mono ?_; rintro e w7 ⟨rfl, u7, hop⟩; have HOP := Lib.hid hop; clear hop))
                    go_meet
                    obtain ⟨F7, hP7, hs7⟩ := HPU.out.op HOP.out
                    exact .inl ⟨HFL.out.1, by rw [HLT.out]; rfl, rfl, _, F7, Nat.le_refl _, by rw [HNW.out]; exact hP7, HOU.out.step hs7⟩
                  · have HFL := Lib.hid (show 400 ≤ T.length ∨ 20000 < xx.size by omega)
                    clear hfl
                    go_wp2_with (first | (go_at_call 41; refine (c_Comment_no (p := p) HPU.out.ts (HG.out.below HPU.out.bel) xx (by have := HLT.out; omega) HTS.out.2 HFL.out).mono ?_; rintro e w7 ⟨rfl, hb7⟩; have HB7 := Lib.hid hb7; clear hb7))
                    go_meet
                    exact .inr ⟨by rw [← HXX.out]; exact HFL.out, rfl, bl_trans HPU.out.bel HB7.out⟩
                · have b4 : (xk == 4) = false := by rw [beq_eq_false_iff_ne]; exact hk4
                  have b5 : ¬ xk = 4 := hk4
                  have HNW : Hid (ndW isNm y.x = newN 3 ByteArray.empty xx) := by
                    unfold Hid ndW newN
                    rw [if_neg (fun h => HNG.out ⟨by rw [HXK.out]; exact h.1, by rw [HXT.out]; exact h.2⟩), if_neg (by rw [← HXK.out]; exact hk4), ← HXX.out]
                  by_cases hfl : T.length < 400 ∧ xx.size ≤ 20000
                  · have HFL := Lib.hid hfl
                    clear hfl hk4
                    go_wp2_with (first | (go_at_call 42; refine (c_Text HPU.out.ts hDb.out xx HFL.out.1 HFL.out.2).mono ?_; rintro e w7 ⟨rfl, u7, hop⟩; have HOP := Lib.hid hop; clear hop))
                    go_meet
                    obtain ⟨F7, hP7, hs7⟩ := HPU.out.op HOP.out
                    exact .inl ⟨HFL.out.1, by rw [HLT.out]; rfl, rfl, _, F7, Nat.le_refl _, by rw [HNW.out]; exact hP7, HOU.out.step hs7⟩
                  · have HFL := Lib.hid (show 400 ≤ T.length ∨ 20000 < xx.size by omega)
                    clear hfl hk4
                    go_wp2_with (first | (go_at_call 42; refine (c_Text_no (p := p) HPU.out.ts (HG.out.below HPU.out.bel) xx (by have := HLT.out; omega) HTS.out.2 HFL.out).mono ?_; rintro e w7 ⟨rfl, hb7⟩; have HB7 := Lib.hid hb7; clear hb7))
                    go_meet
                    exact .inr ⟨by rw [← HXX.out]; exact HFL.out, rfl, bl_trans HPU.out.bel HB7.out⟩
          case rest =>
            obtain ⟨wr3, rfl⟩ : ∃ wr3 : World, wr3 = wc := ⟨_, rfl⟩
            have HM := Lib.hid hcut.out
            clear hcut HE2
            rcases HM.out with ⟨hfl, h7, h8, D1, F1, hD1, hP, hO⟩ | ⟨hbad, h8, hb⟩
            case inr =>
              subst h8
              unfold errV
              have HBAD : Hid (399 ≤ (L.map TwV.x).length ∨ ∃ x ∈ L.map TwV.x, 20000 < x.txt.size) := by
                rcases hbad with h | h
                · left
                  have := HLT.out; have := HN.out; simp; omega
                · exact .inr ⟨y.x, List.mem_map.2 ⟨y, List.mem_of_getElem? HY.out, rfl⟩, h⟩
              have HBB := Lib.hid hb
              clear hbad hb HM
              go_wp2_with fail
              go_ret
              exact .inl ⟨rfl, HBAD.out, HBB.out⟩
            subst h7 h8
            have hI1 : TI (T ++ [ndW isNm y.x]) (k + 1) := HTI.out.add (ndW_facts y.x).2.1 (ndW_facts y.x).2.2.2
            have hnw : ndA (T ++ [ndW isNm y.x]) (k + 1) = ndW isNm y.x := by rw [ndA_app, if_pos HLT.out.symm]
            have hkind : (ndA (T ++ [ndW isNm y.x]) (k + 1)).k ≠ 1 := by rw [hnw]; exact (ndW_facts y.x).1
            have hpa1 : (ndA (T ++ [ndW isNm y.x]) (k + 1)).pa = -1 := by rw [hnw]; exact (ndW_facts y.x).2.1
            have hat0 : (ndA (T ++ [ndW isNm y.x]) (k + 1)).at_.length ≤ 0 := by rw [hnw, (ndW_facts y.x).2.2.1]; exact Nat.le_refl _
            have hk1 : k + 1 < 400 := by have := HLT.out; omega
            have HI1 := Lib.hid hI1
            have HKD := Lib.hid hkind
            have HPA1 := Lib.hid hpa1
            have HAT0 := Lib.hid hat0
            have HP1 := Lib.hid hP
            have HO1 := Lib.hid hO
            have HD1 := Lib.hid hD1
            have hob2 := own_bk HOB.out hO
            have q1 := hob2.cell 3; have ql := hob2.lt
            have hcst : Hid (D1.length + (y.x.at_.length + y.x.ki.length) + 3 ≤ cst ((L.map TwV.x).take (k + 1)) ∧ cst ((L.map TwV.x).take (k + 1)) ≤ 10000000) := by
              have h1 := HDL.out
              have h2 := HC.out
              have h3 := cst_take_le (L.map TwV.x) (k + 1)
              have h4 : (L.map TwV.x).take (k + 1) = (L.map TwV.x).take k ++ [y.x] := by rw [List.take_add_one, List.getElem?_map, HY.out]; rfl
              have h5 := cst_snoc ((L.map TwV.x).take k) y.x
              unfold Hid
              rw [h4] at h3 ⊢
              rw [h5] at h3 ⊢
              omega
            clear hI1 hnw hkind hpa1 hat0 hP hO hD1 hob2 HM hfl
            have hna : y.x.at_.length ≤ 10000000 := by have := hcst.out; omega
            have hnk : y.x.ki.length ≤ 10000000 := by have := hcst.out; omega
            go_upto_region 18 with fail
            clear q1 ql
            go_loopw [65, 10] (fun a _ wx => ∃ (m : Nat) (T2 : List Nod) (D2 : List (Value × List Nod)) (F2 : Nat → Prop), a = .int .i64 (m : Int) ∧ m ≤ y.x.at_.length ∧ Hid (PT w R T2 D2 F2 u4 k wx) ∧ Hid (Own wx F2 gb ob) ∧ Hid (TI T2 (k + 1)) ∧ Hid (T2 = (y.x.at_.take m).foldl (atW isNm setA (k + 1)) (T ++ [ndW isNm y.x])) ∧ Hid (D2.length ≤ D1.length + m) ∧ Hid ((ndA T2 (k + 1)).k ≠ 1 ∧ (ndA T2 (k + 1)).pa = -1 ∧ (ndA T2 (k + 1)).at_.length ≤ m)) (fun a _ _ => y.x.at_.length - (intOf a).toNat)
            case atStart => exact ⟨0, _, D1, F1, rfl, by omega, HP1.out, HO1.out, HI1.out, rfl, by simp [Hid], HKD.out, HPA1.out, HAT0.out⟩
            case round =>
              obtain ⟨m, T2, D2, F2, rfl, hm, HP2', HO2', HI2', HT2', HD2', HK2'⟩ := hrel
              by_cases hml : m < y.x.at_.length
              · obtain ⟨⟨pn, pv⟩, hq⟩ : ∃ q, y.x.at_[m]? = some q := ⟨_, List.getElem?_eq_getElem hml⟩
                have hrA := HYR.out.1
                rw [HE3.out] at hrA
                obtain ⟨ga, oa, rfl, hga, hca⟩ := rd_at hrA hq
                obtain ⟨a0, a1⟩ := hca wr HP2'.out.bel
                have hsz := HYR.out.2.2.2.1 (pn, pv) (List.mem_of_getElem? hq)
                have hl2 := HI2'.out.len
                have hmi : (m : Int) < (y.x.at_.length : Int) := by omega
                have hc2 := hcst.out
                have hd2 := HD2'.out
                obtain ⟨wy, hwy⟩ : ∃ wy, wy = wr.alloc (.cells #[.string pn, .string pv] 88) := ⟨_, rfl⟩
                have hPy : PT w R T2 D2 F2 u4 k wy := by rw [hwy]; exact HP2'.out.below (bl_alloc (Below.refl _ _) _)
                have hOy : Own wy F2 gb ob := by rw [hwy]; exact HO2'.out.below (bl_alloc (Below.refl _ _) _)
                have HSA : Hid (Calls Tryd.prog 43 #[.pointer (some ⟨R, 0, none⟩), .int .i64 ((k : Int) + 1), .string pn, .string pv] wy (AnyRet w R (atW isNm setA (k + 1) T2 (pn, pv)) D2 F2 u4 k wy)) := c_SetAny (i := k + 1) (p := p) hPy (HG.out) (by omega) (by omega) (by omega) (by have := HK2'.out.2.2; omega) pn pv hsz.1 hsz.2
                have HOy := Lib.hid hOy
                have HWY := Lib.hid hwy
                have HQ := Lib.hid hq
                clear hrA hca hsz hq hl2 hc2 hd2 hPy hOy hwy
                go_upto_region 20 with fail
                rw [← HWY.out]
                have b0 : wy.cell? ⟨wr.heap.size, 0, none⟩ = some (.string pn) := by rw [HWY.out]; exact (Bk.new wr 88 #[.string pn, .string pv]).cell 0
                have b1 : wy.cell? ⟨wr.heap.size, 1, none⟩ = some (.string pv) := by rw [HWY.out]; exact (Bk.new wr 88 #[.string pn, .string pv]).cell 1
                have bl : wr.heap.size < wy.heap.size := by rw [HWY.out]; simp
                clear a0 a1
                go_wp2_with (go_at_call 43; refine (HSA.out).mono ?_; rintro e w8 ⟨⟨u8, rfl⟩, D3, F3, hD3, hP3, hO3⟩; have HD3 := Lib.hid hD3; have HP3 := Lib.hid hP3; have HO3 := Lib.hid (hO3 gb ob HOy.out); clear hD3 hP3 hO3)
                go_roundw
                case rel =>
                  have hi2 : k + 1 < T2.length := by have := HI2'.out.len; omega
                  have hnd := atW_nd (q := (pn, pv)) (j := k + 1) hi2
                  have hkk := HK2'.out
                  refine ⟨m + 1, _, D3, F3, by go_num, by omega, HP3.out, HO3.out, atW_TI HI2'.out hi2, ?_, ?_, ?_⟩
                  · unfold Hid; rw [foldl_take _ _ HQ.out, HT2'.out]
                  · have h1 := HD3.out; have h2 := HD2'.out; unfold Hid; omega
                  · exact ⟨by rw [hnd.1]; exact hkk.1, by rw [hnd.2.1]; exact hkk.2.1, by have := hnd.2.2; omega⟩
                case measure => simp [intOf]; omega
              · obtain rfl : m = y.x.at_.length := by omega
                have hmi : ¬ (y.x.at_.length : Int) < (y.x.at_.length : Int) := by omega
                have hob3 := own_bk HOB.out HO2'.out
                have q1 := hob3.cell 4; have ql := hob3.lt
                clear hml hob3
                go_upto_region 23 with fail
                clear q1 ql
                go_loopw [80, 12] (fun a _ wx => ∃ (m : Nat) (T3 : List Nod) (D3 : List (Value × List Nod)) (F3 : Nat → Prop), a = .int .i64 (m : Int) ∧ m ≤ y.x.ki.length ∧ Hid (PT w R T3 D3 F3 u4 k wx) ∧ Hid (TI T3 (k + 1)) ∧ Hid (T3 = (y.x.ki.take m).foldl (kiW k) T2) ∧ Hid (D3.length ≤ D2.length + m) ∧ Hid ((ndA T3 (k + 1)).k ≠ 1 ∧ (ndA T3 (k + 1)).pa = -1)) (fun a _ _ => y.x.ki.length - (intOf a).toNat)
                case atStart => exact ⟨0, T2, D2, F2, rfl, by omega, HP2'.out, HI2'.out, rfl, by simp [Hid], HK2'.out.1, HK2'.out.2.1⟩
                case round =>
                  obtain ⟨m, T3, D3, F3, rfl, hm3, HP3, HI3, HT3, HD3, HK3⟩ := hrel
                  by_cases hml : m < y.x.ki.length
                  · obtain ⟨kk, hq⟩ : ∃ q, y.x.ki[m]? = some q := ⟨_, List.getElem?_eq_getElem hml⟩
                    have hrA := HYR.out.2.1
                    rw [HE4.out] at hrA
                    obtain ⟨ga, oa, rfl, hga, hca⟩ := rd_li hrA hq
                    have a0 := hca wr HP3.out.bel
                    have hkr := HYR.out.2.2.2.2 kk (List.mem_of_getElem? hq)
                    have hl3 := HI3.out.len
                    have hmi : (m : Int) < (y.x.ki.length : Int) := by omega
                    have hc2 := hcst.out
                    have hd2 := HD2'.out
                    have hd3 := HD3.out
                    have HQ := Lib.hid hq
                    have HFT : Hid ((y.x.ki.take (m + 1)).foldl (kiW k) T2 = kiW k T3 kk) := by unfold Hid; rw [foldl_take _ _ hq, HT3.out]
                    have HKT := Lib.hid (kiW_TI (kk := kk) HI3.out HK3.out.2)
                    have hd1 : D3.length ≤ 1000000000000 := by omega
                    have HDD := Lib.hid hd1
                    clear hrA hca hq hl3 hc2 hd2 hd3 hd1
                    by_cases hin : 0 ≤ kk ∧ kk < (k : Int)
                    · obtain ⟨i, rfl⟩ := Int.eq_ofNat_of_zero_le hin.1
                      have hik3 : i < k := by omega
                      have h0i : 0 ≤ (i : Int) := by omega
                      have hiki : (i : Int) < (k : Int) := by omega
                      have hTL : T3.length = k + 2 := HI3.out.len
                      have HPR : Hid (Calls Tryd.prog 44 #[.pointer (some ⟨R, 0, none⟩), .int .i64 ((i : Int) + 1)] wr fun e w' => e = .returned (.int .i64 (ndA T3 (i + 1)).pa) ∧ wr = w') := c_Parent (i := i + 1) HP3.out.ts (by omega) (ndA_get (by omega))
                      obtain ⟨pp, hpp⟩ : ∃ pp, pp = (ndA T3 (i + 1)).pa := ⟨_, rfl⟩
                      rw [← hpp] at HPR
                      have HPP := Lib.hid hpp
                      clear hin hpp
                      by_cases hfr : pp < 0
                      · have hkd : (ndA T3 (k + 1)).ki.length ≤ 400 := by
                          obtain ⟨dd, hdd⟩ := HI3.out.wf
                          have := nodup_lt _ _ (hdd.nd (k + 1) (by omega)) (fun a ha => (hdd.ki (k + 1) (by omega) a ha).1)
                          omega
                        have HKI : Hid (Calls Tryd.prog 46 #[.pointer (some ⟨R, 0, none⟩), .int .i64 ((k : Int) + 1)] wr (ClRetI wr (ndA T3 (k + 1)).ki.length (kic (ndA T3 (k + 1)).ki))) := c_Kids (i := k + 1) HP3.out.ts (by omega) (ndA_get (by omega)) (by omega)
                        have HPT : Hid (∀ w', Below wr.heap.size wr w' → Calls Tryd.prog 45 #[.pointer (some ⟨R, 0, none⟩), .int .i64 ((k : Int) + 1), .int .i64 ((i : Int) + 1), .int .i64 ((ndA T3 (k + 1)).ki.length : Int)] w' (AnyRet w R (kiW k T3 (i : Int)) D3 F3 u4 k w')) := fun w' hb => c_KidAny (p := p) (HP3.out.below hb) HG.out HI3.out HDD.out (by omega) HK3.out.1 HK3.out.2 hik3 (by rw [← HPP.out]; exact hfr)
                        obtain ⟨nkk, hnkk⟩ : ∃ nkk, nkk = (ndA T3 (k + 1)).ki.length := ⟨_, rfl⟩
                        rw [← hnkk] at HKI HPT hkd
                        clear hik3 hTL hnkk
                        go_wp2_with (first | (go_at_call 44; refine (HPR.out).mono ?_; rintro e w' ⟨rfl, rfl⟩) | (go_at_call 46; refine (HKI.out).mono ?_; rintro e w8 ⟨v8, rfl, ho8, hb8⟩; have HB8 := Lib.hid hb8; obtain ⟨_, A8, c8, rfl, _, _⟩ := RdS.of_own ho8; clear ho8 hb8) | (go_at_call 45; refine (HPT.out _ HB8.out).mono ?_; rintro e w9 ⟨⟨u9, rfl⟩, D4, F4, hD4, hP4, _⟩; have HD4 := Lib.hid hD4; have HP4 := Lib.hid hP4; clear hD4 hP4))
                        go_roundw
                        case rel =>
                          refine ⟨m + 1, _, D4, F4, by go_num, by omega, HP4.out, HKT.out.1, HFT.out.symm, ?_, ?_⟩
                          · have h1 := HD4.out; have h2 := HD3.out; unfold Hid; omega
                          · exact ⟨by rw [HKT.out.2.1]; exact HK3.out.1, HKT.out.2.2⟩
                        case measure => simp [intOf]; omega
                      · have HSM : Hid (kiW k T3 (i : Int) = T3) := by
                          unfold Hid kiW
                          rw [if_neg (fun h => hfr (by rw [HPP.out]; have h4 := h.2.2.2; rw [show ((i : Int) + 1).toNat = i + 1 by omega] at h4; exact h4))]
                        clear hik3 hTL
                        go_wp2_with (go_at_call 44; refine (HPR.out).mono ?_; rintro e w' ⟨rfl, rfl⟩)
                        go_roundw
                        case rel =>
                          refine ⟨m + 1, T3, D3, F3, by go_num, by omega, HP3.out, HI3.out, by unfold Hid; rw [HFT.out, HSM.out], ?_, HK3.out⟩
                          have h2 := HD3.out; unfold Hid; omega
                        case measure => simp [intOf]; omega
                    · have HSM : Hid (kiW k T3 kk = T3) := by
                        unfold Hid kiW
                        rw [if_neg (fun h => hin ⟨h.2.1, h.2.2.1⟩)]
                      have HIN := Lib.hid hin
                      clear hin
                      by_cases h0 : 0 ≤ kk
                      · have h1 : ¬ kk < (k : Int) := fun h => HIN.out ⟨h0, h⟩
                        go_wp2_with fail
                        go_roundw
                        case rel =>
                          refine ⟨m + 1, T3, D3, F3, by go_num, by omega, HP3.out, HI3.out, by unfold Hid; rw [HFT.out, HSM.out], ?_, HK3.out⟩
                          have h2 := HD3.out; unfold Hid; omega
                        case measure => simp [intOf]; omega
                      · go_wp2_with fail
                        go_roundw
                        case rel =>
                          refine ⟨m + 1, T3, D3, F3, by go_num, by omega, HP3.out, HI3.out, by unfold Hid; rw [HFT.out, HSM.out], ?_, HK3.out⟩
                          have h2 := HD3.out; unfold Hid; omega
                        case measure => simp [intOf]; omega
                  · obtain rfl : m = y.x.ki.length := by omega
                    have hmi : ¬ (y.x.ki.length : Int) < (y.x.ki.length : Int) := by omega
                    have hbz : w.heap.size ≤ wr.heap.size := HP3.out.bel.size
                    have hk400 : k ≤ 400 := by omega
                    have HTN : Hid (T3 = twsW isNm setA [root0] 0 ((L.map TwV.x).take (k + 1))) := by
                      unfold Hid
                      rw [HT3.out, List.take_length, HT2'.out, List.take_length]
                      have h4 : (L.map TwV.x).take (k + 1) = (L.map TwV.x).take k ++ [y.x] := by rw [List.take_add_one, List.getElem?_map, HY.out]; rfl
                      rw [h4, twsW_snoc, ← HTW.out, List.length_take]
                      have : min k (L.map TwV.x).length = k := by rw [List.length_map, HN.out]; omega
                      rw [this, Nat.zero_add]
                      rfl
                    clear hml
                    go_wp2_with (at_builtin; refine wp_push rfl _ _ 75 rfl w.heap.size 3 Tryd.underlying75 inf_I rfl (by decide) wr u4 k (kic ((List.range k).map (· + 1))) [.int .i64 ((k : Int) + 1)] rfl rfl rfl HP3.out.top rfl (by simp [Value.oneCell']) (by omega) (by omega) hbz ?_; intro v5 w5 hpush; have HPU := Lib.hid hpush; clear hpush)
                    go_roundw
                    case rel =>
                      refine ⟨k + 1, T3, D3, F3, by go_num, by omega, HP3.out.push HPU.out, HI3.out, HTN.out, ?_, hk1⟩
                      have h1 := hcst.out; have h2 := HD3.out; have h3 := HD2'.out; unfold Hid; omega
                    case measure => simp [intOf]; omega
    · obtain rfl : k = n := by omega
      have hik : ¬ (k : Int) < (k : Int) := by omega
      have HTL : Hid (T = twsW isNm setA [root0] 0 (L.map TwV.x)) := by
        unfold Hid
        rw [HTW.out, List.take_of_length_le (by rw [List.length_map, HN.out]; exact Nat.le_refl _)]
      have hrt := RdS.of_own HP.out.top
      obtain ⟨_, At, ct, et, _, _⟩ := hrt
      have HET := Lib.hid et
      have hDk : Hid (D.length + k ≤ 20000000) := by
        have h1 := HDL.out
        have h2 := cst_take_le (L.map TwV.x) k
        have h3 := HC.out
        unfold Hid; omega
      subst et
      clear hlt
      go_upto_region 31 with fail
      go_loopw [115, 14] (fun a _ wx => ∃ (m : Nat) (T2 : List Nod) (D2 : List (Value × List Nod)) (F2 : Nat → Prop), a = .int .i64 (m : Int) ∧ m ≤ k ∧ Hid (PT w R T2 D2 F2 (.slice At k ct) k wx) ∧ Hid (TI T2 k) ∧ Hid (T2 = ((List.range m).map (· + 1)).foldl topW T) ∧ Hid (D2.length ≤ D.length + m)) (fun a _ _ => k - (intOf a).toNat)
      case atStart => exact ⟨0, T, D, F, rfl, by omega, HP.out, HTI.out, rfl, by simp [Hid]⟩
      case round =>
        obtain ⟨m, T2, D2, F2, rfl, hm, HP2, HI2, HT2, HD2⟩ := hrel
        by_cases hml : m < k
        · have hmk : (m : Int) < (k : Int) := by omega
          have hrt2 := RdS.of_own HP2.out.top
          obtain ⟨gt, ot, e, _, hct⟩ := rd_ki (x := m + 1) hrt2 (by rw [List.getElem?_map, List.getElem?_range hml]; rfl)
          subst e
          have a0 : wr.cell? ⟨gt, ot + m, none⟩ = some (.int .i64 ((m : Int) + 1)) := hct wr (Below.refl _ _)
          have hTL : T2.length = k + 1 := HI2.out.len
          have hd2 := HD2.out
          have hdk := hDk.out
          have HPR : Hid (Calls Tryd.prog 44 #[.pointer (some ⟨R, 0, none⟩), .int .i64 ((m : Int) + 1)] wr fun e w' => e = .returned (.int .i64 (ndA T2 (m + 1)).pa) ∧ wr = w') := c_Parent (i := m + 1) HP2.out.ts (by omega) (ndA_get (by omega))
          have HFT : Hid (((List.range (m + 1)).map (· + 1)).foldl topW T = topW T2 (m + 1)) := by
            unfold Hid
            rw [List.range_succ, List.map_append, List.foldl_append, ← HT2.out]; rfl
          obtain ⟨pp, hpp⟩ : ∃ pp, pp = (ndA T2 (m + 1)).pa := ⟨_, rfl⟩
          rw [← hpp] at HPR
          have HPP := Lib.hid hpp
          clear hpp hrt2 hct
          by_cases hfr : pp < 0
          · obtain ⟨dd, hdd⟩ := HI2.out.wf
            have hkd : (ndA T2 0).ki.length ≤ 400 := by
              have := nodup_lt _ _ (hdd.nd 0 (by omega)) (fun a ha => (hdd.ki 0 (by omega) a ha).1)
              omega
            have hpa2 : (ndA T2 (m + 1)).pa < 0 := by rw [← HPP.out]; exact hfr
            have hanc : ¬ Anc T2 (m + 1) 0 := anc_free (by rw [HI2.out.root.1]; omega) (by omega)
            have HKI : Hid (Calls Tryd.prog 46 #[.pointer (some ⟨R, 0, none⟩), .int .i64 0] wr (ClRetI wr (ndA T2 0).ki.length (kic (ndA T2 0).ki))) := c_Kids (i := 0) HP2.out.ts (by omega) (ndA_get (by omega)) (by omega)
            have HPT : Hid (∀ w', Below wr.heap.size wr w' → Calls Tryd.prog 45 #[.pointer (some ⟨R, 0, none⟩), .int .i64 0, .int .i64 ((m : Int) + 1), .int .i64 ((ndA T2 0).ki.length : Int)] w' (AnyRet w R (putG T2 0 (m + 1) (ndA T2 0).ki.length) D2 F2 (.slice (some ⟨gt, ot, none⟩) k ct) k w')) := fun w' hb => c_PutFree (p := 0) (i := m + 1) (HP2.out.below hb) hdd (by omega) (by omega) (by omega) (by omega) (by omega) (.inl HI2.out.root.2) hanc hpa2
            have HTP : Hid (topW T2 (m + 1) = putG T2 0 (m + 1) (ndA T2 0).ki.length) := by unfold Hid topW; rw [if_pos hpa2]
            have HTI2 := Lib.hid (HI2.out.put (p := 0) (i := m + 1) (m := (ndA T2 0).ki.length) (by omega) (by omega) (by omega) hanc)
            obtain ⟨nkk, hnkk⟩ : ∃ nkk, nkk = (ndA T2 0).ki.length := ⟨_, rfl⟩
            rw [← hnkk] at HKI HPT hkd HTP HTI2
            clear hnkk hanc hpa2 hdd hTL hd2 hdk
            go_wp2_with (first | (go_at_call 44; refine (HPR.out).mono ?_; rintro e w' ⟨rfl, rfl⟩) | (go_at_call 46; refine (HKI.out).mono ?_; rintro e w8 ⟨v8, rfl, ho8, hb8⟩; have HB8 := Lib.hid hb8; obtain ⟨_, A8, c8, rfl, _, _⟩ := RdS.of_own ho8; clear ho8 hb8) | (go_at_call 45; refine (HPT.out _ HB8.out).mono ?_; rintro e w9 ⟨⟨u9, rfl⟩, D4, F4, hD4, hP4, _⟩; have HD4 := Lib.hid hD4; have HP4 := Lib.hid hP4; clear hD4 hP4))
            go_roundw
            case rel =>
              refine ⟨m + 1, _, D4, F4, by go_num, by omega, HP4.out, HTI2.out, by unfold Hid; rw [HFT.out, HTP.out], ?_⟩
              have h1 := HD4.out; have h2 := HD2.out; unfold Hid; omega
            case measure => simp [intOf]; omega
          · have HSM : Hid (topW T2 (m + 1) = T2) := by unfold Hid topW; rw [if_neg (fun h => hfr (by rw [HPP.out]; exact h))]
            clear hTL hd2 hdk
            go_wp2_with (go_at_call 44; refine (HPR.out).mono ?_; rintro e w' ⟨rfl, rfl⟩)
            go_roundw
            case rel =>
              refine ⟨m + 1, T2, D2, F2, by go_num, by omega, HP2.out, HI2.out, by unfold Hid; rw [HFT.out, HSM.out], ?_⟩
              have h2 := HD2.out; unfold Hid; omega
            case measure => simp [intOf]; omega
        · obtain rfl : m = k := by omega
          have hmk : ¬ (m : Int) < (m : Int) := by omega
          have HSE := Lib.hid (c_Settle HP2.out.ts)
          have HFIN : Hid (T2 = plainT (L.map TwV.x)) := by
            unfold Hid plainT topsW
            rw [HT2.out, HTL.out, List.length_map, HN.out]
          clear hml
          go_wp2_with (go_at_call 19; refine (HSE.out).mono ?_; rintro e w9 ⟨⟨u9, rfl⟩, hts9, hk9⟩; have HT9 := Lib.hid hts9; have HK9 := Lib.hid hk9; clear hts9 hk9)
          go_ret
          have hlen : (L.map TwV.x).length = m := by rw [List.length_map]; exact HN.out
          refine .inr ⟨R, F2, rfl, by rw [← HFIN.out]; exact HT9.out, by rw [← HFIN.out, hlen]; exact HI2.out, by rw [hlen]; omega, ?_⟩
          exact (HP2.out.step HT9.out ⟨HK9.out, fun _ _ h => h⟩).bel
end Go.Proofs.YtimlmekgapdkiaaDoor
