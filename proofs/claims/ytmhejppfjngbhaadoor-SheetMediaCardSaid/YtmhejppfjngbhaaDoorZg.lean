/- sheets: components without blanks at their ends: the document's -/
import Derived.Test.YtmhejppfjngbhaaDoorZf
import Derived.Test.YtmhejppfjngbhaaDoorYs
namespace Go.Proofs.YtmhejppfjngbhaaDoor
set_option linter.unusedVariables false
set_option linter.unusedSimpArgs false
open Go.RowKit Go.Cas

mutual
/-- how many components there are, with what lies in them -/
def szL : List Cm → Nat
  | [] => 0
  | c :: l => szC c + szL l
def szC : Cm → Nat
  | .mk _ _ ks _ => szL ks + 1
end
theorem szL_app (a b : List Cm) : szL (a ++ b) = szL a + szL b := by
  induction a with
  | nil => simp [szL]
  | cons x a ih => rw [List.cons_append, szL, szL, ih]; omega
theorem szL_len (l : List Cm) : l.length ≤ szL l := by
  induction l with
  | nil => simp [szL]
  | cons x l ih =>
    cases x with
    | mk t e ks c => rw [szL, szC, List.length_cons]; omega
theorem szC_ks (z : Cm) : szC z = szL z.ks + 1 := by cases z; rw [szC]; rfl
theorem szL_drop (l : List Cm) : szL (l.dropWhile blm) ≤ szL l := by
  induction l with
  | nil => exact Nat.le_refl _
  | cons x l ih =>
    by_cases h : blm x = true
    · rw [List.dropWhile_cons_of_pos h, szL]; omega
    · rw [List.dropWhile_cons_of_neg h]; exact Nat.le_refl _
theorem Nst_sz {l r : List Tk} {e : Nat} {cs : List Cm} {c : Bool} (h : Nst l e cs r c) : szL cs + r.length ≤ l.length := by
  induction h with
  | nil => simp [szL]
  | endd _ _ => simp [szL]
  | opn _ _ _ _ h1 h2 => rw [szL, szC, List.length_cons]; omega
  | one _ _ _ h1 => rw [szL, szC, szL, List.length_cons]; omega
theorem RdP.toS {w : World} {P : Nat → Prop} {size n lim : Nat} {v : Value} {xs : List Value} (h : RdP w P size v n xs) (hl : ∀ g, P g → g < lim) : RdS w lim size v n xs := by
  obtain ⟨h1, A, c, h2, h3, h4⟩ := h
  refine ⟨h1, A, c, h2, h3, fun hn => ?_⟩
  obtain ⟨g, o, e, hg, hc⟩ := h4 hn
  exact ⟨g, o, e, hl g hg, hc⟩
theorem RowC.ones {w : World} {P : Nat → Prop} {cs : List Cm} {R : List Value} (h : RowC w P cs R) : ∀ u ∈ R, u.oneCell' = true := by
  induction h with
  | nil => intro u hu; cases hu
  | cons _ h2 _ _ ih =>
    intro u hu
    rcases List.mem_append.1 hu with hu | hu
    · obtain ⟨_, A, c, rfl, _⟩ := h2
      simp only [rcc, List.mem_cons, List.not_mem_nil, or_false] at hu
      rcases hu with rfl | rfl | rfl | rfl | rfl | rfl | rfl | rfl <;> rfl
    · exact ih u hu
/-- old blocks, and such that a call has made -/
def MdO (lim : Nat) (w w' : World) (g : Nat) : Prop := g < lim ∨ MdB w w' g
theorem endC_id {z : Cm} (h : z.e = 0 ∨ z.cl = true) : endC z = z := by
  cases z with
  | mk t e ks c =>
    rw [endC, if_neg]
    rintro ⟨h1, h2⟩
    rcases h with h | h
    · exact h1 h
    · rw [show c = true from h] at h2; cases h2
theorem endC_op {z : Cm} (h : z.e ≠ 0) (h2 : z.cl = false) : endC z = .mk z.t z.e (endL z.ks) z.cl := by
  cases z with
  | mk t e ks c => rw [endC, if_pos ⟨h, h2⟩]; rfl
set_option maxHeartbeats 16000000 in
set_option maxRecDepth 100000 in
theorem c_ended : ∀ (n : Nat) (cs : List Cm) (v : Value) (lim : Nat) (w : World), szL cs < n → szL cs ≤ 1000000000 → RC w (fun g => g < lim) v cs → lim ≤ w.heap.size → Calls Tryd.prog 24 #[v] w fun e w' => ∃ v', e = .returned v' ∧ RC w' (MdO lim w w') v' (endL cs) ∧ Below w.heap.size w w' := by
  intro n
  induction n with
  | zero => intro cs v lim w h; omega
  | succ n ih =>
  intro cs v lim w hn hs hR hlim
  by_cases hnil : cs = []
  · subst hnil
    obtain ⟨A, c, rfl⟩ := hR.nil
    clear ih hR
    go_enter Tryd.func24, Tryd.ntmps24
    go_wp2_with fail
    go_loopw [0] (fun u wr => u = .slice A 0 c ∧ w = wr) (fun u _ => slN u)
    case atStart => exact ⟨rfl, rfl⟩
    case round =>
      obtain ⟨rfl, rfl⟩ := hrel
      go_wp2_with fail
      go_ret
      exact ⟨_, rfl, by rw [show endL [] = [] by simp [endL]]; exact RC.end_, Below.refl _ _⟩
  obtain ⟨g, o, c, R, rfl, hcap, hg, hrow, hcell⟩ := hR.form hnil
  obtain ⟨Q, hQ⟩ : ∃ Q, Q = cs.length := ⟨_, rfl⟩
  have hQs := szL_len cs
  rw [← hQ] at hQs hcap ⊢
  have HQ := Lib.hid hQ
  have HN := Lib.hid hn
  have HS := Lib.hid hs
  have HIH := Lib.hid ih
  have HROW := Lib.hid hrow
  have HCELL := Lib.hid hcell
  have HLIM := Lib.hid hlim
  have HG := Lib.hid hg
  clear ih hR hnil hrow hcell hQ hn
  go_enter Tryd.func24, Tryd.ntmps24
  go_wp2_with fail
  go_loopw [0] (fun u wr => ∃ (l2 : List Cm), u = .slice (some ⟨g, o, none⟩) l2.length c ∧ Hid (endL cs = endL l2 ∧ l2 <+: cs) ∧ l2.length ≤ Q ∧ w = wr) (fun u _ => slN u)
  case atStart => exact ⟨cs, by rw [HQ.out], ⟨rfl, List.prefix_refl _⟩, by rw [HQ.out]; exact Nat.le_refl _, rfl⟩
  case round =>
    obtain ⟨l2, rfl, HP, hl2, rfl⟩ := hrel
    rcases List.eq_nil_or_concat l2 with ho | ⟨a, z, ho⟩
    · subst ho
      have HT : Hid (endL cs = []) := by unfold Hid; rw [HP.out.1]; simp [endL]
      go_wp2_with fail
      go_ret
      exact ⟨_, rfl, by rw [HT.out]; exact RC.end_, Below.refl _ _⟩
    · rw [List.concat_eq_append] at ho
      subst ho
      obtain ⟨q, hq⟩ : ∃ q, q = a.length := ⟨_, rfl⟩
      have hon : (a ++ [z]).length = q + 1 := by rw [hq]; simp
      have hget : cs[q]? = some z := by
        obtain ⟨r, hr⟩ := HP.out.2
        rw [← hr, List.getElem?_append_left (by rw [hon]; omega), hq]; simp
      obtain ⟨kv, hkv, hcz⟩ := RC.cells HROW.out HCELL.out hget
      have e0 : w.cell? ⟨g, o + q * 8, none⟩ = some (.string (kdS z.t.k)) := hcz 0 (by decide)
      have e1 : w.cell? ⟨g, o + q * 8 + 1, none⟩ = some (.string z.t.t) := by rw [Nat.add_assoc]; exact hcz 1 (by decide)
      have e2 : w.cell? ⟨g, o + q * 8 + 2, none⟩ = some (.string z.t.u) := by rw [Nat.add_assoc]; exact hcz 2 (by decide)
      have e3 : w.cell? ⟨g, o + q * 8 + 3, none⟩ = some (.int .i64 (z.t.a : Int)) := by rw [Nat.add_assoc]; exact hcz 3 (by decide)
      have e4 : w.cell? ⟨g, o + q * 8 + 4, none⟩ = some (.int .i64 (z.t.b : Int)) := by rw [Nat.add_assoc]; exact hcz 4 (by decide)
      have e5 : w.cell? ⟨g, o + q * 8 + 5, none⟩ = some (.string (opS z.e)) := by rw [Nat.add_assoc]; exact hcz 5 (by decide)
      have e6 : w.cell? ⟨g, o + q * 8 + 6, none⟩ = some kv := by rw [Nat.add_assoc]; exact hcz 6 (by decide)
      have e7 : w.cell? ⟨g, o + q * 8 + 7, none⟩ = some (.bool z.cl) := by rw [Nat.add_assoc]; exact hcz 7 (by decide)
      obtain ⟨A6, c6, hkve, _⟩ := hkv.len
      subst hkve
      rw [hon] at hl2
      have hqI : (q : Int) + 1 - 1 = (q : Int) := by omega
      have HQ2 := Lib.hid hq
      have HON := Lib.hid hon
      have HKV := Lib.hid hkv
      have HKB := Lib.hid (kdS_bl z.t.k)
      have HEB := Lib.hid (opS_nil z.e)
      rw [hon]
      clear hq hon hget hcz hkv
      have hqc : (q : Int) ≤ (c : Int) := by omega
      by_cases hz : z.t.k = 0
      · have hzI : ((kdS z.t.k).toList == [98, 108, 97, 110, 107]) = true := by rw [HKB.out]; exact decide_eq_true hz
        have HRB : Hid (endL cs = endL a) := by unfold Hid; rw [HP.out.1, endL_bl (by unfold blm bl0; exact decide_eq_true hz)]
        clear hz
        go_wp2_with fail
        go_roundw
        case rel => exact ⟨a, by rw [← HQ2.out], ⟨HRB.out, (List.prefix_append a [z]).trans HP.out.2⟩, by rw [← HQ2.out]; omega, by first | rfl | trivial⟩
        case measure => simp [slN]
      · have hzI : ((kdS z.t.k).toList == [98, 108, 97, 110, 107]) = false := by rw [HKB.out]; exact decide_eq_false hz
        have HRN : Hid (endL cs = a ++ [endC z]) := by unfold Hid; rw [HP.out.1, endL_no (by unfold blm bl0; exact decide_eq_false hz)]
        have HSUB : Hid (endC z = z → RC w (fun g => g < lim) (.slice (some ⟨g, o, none⟩) (q + 1) c) (endL cs)) := fun e => by
          rw [HRN.out, e]
          obtain ⟨r, hr⟩ := HP.out.2
          have := HROW.out
          rw [← hr] at this
          exact RC.sub (p := []) (a := 0) this HCELL.out rfl (fun _ => by simp) HG.out (by rw [HON.out]) (by omega)
        have hq0 : ¬ (q : Int) + 1 = 0 := by omega
        have hqb : ((q : Int) + 1 == 0) = false := beq_eq_false_iff_ne.2 hq0
        clear hz
        by_cases he : z.e = 0
        · have heI : ((opS z.e).toList == []) = true := by rw [HEB.out]; exact decide_eq_true he
          have HR := Lib.hid (HSUB.out (endC_id (.inl he)))
          clear he
          go_wp2_with fail
          go_ret
          exact ⟨_, rfl, HR.out.mono fun g h => .inl h, Below.refl _ _⟩
        · have heI : ((opS z.e).toList == []) = false := by rw [HEB.out]; exact decide_eq_false he
          cases hc : z.cl with
          | true =>
            have HR := Lib.hid (HSUB.out (endC_id (.inr hc)))
            rw [hc] at e7
            clear he hc
            go_wp2_with fail
            go_ret
            exact ⟨_, rfl, HR.out.mono fun g h => .inl h, Below.refl _ _⟩
          | false =>
            rw [hc] at e7
            have HRX : Hid (endL cs = a ++ [.mk z.t z.e (endL z.ks) false]) := by unfold Hid; rw [HRN.out, endC_op he hc, hc]
            clear he hc HSUB
            go_upto_region 7 with fail
            obtain ⟨rr, hrr⟩ : ∃ rr, rr = w.heap.size := ⟨_, rfl⟩
            obtain ⟨W, hW⟩ : ∃ W, W = w.alloc (.cells #[.string (kdS z.t.k), .string z.t.t, .string z.t.u, .int .i64 (z.t.a : Int), .int .i64 (z.t.b : Int), .string (opS z.e), .slice A6 z.ks.length c6, .bool false] tC) := ⟨_, rfl⟩
            rw [← hW, ← hrr]
            have hb7 : Bk W rr tC #[.string (kdS z.t.k), .string z.t.t, .string z.t.u, .int .i64 (z.t.a : Int), .int .i64 (z.t.b : Int), .string (opS z.e), .slice A6 z.ks.length c6, .bool false] := by rw [hW]; exact bk_new' _ _ _ hrr
            have hbW : Below w.heap.size w W := by rw [hW]; exact bl_alloc (Below.refl _ _) _
            have c0 := hb7.cell 0
            have c1 := hb7.cell 1
            have c2 := hb7.cell 2
            have c3 := hb7.cell 3
            have c4 := hb7.cell 4
            have c5 := hb7.cell 5
            have c6b := hb7.cell 6
            have c7 := hb7.cell 7
            have f6 := hb7.free 6
            have hl7 := hb7.lt
            have HB7 := Lib.hid hb7
            have HBW := Lib.hid hbW
            have HRR := Lib.hid hrr
            have hwW := hbW.size
            have hsz : szL z.ks + 1 ≤ szL cs := by
              obtain ⟨r, hr⟩ := HP.out.2
              rw [← hr, szL_app, szL_app, szL, szC_ks]; omega
            have HK7 := Lib.hid (HIH.out z.ks (.slice A6 z.ks.length c6) lim W (by have := HN.out; omega) (by omega) (HKV.out.below hbW (fun g h => Nat.lt_of_lt_of_le h hlim)) (Nat.le_trans hlim hwW))
            obtain ⟨Ra, hra1, hra2⟩ : RC w (fun g => g < lim) (.slice (some ⟨g, o, none⟩) q c) a := by
              obtain ⟨r, hr⟩ := HP.out.2
              have := HROW.out
              rw [← hr, List.append_assoc] at this
              exact RC.sub (p := []) (a := 0) this HCELL.out rfl (fun _ => by simp) HG.out HQ2.out (by omega)
            rw [← HQ2.out] at hra2
            have HRA := Lib.hid hra1
            have HRD := Lib.hid hra2
            clear e0 e1 e2 e3 e4 e5 e6 e7 hW hb7 hbW hrr hra1 hra2 hsz HKB HEB hzI heI
            go_upto_region 9 with (go_at_call 24; refine (HK7.out).mono ?_; rintro e' w7 ⟨v7, rfl, hrc, hb⟩; obtain ⟨A7, n7, rfl, _⟩ := hrc.len; have HRC7 := Lib.hid hrc; have HBE := Lib.hid hb; have hb7 := HB7.out.below hb hl7; clear c0 c1 c2 c3 c4 c5 c7 c6b f6 hl7; have c0 := hb7.cell 0; have c1 := hb7.cell 1; have c2 := hb7.cell 2; have c3 := hb7.cell 3; have c4 := hb7.cell 4; have c5 := hb7.cell 5; have c6b := hb7.cell 6; have c7 := hb7.cell 7; have f6 := hb7.free 6; have hl7 := hb7.lt; have HB76 := Lib.hid hb7; clear hrc hb hb7)
            obtain ⟨W2, hW2⟩ : ∃ W2, W2 = w7.setCell ⟨rr, 6, none⟩ (.slice A7 (endL z.ks).length n7) := ⟨_, rfl⟩
            rw [← hW2]
            have h7z := HBE.out.size
            have hb7 : Bk W2 rr tC #[.string (kdS z.t.k), .string z.t.t, .string z.t.u, .int .i64 (z.t.a : Int), .int .i64 (z.t.b : Int), .string (opS z.e), .slice A7 (endL z.ks).length n7, .bool false] := by rw [hW2]; exact HB76.out.set_ 6 (.slice A7 (endL z.ks).length n7)
            have hbW2 : Below w.heap.size w W2 := by
              rw [hW2]
              exact bl_set (HBW.out.trans (HBE.out.mono hwW)) _ _ (by rw [HRR.out]; exact Nat.le_refl _) _
            have hsz2 : W2.heap.size = w7.heap.size := by rw [hW2]; simp [World.setCell]
            have HRK : Hid (RC W2 (MdO lim W W2) (.slice A7 (endL z.ks).length n7) (endL z.ks)) := by
              have hne : ∀ g, MdO lim W w7 g → rr ≠ g := fun g hg => by
                have h1 := HB7.out.lt
                have h2 := HRR.out
                rcases hg with hg | hg
                · omega
                · have := hg.1; omega
              have q1 := HRC7.out.keep (w' := W2) (fun g o hg => by rw [hW2, World.cell?_setCell_far _ _ _ _ (hne g hg)])
              refine q1.mono fun g hg => ?_
              rcases hg with hg | hg
              · exact .inl hg
              · exact .inr ⟨hg.1, by rw [hsz2]; exact hg.2⟩
            have HRDS : Hid (RdS W2 lim 8 (.slice (some ⟨g, o, none⟩) q c) q Ra) := (HRD.out.keep (w' := W2) fun g o hg => hbW2.cell (p := ⟨g, o, none⟩) (Nat.lt_of_lt_of_le hg hlim)).toS (fun g h => h)
            have HB72 := Lib.hid hb7
            have HWW : Hid (W.heap.size ≤ W2.heap.size) := by unfold Hid; rw [hsz2]; exact h7z
            have HBW2 := Lib.hid hbW2
            have hwW2 := hbW2.size
            clear c0 c1 c2 c3 c4 c5 c7 c6b f6 hl7
            clear hW2 hb7 hbW2 hsz2 HB76 HRC7 HBE HK7 HRD
            go_upto_region 10 with (at_builtin; refine wp_spread rfl _ _ 30 rfl W2.heap.size tC Tryd.underlying30 inf_rc rfl (by decide) (.slice none 0 0) 0 [] rfl (World.ownsRow_nil _ _ _ _) lim (.slice (some ⟨g, o, none⟩) q c) q Ra rfl HRDS.out (RowC.ones HRA.out) (by unfold maxLen; omega) (by omega) (Nat.le_refl _) ?_; intro v9 w9 hown9 hgrow9 hat9; have HO9 := Lib.hid hown9; have HB9 : Hid (Below W2.heap.size W2 w9) := (Below.refl _ _).grown hgrow9 (Nat.le_refl _) (fun k hk => by simp [Value.ownBlock] at hk); clear hown9 hgrow9 hat9)
            have hb7 := HB72.out.below HB9.out HB72.out.lt
            have c0 := hb7.cell 0
            have c1 := hb7.cell 1
            have c2 := hb7.cell 2
            have c3 := hb7.cell 3
            have c4 := hb7.cell 4
            have c5 := hb7.cell 5
            have c6b := hb7.cell 6
            have c7 := hb7.cell 7
            have f6 := hb7.free 6
            have hl7 := hb7.lt
            clear hb7
            have HO9 : Hid (w9.ownsRow W2.heap.size tC 8 v9 q Ra) := by have h := HO9.out; rw [Nat.zero_add, List.nil_append] at h; exact h
            have h9 := HB9.out.size
            go_wp2_with (at_builtin; refine wp_push rfl _ _ 30 rfl W2.heap.size tC Tryd.underlying30 inf_rc rfl (by decide) w9 v9 q Ra [.string (kdS z.t.k), .string z.t.t, .string z.t.u, .int .i64 (z.t.a : Int), .int .i64 (z.t.b : Int), .string (opS z.e), .slice A7 (endL z.ks).length n7, .bool false] rfl rfl rfl HO9.out rfl (by simp [Value.oneCell']) (by omega) (by omega) h9 ?_; intro v10 w10 hpush; have HPU := Lib.hid hpush; clear hpush)
            go_ret
            have hbT : Below W2.heap.size W2 w10 := HPU.out.below HB9.out (Nat.le_refl _) h9
            have hbF : Below w.heap.size w w10 := HBW2.out.trans (hbT.mono hwW2)
            have hWs : W.heap.size ≤ W2.heap.size := HWW.out
            refine ⟨_, rfl, ?_, hbF⟩
            rw [HRX.out]
            have hsz10 := hbT.size
            have r1 : RowC w10 (MdO lim w w10) a Ra := (HRA.out.blw hbF (fun g h => Nat.lt_of_lt_of_le h hlim)).mono fun g h => .inl h
            have r2 : RC w10 (MdO lim w w10) (.slice A7 (endL z.ks).length n7) (endL z.ks) := (HRK.out.below hbT (fun g h => by
              rcases h with h | h
              · omega
              · exact h.2)).mono fun g h => by
                rcases h with h | h
                · exact .inl h
                · exact .inr ⟨Nat.le_trans hwW h.1, Nat.lt_of_lt_of_le h.2 hsz10⟩
            obtain ⟨RK, k1, k2⟩ := r2
            exact RC.of_own HPU.out.own (r1.app (RowC.one k1 k2)) (fun g h => h) (fun g _ h1 h2 => .inr ⟨Nat.le_trans hwW2 h1, h2⟩) (by rw [List.length_append, List.length_singleton, ← HQ2.out])
end Go.Proofs.YtmhejppfjngbhaaDoor
