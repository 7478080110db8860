/- sheets: an entry of a page's media: the document's -/
import Derived.Test.YtmhejppfjngbhaaDoorZj
namespace Go.Proofs.YtmhejppfjngbhaaDoor
set_option linter.unusedVariables false
set_option linter.unusedSimpArgs false
open Go.RowKit Go.Cas

/-- of all tokens of components -/
inductive AllC (Q : Tk → Prop) : List Cm → Prop
  | nil : AllC Q []
  | cons {t : Tk} {e : Nat} {ks cs : List Cm} {c : Bool} : Q t → AllC Q ks → AllC Q cs → AllC Q (.mk t e ks c :: cs)
theorem AllC.get {Q : Tk → Prop} {cs : List Cm} (h : AllC Q cs) : ∀ x ∈ cs, Q x.t ∧ AllC Q x.ks := by
  induction h with
  | nil => intro x hx; cases hx
  | cons h1 h2 _ _ ih =>
    intro x hx
    rcases List.mem_cons.1 hx with rfl | hx
    · exact ⟨h1, h2⟩
    · exact ih x hx
theorem AllC_nst {Q : Tk → Prop} {l r : List Tk} {e : Nat} {cs : List Cm} {c : Bool} (h : Nst l e cs r c) : (∀ t ∈ l, Q t) → AllC Q cs := by
  induction h with
  | nil => intro _; exact .nil
  | endd _ _ => intro _; exact .nil
  | opn _ _ h3 _ ih1 ih2 =>
    intro h
    have hl := fun t ht => h t (List.mem_cons_of_mem _ ht)
    exact .cons (h _ (List.mem_cons_self ..)) (ih1 hl) (ih2 fun t ht => hl t ((Nst_suf h3).subset ht))
  | one _ _ _ ih => intro h; exact .cons (h _ (List.mem_cons_self ..)) .nil (ih fun t ht => h t (List.mem_cons_of_mem _ ht))
theorem szL_mem {cs : List Cm} {x : Cm} (h : x ∈ cs) : szL x.ks ≤ szL cs := by
  induction cs with
  | nil => cases h
  | cons y cs ih =>
    rw [szL, szC_ks]
    rcases List.mem_cons.1 h with rfl | h
    · omega
    · have := ih h; omega
def TkG (t : Tk) : Prop := t.k ≤ 10 ∧ DimOk t ∧ t.t.size ≤ 1000000000
theorem enL_nil {f : Nat} {fi ho : Bool} {wd hg : Int} : enL (f + 1) [] fi ho wd hg = ho := by rw [enL, if_pos rfl]
theorem enL_first {f : Nat} {x : Cm} {r : List Cm} {ho : Bool} {wd hg : Int} : enL (f + 1) (x :: r) true ho wd hg = match cdC x wd hg with
    | none => false
    | some b => enL f r false (ho && b) wd hg := by rw [enL, if_neg (by simp), if_pos rfl]; rfl
theorem enL_no {f : Nat} {cs : List Cm} {ho : Bool} {wd hg : Int} (h : cs ≠ []) (hl : leadC cs = none) : enL (f + 1) cs false ho wd hg = false := by rw [enL, if_neg h, if_neg (by simp), hl]
theorem enL_go {f : Nat} {cs r : List Cm} {x : Cm} {ho : Bool} {wd hg : Int} (h : cs ≠ []) (hl : leadC cs = some (x :: r)) : enL (f + 1) cs false ho wd hg = match cdC x wd hg with
    | none => false
    | some b => enL f r false (ho && b) wd hg := by rw [enL, if_neg h, if_neg (by simp), hl]; rfl
theorem leadC_short {cs : List Cm} (h : cs.length < 4) : leadC cs = none := by
  match cs, h with
  | [], _ => rfl
  | [_], _ => rfl
  | [_, _], _ => rfl
  | [_, _, _], _ => rfl
  | _ :: _ :: _ :: _ :: _, h => simp at h; omega
set_option maxHeartbeats 16000000 in
set_option maxRecDepth 100000 in
theorem c_rentry (cs : List Cm) (v : Value) (lim : Nat) (wd hg : Int) (w : World) (h : RC w (fun g => g < lim) v cs) (hlim : lim ≤ w.heap.size) (hs : szL cs ≤ 1000000000) (hall : AllC TkG cs) : Calls Tryd.prog 14 #[v, .int .i64 wd, .int .i64 hg] w fun e w' => e = .returned (.bool (enC cs wd hg)) ∧ Below w.heap.size w w' := by
  obtain ⟨EN, hEN⟩ : ∃ EN, EN = enC cs wd hg := ⟨_, rfl⟩
  rw [← hEN]
  have HLIM := Lib.hid hlim
  have hlen := szL_len cs
  cases cs with
  | nil =>
    obtain ⟨A, c, rfl⟩ := h.nil
    have HEN : Hid (EN = false) := by rw [hEN]; rfl
    clear hEN h
    go_enter Tryd.func14, Tryd.ntmps14
    go_wp2_with fail
    go_ret
    exact ⟨ret_bool HEN.out.symm, Below.refl _ _⟩
  | cons a0 r0 =>
    obtain ⟨g, o, c, R, rfl, hcap, hgl, hrow, hcell⟩ := h.form (by simp)
    obtain ⟨L, hL⟩ : ∃ L, L = a0 :: r0 := ⟨_, rfl⟩
    rw [← hL] at h hs hall hrow hcap hEN hlen ⊢
    obtain ⟨n, hn⟩ : ∃ n, n = L.length := ⟨_, rfl⟩
    rw [← hn] at hcap hlen ⊢
    have HN := Lib.hid hn
    have hn1 : n = r0.length + 1 := by rw [hn, hL]; rfl
    have HCX : Hid (∀ (i : Nat) (x : Cm), L[i]? = some x → ∃ kv, RC w (fun g => g < lim) kv x.ks ∧ ∀ (wr : World), Below w.heap.size w wr → ∀ j, j < 8 → wr.cell? ⟨g, o + (i * 8 + j), none⟩ = (rcc x.t x.e kv x.cl)[j]?) := fun i x hi => by
      obtain ⟨kv, k1, k2⟩ := RC.cells hrow hcell hi
      exact ⟨kv, k1, fun wr hb j hj => (hb.cell (p := ⟨g, o + (i * 8 + j), none⟩) (Nat.lt_of_lt_of_le hgl hlim)).trans (k2 j hj)⟩
    have HRD : Hid (∀ (i : Nat) (x : Cm) (kv : Value) (wr : World), L[i]? = some x → RC w (fun g => g < lim) kv x.ks → Below w.heap.size w wr → Calls Tryd.prog 26 #[.agg #[.string (kdS x.t.k), .string x.t.t, .string x.t.u, .int .i64 (x.t.a : Int), .int .i64 (x.t.b : Int), .string (opS x.e), kv, .bool x.cl], .int .i64 wd, .int .i64 hg] wr (RcRet x wd hg wr)) := fun i x kv wr hi hk hb => by
      have hx := hall.get x (List.mem_of_getElem? hi)
      have h1 := szL_mem (List.mem_of_getElem? hi)
      have h2 := szL_len x.ks
      exact c_rcond x kv lim wd hg wr (hk.below hb fun g h => Nat.lt_of_lt_of_le h hlim) (Nat.le_trans hlim hb.size) (by omega) hx.1.1 fun y hy => (hx.2.get y hy).1
    have HALL : Hid (∀ (i : Nat) (x : Cm), L[i]? = some x → TkG x.t) := fun i x hi => (hall.get x (List.mem_of_getElem? hi)).1
    have ha0 : L[0]? = some a0 := by rw [hL]; rfl
    have hr0 : L.drop 1 = r0 := by rw [hL]; rfl
    have hd0 : L.drop 0 = a0 :: r0 := by rw [hL]; rfl
    obtain ⟨kv0, _, hc0⟩ := HCX.out 0 a0 ha0
    have e0 : w.cell? ⟨g, o, none⟩ = some (.string (kdS a0.t.k)) := hc0 w (Below.refl _ _) 0 (by decide)
    have e1 : w.cell? ⟨g, o + 1, none⟩ = some (.string a0.t.t) := hc0 w (Below.refl _ _) 1 (by decide)
    have bn := kdS_nm a0.t.k (HALL.out 0 a0 ha0).1
    have hn0 : ¬ (n : Int) = 0 := by omega
    have hnb : ((n : Int) == 0) = false := beq_eq_false_iff_ne.2 hn0
    have hnp : (0 : Int) < (n : Int) := by omega
    have hncI : (n : Int) ≤ 1000000000 := by omega
    have HEC : Hid (EN = if a0.t.k = 6 then (if small a0.t.t = prS then enL (r0.length + 1) r0 false false wd hg else if small a0.t.t = scS ∨ small a0.t.t = alS then enL (r0.length + 1) r0 false true wd hg else false) else enL (r0.length + 2) (a0 :: r0) true true wd hg) := by
      unfold Hid; rw [hEN, hL]; rfl
    have hsz := (HALL.out 0 a0 ha0).2.2
    have HN1 := Lib.hid hn1
    have HR0 := Lib.hid hr0
    have HD0 := Lib.hid hd0
    clear h hrow hcell hL hn hEN hc0 ha0 hs hall hr0 hd0 hn1 hlim
    by_cases ha : a0.t.k = 6
    · rw [decide_eq_true ha] at bn
      have HSM := Lib.hid (c_rSmall a0.t.t w (by omega))
      have HEN : Hid (EN = if small a0.t.t = prS then enL (r0.length + 1) r0 false false wd hg else if small a0.t.t = scS ∨ small a0.t.t = alS then enL (r0.length + 1) r0 false true wd hg else false) := by
        unfold Hid; rw [HEC.out, if_pos ha]
      generalize small a0.t.t = what at *
      have b0 := beq_list what prS
      have b1 := beq_list what scS
      have b2 := beq_list what alS
      rw [show prS.toList = [112, 114, 105, 110, 116] by rw [ByteArray.toList_eq]; rfl] at b0
      rw [show scS.toList = [115, 99, 114, 101, 101, 110] by rw [ByteArray.toList_eq]; rfl] at b1
      rw [show alS.toList = [97, 108, 108] by rw [ByteArray.toList_eq]; rfl] at b2
      have HNE : prS ≠ scS ∧ prS ≠ alS := by decide
      clear ha HEC
      by_cases h0 : what = prS
      · have h1 : ¬ what = scS := fun e => HNE.1 (h0.symm.trans e)
        have h2 : ¬ what = alS := fun e => HNE.2 (h0.symm.trans e)
        have HR : Hid (EN = enL (r0.length + 1) r0 false false wd hg) := by unfold Hid; rw [HEN.out, if_pos h0]
        rw [decide_eq_true h0] at b0
        rw [decide_eq_false h1] at b1
        rw [decide_eq_false h2] at b2
        have b0n : (what.toList != [112, 114, 105, 110, 116]) = false := by rw [bne, b0]; rfl
        have b1n : (what.toList != [115, 99, 114, 101, 101, 110]) = true := by rw [bne, b1]; rfl
        have b2n : (what.toList != [97, 108, 108]) = true := by rw [bne, b2]; rfl
        clear h0 h1 h2 HEN HNE
        go_enter Tryd.func14, Tryd.ntmps14
        go_wp2_with (go_at_call 25; refine (HSM.out).mono ?_; rintro e' w3 ⟨rfl, hb3⟩; have HB3 := Lib.hid hb3; clear hb3)
        clear e0 e1 b0 b1 b0n b1n HSM bn
        go_loopw [7, 8, 10] (fun u7 u8 u10 wr => ∃ (k : Nat) (ho fi : Bool) (f : Nat), u7 = .bool ho ∧ u8 = .int .i64 (k : Int) ∧ u10 = .bool fi ∧ k ≤ n ∧ n < f + k ∧ Hid (EN = enL f (L.drop k) fi ho wd hg) ∧ Hid (Below w.heap.size w wr)) (fun _ u8 _ _ => n - (intOf u8).toNat)
        case atStart => exact ⟨1, false, false, r0.length + 1, rfl, rfl, rfl, by omega, by have := HN1.out; omega, by rw [HR0.out]; exact HR.out, HB3.out⟩
        case round =>
          obtain ⟨k, ho, fi, f, rfl, rfl, rfl, hkn, hf, HE, HBR⟩ := hrel
          have hwz := HBR.out.size
          cases f with
          | zero => omega
          | succ f =>
          by_cases hlt : k < n
          · have hkI : (k : Int) < (n : Int) := by omega
            have hk0 : (0 : Int) ≤ (k : Int) := by omega
            cases fi with
            | true =>
              obtain ⟨x, hx⟩ : ∃ x, L[k]? = some x := ⟨L[k]'(by rw [← HN.out]; exact hlt), List.getElem?_eq_getElem _⟩
              have hdx : L.drop k = x :: L.drop (k + 1) := by
                obtain ⟨h1, h2⟩ := List.getElem?_eq_some_iff.1 hx
                rw [List.drop_eq_getElem_cons h1, h2]
              have HG : Hid (EN = match cdC x wd hg with
                | none => false
                | some b => enL f (L.drop (k + 1)) false (ho && b) wd hg) := by unfold Hid; rw [HE.out, hdx, enL_first]
              clear hdx
              obtain ⟨kvx, hkvx, hcx⟩ := HCX.out k x hx
              obtain ⟨Ax, cx, hkvxe, _⟩ := hkvx.len
              subst hkvxe
              have hcx := hcx wr HBR.out
              have x0 : wr.cell? ⟨g, o + k * 8, none⟩ = some (.string (kdS x.t.k)) := hcx 0 (by decide)
              have x1 : wr.cell? ⟨g, o + k * 8 + 1, none⟩ = some (.string x.t.t) := by rw [Nat.add_assoc]; exact hcx 1 (by decide)
              have x2 : wr.cell? ⟨g, o + k * 8 + 2, none⟩ = some (.string x.t.u) := by rw [Nat.add_assoc]; exact hcx 2 (by decide)
              have x3 : wr.cell? ⟨g, o + k * 8 + 3, none⟩ = some (.int .i64 (x.t.a : Int)) := by rw [Nat.add_assoc]; exact hcx 3 (by decide)
              have x4 : wr.cell? ⟨g, o + k * 8 + 4, none⟩ = some (.int .i64 (x.t.b : Int)) := by rw [Nat.add_assoc]; exact hcx 4 (by decide)
              have x5 : wr.cell? ⟨g, o + k * 8 + 5, none⟩ = some (.string (opS x.e)) := by rw [Nat.add_assoc]; exact hcx 5 (by decide)
              have x6 : wr.cell? ⟨g, o + k * 8 + 6, none⟩ = some (.slice Ax x.ks.length cx) := by rw [Nat.add_assoc]; exact hcx 6 (by decide)
              have x7 : wr.cell? ⟨g, o + k * 8 + 7, none⟩ = some (.bool x.cl) := by rw [Nat.add_assoc]; exact hcx 7 (by decide)
              have HRC := Lib.hid (fun wz hz => HRD.out k x _ wz hx hkvx hz)
              clear hcx hkvx hx
              go_upto_region 19 with (go_at_call 26; refine (HRC.out _ HBR.out).mono ?_; rintro e' w5 ⟨okb, isb, rfl, hcs, hb5⟩; have HCS := Lib.hid hcs; have HB5 : Hid (Below w.heap.size w w5) := (HBR.out).trans (hb5.mono (HBR.out).size); clear hcs hb5)
              rcases HCS.out with ⟨hn5, his5⟩ | ⟨hs5, his5⟩
              · subst his5
                have HR5 : Hid (EN = false) := by unfold Hid; rw [HG.out, hn5]
                go_wp2_with fail
                go_ret
                exact ⟨ret_bool HR5.out.symm, HB5.out⟩
              · subst his5
                have HR5 : Hid (EN = enL f (L.drop (k + 1)) false (ho && okb) wd hg) := by unfold Hid; rw [HG.out, hs5]
                cases ho with
                | true =>
                  go_wp2_with fail
                  go_roundw
                  case rel => exact ⟨k + 1, okb, false, f, rfl, by go_num, rfl, by omega, by omega, HR5.out, HB5.out⟩
                  case measure => simp [intOf]; omega
                | false =>
                  go_wp2_with fail
                  go_roundw
                  case rel => exact ⟨k + 1, false, false, f, rfl, by go_num, rfl, by omega, by omega, HR5.out, HB5.out⟩
                  case measure => simp [intOf]; omega
            | false =>
              by_cases h4 : n ≤ k + 3
              · have h4I : (n : Int) ≤ (k : Int) + 3 := by omega
                have HF : Hid (EN = false) := by
                  unfold Hid
                  rw [HE.out, enL_no (fun e => by have := congrArg List.length e; rw [List.length_drop, ← HN.out] at this; simp at this; omega) (leadC_short (by rw [List.length_drop, ← HN.out]; omega))]
                go_wp2_with fail
                go_ret
                exact ⟨ret_bool HF.out.symm, HBR.out⟩
              · have h4I : ¬ (n : Int) ≤ (k : Int) + 3 := by omega
                obtain ⟨a, hxa⟩ : ∃ x, L[k]? = some x := ⟨L[k]'(by rw [← HN.out]; omega), List.getElem?_eq_getElem _⟩
                obtain ⟨b, hxb⟩ : ∃ x, L[k + 1]? = some x := ⟨L[k + 1]'(by rw [← HN.out]; omega), List.getElem?_eq_getElem _⟩
                obtain ⟨d, hxd⟩ : ∃ x, L[k + 2]? = some x := ⟨L[k + 2]'(by rw [← HN.out]; omega), List.getElem?_eq_getElem _⟩
                obtain ⟨x, hx⟩ : ∃ x, L[k + 3]? = some x := ⟨L[k + 3]'(by rw [← HN.out]; omega), List.getElem?_eq_getElem _⟩
                have hdx : L.drop k = a :: b :: d :: x :: L.drop (k + 3 + 1) := by
                  have q : ∀ i y, L[i]? = some y → L.drop i = y :: L.drop (i + 1) := fun i y hy => by
                    obtain ⟨h1, h2⟩ := List.getElem?_eq_some_iff.1 hy
                    rw [List.drop_eq_getElem_cons h1, h2]
                  rw [q _ _ hxa, q _ _ hxb, q _ _ hxd, q _ _ hx]
                have HLD : Hid (leadC (L.drop k) = if a.t.k = 0 ∧ b.t.k = 6 ∧ small b.t.t = anS ∧ d.t.k = 0 then some (x :: L.drop (k + 3 + 1)) else none) := by unfold Hid; rw [hdx, leadC]
                have HNO : Hid (¬ (a.t.k = 0 ∧ b.t.k = 6 ∧ small b.t.t = anS ∧ d.t.k = 0) → EN = false) := fun e => by rw [HE.out, enL_no (by rw [hdx]; simp) (by rw [HLD.out, if_neg e])]
                have HGO : Hid ((a.t.k = 0 ∧ b.t.k = 6 ∧ small b.t.t = anS ∧ d.t.k = 0) → EN = match cdC x wd hg with
                  | none => false
                  | some b => enL f (L.drop (k + 3 + 1)) false (ho && b) wd hg) := fun e => by rw [HE.out, enL_go (x := x) (r := L.drop (k + 3 + 1)) (by rw [hdx]; simp) (by rw [HLD.out, if_pos e])]
                obtain ⟨kva, _, hca⟩ := HCX.out k a hxa
                obtain ⟨kvb, _, hcb⟩ := HCX.out (k + 1) b hxb
                obtain ⟨kvd, _, hcd⟩ := HCX.out (k + 2) d hxd
                have hca := hca wr HBR.out
                have hcb := hcb wr HBR.out
                have hcd := hcd wr HBR.out
                have a0 : wr.cell? ⟨g, o + k * 8, none⟩ = some (.string (kdS a.t.k)) := hca 0 (by decide)
                have b0 : wr.cell? ⟨g, o + (k + 1) * 8, none⟩ = some (.string (kdS b.t.k)) := hcb 0 (by decide)
                have b1 : wr.cell? ⟨g, o + (k + 1) * 8 + 1, none⟩ = some (.string b.t.t) := by rw [Nat.add_assoc]; exact hcb 1 (by decide)
                have d0 : wr.cell? ⟨g, o + (k + 2) * 8, none⟩ = some (.string (kdS d.t.k)) := hcd 0 (by decide)
                have ba := kdS_bl a.t.k
                have bb := kdS_nm b.t.k (HALL.out _ b hxb).1
                have bd := kdS_bl d.t.k
                have bs := beq_list (small b.t.t) anS
                rw [show anS.toList = [97, 110, 100] by rw [ByteArray.toList_eq]; rfl] at bs
                have HSMB := Lib.hid (c_rSmall b.t.t wr (by have := (HALL.out _ b hxb).2.2; omega))
                have HDC : Hid (∀ w4, Below wr.heap.size wr w4 → w4.cell? ⟨g, o + (k + 2) * 8, none⟩ = some (.string (kdS d.t.k))) := fun w4 h4 => (h4.cell (p := ⟨g, o + (k + 2) * 8, none⟩) (Nat.lt_of_lt_of_le hgl (Nat.le_trans HLIM.out hwz))).trans d0
                have hkc : (k : Int) + 3 ≤ (c : Int) := by omega
                clear hca hcb hcd hxa hxb hxd hdx HLD HE
                by_cases q1 : a.t.k = 0
                · rw [decide_eq_true q1] at ba
                  have ban : ((kdS a.t.k).toList != [98, 108, 97, 110, 107]) = false := by rw [bne, ba]; rfl
                  by_cases q2 : b.t.k = 6
                  · rw [decide_eq_true q2] at bb
                    have bbn : ((kdS b.t.k).toList != [110, 97, 109, 101]) = false := by rw [bne, bb]; rfl
                    by_cases q3 : small b.t.t = anS
                    · rw [decide_eq_true q3] at bs
                      have bsn : ((small b.t.t).toList != [97, 110, 100]) = false := by rw [bne, bs]; rfl
                      by_cases q4 : d.t.k = 0
                      · rw [decide_eq_true q4] at bd
                        have bdn : ((kdS d.t.k).toList != [98, 108, 97, 110, 107]) = false := by rw [bne, bd]; rfl
                        have HG : Hid (EN = match cdC x wd hg with
                          | none => false
                          | some b => enL f (L.drop (k + 3 + 1)) false (ho && b) wd hg) := HGO.out ⟨q1, q2, q3, q4⟩
                        generalize small b.t.t = sb at *
                        clear q1 q2 q3 q4 HNO HGO
                        have hxw := HCX.out (k + 3) x hx
                        go_upto_region 16 with (go_at_call 25; refine (HSMB.out).mono ?_; rintro e' w4 ⟨rfl, hb4⟩; have HB4 : Hid (Below w.heap.size w w4) := HBR.out.trans (hb4.mono hwz); have d4 := HDC.out w4 hb4; clear hb4)
                        have hw4 := HB4.out.size
                        clear d0 d4
                        obtain ⟨kvx, hkvx, hcx⟩ := HCX.out (k + 3) x hx
                        obtain ⟨Ax, cx, hkvxe, _⟩ := hkvx.len
                        subst hkvxe
                        have hcx := hcx w4 HB4.out
                        have x0 : w4.cell? ⟨g, o + (k + 3) * 8, none⟩ = some (.string (kdS x.t.k)) := hcx 0 (by decide)
                        have x1 : w4.cell? ⟨g, o + (k + 3) * 8 + 1, none⟩ = some (.string x.t.t) := by rw [Nat.add_assoc]; exact hcx 1 (by decide)
                        have x2 : w4.cell? ⟨g, o + (k + 3) * 8 + 2, none⟩ = some (.string x.t.u) := by rw [Nat.add_assoc]; exact hcx 2 (by decide)
                        have x3 : w4.cell? ⟨g, o + (k + 3) * 8 + 3, none⟩ = some (.int .i64 (x.t.a : Int)) := by rw [Nat.add_assoc]; exact hcx 3 (by decide)
                        have x4 : w4.cell? ⟨g, o + (k + 3) * 8 + 4, none⟩ = some (.int .i64 (x.t.b : Int)) := by rw [Nat.add_assoc]; exact hcx 4 (by decide)
                        have x5 : w4.cell? ⟨g, o + (k + 3) * 8 + 5, none⟩ = some (.string (opS x.e)) := by rw [Nat.add_assoc]; exact hcx 5 (by decide)
                        have x6 : w4.cell? ⟨g, o + (k + 3) * 8 + 6, none⟩ = some (.slice Ax x.ks.length cx) := by rw [Nat.add_assoc]; exact hcx 6 (by decide)
                        have x7 : w4.cell? ⟨g, o + (k + 3) * 8 + 7, none⟩ = some (.bool x.cl) := by rw [Nat.add_assoc]; exact hcx 7 (by decide)
                        have HRC := Lib.hid (fun wz hz => HRD.out (k + 3) x _ wz hx hkvx hz)
                        clear hcx hkvx hx
                        go_upto_region 19 with (go_at_call 26; refine (HRC.out _ HB4.out).mono ?_; rintro e' w5 ⟨okb, isb, rfl, hcs, hb5⟩; have HCS := Lib.hid hcs; have HB5 : Hid (Below w.heap.size w w5) := (HB4.out).trans (hb5.mono (HB4.out).size); clear hcs hb5)
                        rcases HCS.out with ⟨hn5, his5⟩ | ⟨hs5, his5⟩
                        · subst his5
                          have HR5 : Hid (EN = false) := by unfold Hid; rw [HG.out, hn5]
                          go_wp2_with fail
                          go_ret
                          exact ⟨ret_bool HR5.out.symm, HB5.out⟩
                        · subst his5
                          have HR5 : Hid (EN = enL f (L.drop ((k + 3) + 1)) false (ho && okb) wd hg) := by unfold Hid; rw [HG.out, hs5]
                          cases ho with
                          | true =>
                            go_wp2_with fail
                            go_roundw
                            case rel => exact ⟨(k + 3) + 1, okb, false, f, rfl, by go_num, rfl, by omega, by omega, HR5.out, HB5.out⟩
                            case measure => simp [intOf]; omega
                          | false =>
                            go_wp2_with fail
                            go_roundw
                            case rel => exact ⟨(k + 3) + 1, false, false, f, rfl, by go_num, rfl, by omega, by omega, HR5.out, HB5.out⟩
                            case measure => simp [intOf]; omega
                      · rw [decide_eq_false q4] at bd
                        have bdn : ((kdS d.t.k).toList != [98, 108, 97, 110, 107]) = true := by rw [bne, bd]; rfl
                        have HF : Hid (EN = false) := HNO.out (fun e => q4 e.2.2.2)
                        generalize small b.t.t = sb at *
                        clear q1 q2 q3 q4 HNO HGO
                        go_wp2_with (go_at_call 25; refine (HSMB.out).mono ?_; rintro e' w4 ⟨rfl, hb4⟩; have HB4 : Hid (Below w.heap.size w w4) := HBR.out.trans (hb4.mono hwz); have d4 := HDC.out w4 hb4; clear hb4)
                        go_ret
                        exact ⟨ret_bool HF.out.symm, HB4.out⟩
                    · rw [decide_eq_false q3] at bs
                      have bsn : ((small b.t.t).toList != [97, 110, 100]) = true := by rw [bne, bs]; rfl
                      have HF : Hid (EN = false) := HNO.out (fun e => q3 e.2.2.1)
                      generalize small b.t.t = sb at *
                      clear q1 q2 q3 HNO HGO bd
                      go_wp2_with (go_at_call 25; refine (HSMB.out).mono ?_; rintro e' w4 ⟨rfl, hb4⟩; have HB4 : Hid (Below w.heap.size w w4) := HBR.out.trans (hb4.mono hwz); clear hb4)
                      go_ret
                      exact ⟨ret_bool HF.out.symm, HB4.out⟩
                  · rw [decide_eq_false q2] at bb
                    have bbn : ((kdS b.t.k).toList != [110, 97, 109, 101]) = true := by rw [bne, bb]; rfl
                    have HF : Hid (EN = false) := HNO.out (fun e => q2 e.2.1)
                    clear q1 q2 HNO HGO bd bs
                    go_wp2_with fail
                    go_ret
                    exact ⟨ret_bool HF.out.symm, HBR.out⟩
                · rw [decide_eq_false q1] at ba
                  have ban : ((kdS a.t.k).toList != [98, 108, 97, 110, 107]) = true := by rw [bne, ba]; rfl
                  have HF : Hid (EN = false) := HNO.out (fun e => q1 e.1)
                  clear q1 HNO HGO bd bs bb
                  go_wp2_with fail
                  go_ret
                  exact ⟨ret_bool HF.out.symm, HBR.out⟩
          · have hkI : ¬ (k : Int) < (n : Int) := by omega
            have HF : Hid (EN = ho) := by unfold Hid; rw [HE.out, List.drop_eq_nil_of_le (by rw [← HN.out]; omega), enL_nil]
            go_wp2_with fail
            go_ret
            exact ⟨ret_bool HF.out.symm, HBR.out⟩
      · rw [decide_eq_false h0] at b0
        have b0n : (what.toList != [112, 114, 105, 110, 116]) = true := by rw [bne, b0]; rfl
        by_cases h1 : what = scS
        · have HR : Hid (EN = enL (r0.length + 1) r0 false true wd hg) := by unfold Hid; rw [HEN.out, if_neg h0, if_pos (.inl h1)]
          rw [decide_eq_true h1] at b1
          have b1n : (what.toList != [115, 99, 114, 101, 101, 110]) = false := by rw [bne, b1]; rfl
          clear h0 h1 HEN HNE b2
          go_enter Tryd.func14, Tryd.ntmps14
          go_wp2_with (go_at_call 25; refine (HSM.out).mono ?_; rintro e' w3 ⟨rfl, hb3⟩; have HB3 := Lib.hid hb3; clear hb3)
          clear e0 e1 b0 b1 b0n b1n HSM bn
          go_loopw [7, 8, 10] (fun u7 u8 u10 wr => ∃ (k : Nat) (ho fi : Bool) (f : Nat), u7 = .bool ho ∧ u8 = .int .i64 (k : Int) ∧ u10 = .bool fi ∧ k ≤ n ∧ n < f + k ∧ Hid (EN = enL f (L.drop k) fi ho wd hg) ∧ Hid (Below w.heap.size w wr)) (fun _ u8 _ _ => n - (intOf u8).toNat)
          case atStart => exact ⟨1, true, false, r0.length + 1, rfl, rfl, rfl, by omega, by have := HN1.out; omega, by rw [HR0.out]; exact HR.out, HB3.out⟩
          case round =>
            obtain ⟨k, ho, fi, f, rfl, rfl, rfl, hkn, hf, HE, HBR⟩ := hrel
            have hwz := HBR.out.size
            cases f with
            | zero => omega
            | succ f =>
            by_cases hlt : k < n
            · have hkI : (k : Int) < (n : Int) := by omega
              have hk0 : (0 : Int) ≤ (k : Int) := by omega
              cases fi with
              | true =>
                obtain ⟨x, hx⟩ : ∃ x, L[k]? = some x := ⟨L[k]'(by rw [← HN.out]; exact hlt), List.getElem?_eq_getElem _⟩
                have hdx : L.drop k = x :: L.drop (k + 1) := by
                  obtain ⟨h1, h2⟩ := List.getElem?_eq_some_iff.1 hx
                  rw [List.drop_eq_getElem_cons h1, h2]
                have HG : Hid (EN = match cdC x wd hg with
                  | none => false
                  | some b => enL f (L.drop (k + 1)) false (ho && b) wd hg) := by unfold Hid; rw [HE.out, hdx, enL_first]
                clear hdx
                obtain ⟨kvx, hkvx, hcx⟩ := HCX.out k x hx
                obtain ⟨Ax, cx, hkvxe, _⟩ := hkvx.len
                subst hkvxe
                have hcx := hcx wr HBR.out
                have x0 : wr.cell? ⟨g, o + k * 8, none⟩ = some (.string (kdS x.t.k)) := hcx 0 (by decide)
                have x1 : wr.cell? ⟨g, o + k * 8 + 1, none⟩ = some (.string x.t.t) := by rw [Nat.add_assoc]; exact hcx 1 (by decide)
                have x2 : wr.cell? ⟨g, o + k * 8 + 2, none⟩ = some (.string x.t.u) := by rw [Nat.add_assoc]; exact hcx 2 (by decide)
                have x3 : wr.cell? ⟨g, o + k * 8 + 3, none⟩ = some (.int .i64 (x.t.a : Int)) := by rw [Nat.add_assoc]; exact hcx 3 (by decide)
                have x4 : wr.cell? ⟨g, o + k * 8 + 4, none⟩ = some (.int .i64 (x.t.b : Int)) := by rw [Nat.add_assoc]; exact hcx 4 (by decide)
                have x5 : wr.cell? ⟨g, o + k * 8 + 5, none⟩ = some (.string (opS x.e)) := by rw [Nat.add_assoc]; exact hcx 5 (by decide)
                have x6 : wr.cell? ⟨g, o + k * 8 + 6, none⟩ = some (.slice Ax x.ks.length cx) := by rw [Nat.add_assoc]; exact hcx 6 (by decide)
                have x7 : wr.cell? ⟨g, o + k * 8 + 7, none⟩ = some (.bool x.cl) := by rw [Nat.add_assoc]; exact hcx 7 (by decide)
                have HRC := Lib.hid (fun wz hz => HRD.out k x _ wz hx hkvx hz)
                clear hcx hkvx hx
                go_upto_region 19 with (go_at_call 26; refine (HRC.out _ HBR.out).mono ?_; rintro e' w5 ⟨okb, isb, rfl, hcs, hb5⟩; have HCS := Lib.hid hcs; have HB5 : Hid (Below w.heap.size w w5) := (HBR.out).trans (hb5.mono (HBR.out).size); clear hcs hb5)
                rcases HCS.out with ⟨hn5, his5⟩ | ⟨hs5, his5⟩
                · subst his5
                  have HR5 : Hid (EN = false) := by unfold Hid; rw [HG.out, hn5]
                  go_wp2_with fail
                  go_ret
                  exact ⟨ret_bool HR5.out.symm, HB5.out⟩
                · subst his5
                  have HR5 : Hid (EN = enL f (L.drop (k + 1)) false (ho && okb) wd hg) := by unfold Hid; rw [HG.out, hs5]
                  cases ho with
                  | true =>
                    go_wp2_with fail
                    go_roundw
                    case rel => exact ⟨k + 1, okb, false, f, rfl, by go_num, rfl, by omega, by omega, HR5.out, HB5.out⟩
                    case measure => simp [intOf]; omega
                  | false =>
                    go_wp2_with fail
                    go_roundw
                    case rel => exact ⟨k + 1, false, false, f, rfl, by go_num, rfl, by omega, by omega, HR5.out, HB5.out⟩
                    case measure => simp [intOf]; omega
              | false =>
                by_cases h4 : n ≤ k + 3
                · have h4I : (n : Int) ≤ (k : Int) + 3 := by omega
                  have HF : Hid (EN = false) := by
                    unfold Hid
                    rw [HE.out, enL_no (fun e => by have := congrArg List.length e; rw [List.length_drop, ← HN.out] at this; simp at this; omega) (leadC_short (by rw [List.length_drop, ← HN.out]; omega))]
                  go_wp2_with fail
                  go_ret
                  exact ⟨ret_bool HF.out.symm, HBR.out⟩
                · have h4I : ¬ (n : Int) ≤ (k : Int) + 3 := by omega
                  obtain ⟨a, hxa⟩ : ∃ x, L[k]? = some x := ⟨L[k]'(by rw [← HN.out]; omega), List.getElem?_eq_getElem _⟩
                  obtain ⟨b, hxb⟩ : ∃ x, L[k + 1]? = some x := ⟨L[k + 1]'(by rw [← HN.out]; omega), List.getElem?_eq_getElem _⟩
                  obtain ⟨d, hxd⟩ : ∃ x, L[k + 2]? = some x := ⟨L[k + 2]'(by rw [← HN.out]; omega), List.getElem?_eq_getElem _⟩
                  obtain ⟨x, hx⟩ : ∃ x, L[k + 3]? = some x := ⟨L[k + 3]'(by rw [← HN.out]; omega), List.getElem?_eq_getElem _⟩
                  have hdx : L.drop k = a :: b :: d :: x :: L.drop (k + 3 + 1) := by
                    have q : ∀ i y, L[i]? = some y → L.drop i = y :: L.drop (i + 1) := fun i y hy => by
                      obtain ⟨h1, h2⟩ := List.getElem?_eq_some_iff.1 hy
                      rw [List.drop_eq_getElem_cons h1, h2]
                    rw [q _ _ hxa, q _ _ hxb, q _ _ hxd, q _ _ hx]
                  have HLD : Hid (leadC (L.drop k) = if a.t.k = 0 ∧ b.t.k = 6 ∧ small b.t.t = anS ∧ d.t.k = 0 then some (x :: L.drop (k + 3 + 1)) else none) := by unfold Hid; rw [hdx, leadC]
                  have HNO : Hid (¬ (a.t.k = 0 ∧ b.t.k = 6 ∧ small b.t.t = anS ∧ d.t.k = 0) → EN = false) := fun e => by rw [HE.out, enL_no (by rw [hdx]; simp) (by rw [HLD.out, if_neg e])]
                  have HGO : Hid ((a.t.k = 0 ∧ b.t.k = 6 ∧ small b.t.t = anS ∧ d.t.k = 0) → EN = match cdC x wd hg with
                    | none => false
                    | some b => enL f (L.drop (k + 3 + 1)) false (ho && b) wd hg) := fun e => by rw [HE.out, enL_go (x := x) (r := L.drop (k + 3 + 1)) (by rw [hdx]; simp) (by rw [HLD.out, if_pos e])]
                  obtain ⟨kva, _, hca⟩ := HCX.out k a hxa
                  obtain ⟨kvb, _, hcb⟩ := HCX.out (k + 1) b hxb
                  obtain ⟨kvd, _, hcd⟩ := HCX.out (k + 2) d hxd
                  have hca := hca wr HBR.out
                  have hcb := hcb wr HBR.out
                  have hcd := hcd wr HBR.out
                  have a0 : wr.cell? ⟨g, o + k * 8, none⟩ = some (.string (kdS a.t.k)) := hca 0 (by decide)
                  have b0 : wr.cell? ⟨g, o + (k + 1) * 8, none⟩ = some (.string (kdS b.t.k)) := hcb 0 (by decide)
                  have b1 : wr.cell? ⟨g, o + (k + 1) * 8 + 1, none⟩ = some (.string b.t.t) := by rw [Nat.add_assoc]; exact hcb 1 (by decide)
                  have d0 : wr.cell? ⟨g, o + (k + 2) * 8, none⟩ = some (.string (kdS d.t.k)) := hcd 0 (by decide)
                  have ba := kdS_bl a.t.k
                  have bb := kdS_nm b.t.k (HALL.out _ b hxb).1
                  have bd := kdS_bl d.t.k
                  have bs := beq_list (small b.t.t) anS
                  rw [show anS.toList = [97, 110, 100] by rw [ByteArray.toList_eq]; rfl] at bs
                  have HSMB := Lib.hid (c_rSmall b.t.t wr (by have := (HALL.out _ b hxb).2.2; omega))
                  have HDC : Hid (∀ w4, Below wr.heap.size wr w4 → w4.cell? ⟨g, o + (k + 2) * 8, none⟩ = some (.string (kdS d.t.k))) := fun w4 h4 => (h4.cell (p := ⟨g, o + (k + 2) * 8, none⟩) (Nat.lt_of_lt_of_le hgl (Nat.le_trans HLIM.out hwz))).trans d0
                  have hkc : (k : Int) + 3 ≤ (c : Int) := by omega
                  clear hca hcb hcd hxa hxb hxd hdx HLD HE
                  by_cases q1 : a.t.k = 0
                  · rw [decide_eq_true q1] at ba
                    have ban : ((kdS a.t.k).toList != [98, 108, 97, 110, 107]) = false := by rw [bne, ba]; rfl
                    by_cases q2 : b.t.k = 6
                    · rw [decide_eq_true q2] at bb
                      have bbn : ((kdS b.t.k).toList != [110, 97, 109, 101]) = false := by rw [bne, bb]; rfl
                      by_cases q3 : small b.t.t = anS
                      · rw [decide_eq_true q3] at bs
                        have bsn : ((small b.t.t).toList != [97, 110, 100]) = false := by rw [bne, bs]; rfl
                        by_cases q4 : d.t.k = 0
                        · rw [decide_eq_true q4] at bd
                          have bdn : ((kdS d.t.k).toList != [98, 108, 97, 110, 107]) = false := by rw [bne, bd]; rfl
                          have HG : Hid (EN = match cdC x wd hg with
                            | none => false
                            | some b => enL f (L.drop (k + 3 + 1)) false (ho && b) wd hg) := HGO.out ⟨q1, q2, q3, q4⟩
                          generalize small b.t.t = sb at *
                          clear q1 q2 q3 q4 HNO HGO
                          have hxw := HCX.out (k + 3) x hx
                          go_upto_region 16 with (go_at_call 25; refine (HSMB.out).mono ?_; rintro e' w4 ⟨rfl, hb4⟩; have HB4 : Hid (Below w.heap.size w w4) := HBR.out.trans (hb4.mono hwz); have d4 := HDC.out w4 hb4; clear hb4)
                          have hw4 := HB4.out.size
                          clear d0 d4
                          obtain ⟨kvx, hkvx, hcx⟩ := HCX.out (k + 3) x hx
                          obtain ⟨Ax, cx, hkvxe, _⟩ := hkvx.len
                          subst hkvxe
                          have hcx := hcx w4 HB4.out
                          have x0 : w4.cell? ⟨g, o + (k + 3) * 8, none⟩ = some (.string (kdS x.t.k)) := hcx 0 (by decide)
                          have x1 : w4.cell? ⟨g, o + (k + 3) * 8 + 1, none⟩ = some (.string x.t.t) := by rw [Nat.add_assoc]; exact hcx 1 (by decide)
                          have x2 : w4.cell? ⟨g, o + (k + 3) * 8 + 2, none⟩ = some (.string x.t.u) := by rw [Nat.add_assoc]; exact hcx 2 (by decide)
                          have x3 : w4.cell? ⟨g, o + (k + 3) * 8 + 3, none⟩ = some (.int .i64 (x.t.a : Int)) := by rw [Nat.add_assoc]; exact hcx 3 (by decide)
                          have x4 : w4.cell? ⟨g, o + (k + 3) * 8 + 4, none⟩ = some (.int .i64 (x.t.b : Int)) := by rw [Nat.add_assoc]; exact hcx 4 (by decide)
                          have x5 : w4.cell? ⟨g, o + (k + 3) * 8 + 5, none⟩ = some (.string (opS x.e)) := by rw [Nat.add_assoc]; exact hcx 5 (by decide)
                          have x6 : w4.cell? ⟨g, o + (k + 3) * 8 + 6, none⟩ = some (.slice Ax x.ks.length cx) := by rw [Nat.add_assoc]; exact hcx 6 (by decide)
                          have x7 : w4.cell? ⟨g, o + (k + 3) * 8 + 7, none⟩ = some (.bool x.cl) := by rw [Nat.add_assoc]; exact hcx 7 (by decide)
                          have HRC := Lib.hid (fun wz hz => HRD.out (k + 3) x _ wz hx hkvx hz)
                          clear hcx hkvx hx
                          go_upto_region 19 with (go_at_call 26; refine (HRC.out _ HB4.out).mono ?_; rintro e' w5 ⟨okb, isb, rfl, hcs, hb5⟩; have HCS := Lib.hid hcs; have HB5 : Hid (Below w.heap.size w w5) := (HB4.out).trans (hb5.mono (HB4.out).size); clear hcs hb5)
                          rcases HCS.out with ⟨hn5, his5⟩ | ⟨hs5, his5⟩
                          · subst his5
                            have HR5 : Hid (EN = false) := by unfold Hid; rw [HG.out, hn5]
                            go_wp2_with fail
                            go_ret
                            exact ⟨ret_bool HR5.out.symm, HB5.out⟩
                          · subst his5
                            have HR5 : Hid (EN = enL f (L.drop ((k + 3) + 1)) false (ho && okb) wd hg) := by unfold Hid; rw [HG.out, hs5]
                            cases ho with
                            | true =>
                              go_wp2_with fail
                              go_roundw
                              case rel => exact ⟨(k + 3) + 1, okb, false, f, rfl, by go_num, rfl, by omega, by omega, HR5.out, HB5.out⟩
                              case measure => simp [intOf]; omega
                            | false =>
                              go_wp2_with fail
                              go_roundw
                              case rel => exact ⟨(k + 3) + 1, false, false, f, rfl, by go_num, rfl, by omega, by omega, HR5.out, HB5.out⟩
                              case measure => simp [intOf]; omega
                        · rw [decide_eq_false q4] at bd
                          have bdn : ((kdS d.t.k).toList != [98, 108, 97, 110, 107]) = true := by rw [bne, bd]; rfl
                          have HF : Hid (EN = false) := HNO.out (fun e => q4 e.2.2.2)
                          generalize small b.t.t = sb at *
                          clear q1 q2 q3 q4 HNO HGO
                          go_wp2_with (go_at_call 25; refine (HSMB.out).mono ?_; rintro e' w4 ⟨rfl, hb4⟩; have HB4 : Hid (Below w.heap.size w w4) := HBR.out.trans (hb4.mono hwz); have d4 := HDC.out w4 hb4; clear hb4)
                          go_ret
                          exact ⟨ret_bool HF.out.symm, HB4.out⟩
                      · rw [decide_eq_false q3] at bs
                        have bsn : ((small b.t.t).toList != [97, 110, 100]) = true := by rw [bne, bs]; rfl
                        have HF : Hid (EN = false) := HNO.out (fun e => q3 e.2.2.1)
                        generalize small b.t.t = sb at *
                        clear q1 q2 q3 HNO HGO bd
                        go_wp2_with (go_at_call 25; refine (HSMB.out).mono ?_; rintro e' w4 ⟨rfl, hb4⟩; have HB4 : Hid (Below w.heap.size w w4) := HBR.out.trans (hb4.mono hwz); clear hb4)
                        go_ret
                        exact ⟨ret_bool HF.out.symm, HB4.out⟩
                    · rw [decide_eq_false q2] at bb
                      have bbn : ((kdS b.t.k).toList != [110, 97, 109, 101]) = true := by rw [bne, bb]; rfl
                      have HF : Hid (EN = false) := HNO.out (fun e => q2 e.2.1)
                      clear q1 q2 HNO HGO bd bs
                      go_wp2_with fail
                      go_ret
                      exact ⟨ret_bool HF.out.symm, HBR.out⟩
                  · rw [decide_eq_false q1] at ba
                    have ban : ((kdS a.t.k).toList != [98, 108, 97, 110, 107]) = true := by rw [bne, ba]; rfl
                    have HF : Hid (EN = false) := HNO.out (fun e => q1 e.1)
                    clear q1 HNO HGO bd bs bb
                    go_wp2_with fail
                    go_ret
                    exact ⟨ret_bool HF.out.symm, HBR.out⟩
            · have hkI : ¬ (k : Int) < (n : Int) := by omega
              have HF : Hid (EN = ho) := by unfold Hid; rw [HE.out, List.drop_eq_nil_of_le (by rw [← HN.out]; omega), enL_nil]
              go_wp2_with fail
              go_ret
              exact ⟨ret_bool HF.out.symm, HBR.out⟩
        · rw [decide_eq_false h1] at b1
          have b1n : (what.toList != [115, 99, 114, 101, 101, 110]) = true := by rw [bne, b1]; rfl
          by_cases h2 : what = alS
          · have HR : Hid (EN = enL (r0.length + 1) r0 false true wd hg) := by unfold Hid; rw [HEN.out, if_neg h0, if_pos (.inr h2)]
            rw [decide_eq_true h2] at b2
            have b2n : (what.toList != [97, 108, 108]) = false := by rw [bne, b2]; rfl
            clear h0 h1 h2 HEN HNE
            go_enter Tryd.func14, Tryd.ntmps14
            go_wp2_with (go_at_call 25; refine (HSM.out).mono ?_; rintro e' w3 ⟨rfl, hb3⟩; have HB3 := Lib.hid hb3; clear hb3)
            clear e0 e1 b0 b1 b0n b1n HSM bn
            go_loopw [7, 8, 10] (fun u7 u8 u10 wr => ∃ (k : Nat) (ho fi : Bool) (f : Nat), u7 = .bool ho ∧ u8 = .int .i64 (k : Int) ∧ u10 = .bool fi ∧ k ≤ n ∧ n < f + k ∧ Hid (EN = enL f (L.drop k) fi ho wd hg) ∧ Hid (Below w.heap.size w wr)) (fun _ u8 _ _ => n - (intOf u8).toNat)
            case atStart => exact ⟨1, true, false, r0.length + 1, rfl, rfl, rfl, by omega, by have := HN1.out; omega, by rw [HR0.out]; exact HR.out, HB3.out⟩
            case round =>
              obtain ⟨k, ho, fi, f, rfl, rfl, rfl, hkn, hf, HE, HBR⟩ := hrel
              have hwz := HBR.out.size
              cases f with
              | zero => omega
              | succ f =>
              by_cases hlt : k < n
              · have hkI : (k : Int) < (n : Int) := by omega
                have hk0 : (0 : Int) ≤ (k : Int) := by omega
                cases fi with
                | true =>
                  obtain ⟨x, hx⟩ : ∃ x, L[k]? = some x := ⟨L[k]'(by rw [← HN.out]; exact hlt), List.getElem?_eq_getElem _⟩
                  have hdx : L.drop k = x :: L.drop (k + 1) := by
                    obtain ⟨h1, h2⟩ := List.getElem?_eq_some_iff.1 hx
                    rw [List.drop_eq_getElem_cons h1, h2]
                  have HG : Hid (EN = match cdC x wd hg with
                    | none => false
                    | some b => enL f (L.drop (k + 1)) false (ho && b) wd hg) := by unfold Hid; rw [HE.out, hdx, enL_first]
                  clear hdx
                  obtain ⟨kvx, hkvx, hcx⟩ := HCX.out k x hx
                  obtain ⟨Ax, cx, hkvxe, _⟩ := hkvx.len
                  subst hkvxe
                  have hcx := hcx wr HBR.out
                  have x0 : wr.cell? ⟨g, o + k * 8, none⟩ = some (.string (kdS x.t.k)) := hcx 0 (by decide)
                  have x1 : wr.cell? ⟨g, o + k * 8 + 1, none⟩ = some (.string x.t.t) := by rw [Nat.add_assoc]; exact hcx 1 (by decide)
                  have x2 : wr.cell? ⟨g, o + k * 8 + 2, none⟩ = some (.string x.t.u) := by rw [Nat.add_assoc]; exact hcx 2 (by decide)
                  have x3 : wr.cell? ⟨g, o + k * 8 + 3, none⟩ = some (.int .i64 (x.t.a : Int)) := by rw [Nat.add_assoc]; exact hcx 3 (by decide)
                  have x4 : wr.cell? ⟨g, o + k * 8 + 4, none⟩ = some (.int .i64 (x.t.b : Int)) := by rw [Nat.add_assoc]; exact hcx 4 (by decide)
                  have x5 : wr.cell? ⟨g, o + k * 8 + 5, none⟩ = some (.string (opS x.e)) := by rw [Nat.add_assoc]; exact hcx 5 (by decide)
                  have x6 : wr.cell? ⟨g, o + k * 8 + 6, none⟩ = some (.slice Ax x.ks.length cx) := by rw [Nat.add_assoc]; exact hcx 6 (by decide)
                  have x7 : wr.cell? ⟨g, o + k * 8 + 7, none⟩ = some (.bool x.cl) := by rw [Nat.add_assoc]; exact hcx 7 (by decide)
                  have HRC := Lib.hid (fun wz hz => HRD.out k x _ wz hx hkvx hz)
                  clear hcx hkvx hx
                  go_upto_region 19 with (go_at_call 26; refine (HRC.out _ HBR.out).mono ?_; rintro e' w5 ⟨okb, isb, rfl, hcs, hb5⟩; have HCS := Lib.hid hcs; have HB5 : Hid (Below w.heap.size w w5) := (HBR.out).trans (hb5.mono (HBR.out).size); clear hcs hb5)
                  rcases HCS.out with ⟨hn5, his5⟩ | ⟨hs5, his5⟩
                  · subst his5
                    have HR5 : Hid (EN = false) := by unfold Hid; rw [HG.out, hn5]
                    go_wp2_with fail
                    go_ret
                    exact ⟨ret_bool HR5.out.symm, HB5.out⟩
                  · subst his5
                    have HR5 : Hid (EN = enL f (L.drop (k + 1)) false (ho && okb) wd hg) := by unfold Hid; rw [HG.out, hs5]
                    cases ho with
                    | true =>
                      go_wp2_with fail
                      go_roundw
                      case rel => exact ⟨k + 1, okb, false, f, rfl, by go_num, rfl, by omega, by omega, HR5.out, HB5.out⟩
                      case measure => simp [intOf]; omega
                    | false =>
                      go_wp2_with fail
                      go_roundw
                      case rel => exact ⟨k + 1, false, false, f, rfl, by go_num, rfl, by omega, by omega, HR5.out, HB5.out⟩
                      case measure => simp [intOf]; omega
                | false =>
                  by_cases h4 : n ≤ k + 3
                  · have h4I : (n : Int) ≤ (k : Int) + 3 := by omega
                    have HF : Hid (EN = false) := by
                      unfold Hid
                      rw [HE.out, enL_no (fun e => by have := congrArg List.length e; rw [List.length_drop, ← HN.out] at this; simp at this; omega) (leadC_short (by rw [List.length_drop, ← HN.out]; omega))]
                    go_wp2_with fail
                    go_ret
                    exact ⟨ret_bool HF.out.symm, HBR.out⟩
                  · have h4I : ¬ (n : Int) ≤ (k : Int) + 3 := by omega
                    obtain ⟨a, hxa⟩ : ∃ x, L[k]? = some x := ⟨L[k]'(by rw [← HN.out]; omega), List.getElem?_eq_getElem _⟩
                    obtain ⟨b, hxb⟩ : ∃ x, L[k + 1]? = some x := ⟨L[k + 1]'(by rw [← HN.out]; omega), List.getElem?_eq_getElem _⟩
                    obtain ⟨d, hxd⟩ : ∃ x, L[k + 2]? = some x := ⟨L[k + 2]'(by rw [← HN.out]; omega), List.getElem?_eq_getElem _⟩
                    obtain ⟨x, hx⟩ : ∃ x, L[k + 3]? = some x := ⟨L[k + 3]'(by rw [← HN.out]; omega), List.getElem?_eq_getElem _⟩
                    have hdx : L.drop k = a :: b :: d :: x :: L.drop (k + 3 + 1) := by
                      have q : ∀ i y, L[i]? = some y → L.drop i = y :: L.drop (i + 1) := fun i y hy => by
                        obtain ⟨h1, h2⟩ := List.getElem?_eq_some_iff.1 hy
                        rw [List.drop_eq_getElem_cons h1, h2]
                      rw [q _ _ hxa, q _ _ hxb, q _ _ hxd, q _ _ hx]
                    have HLD : Hid (leadC (L.drop k) = if a.t.k = 0 ∧ b.t.k = 6 ∧ small b.t.t = anS ∧ d.t.k = 0 then some (x :: L.drop (k + 3 + 1)) else none) := by unfold Hid; rw [hdx, leadC]
                    have HNO : Hid (¬ (a.t.k = 0 ∧ b.t.k = 6 ∧ small b.t.t = anS ∧ d.t.k = 0) → EN = false) := fun e => by rw [HE.out, enL_no (by rw [hdx]; simp) (by rw [HLD.out, if_neg e])]
                    have HGO : Hid ((a.t.k = 0 ∧ b.t.k = 6 ∧ small b.t.t = anS ∧ d.t.k = 0) → EN = match cdC x wd hg with
                      | none => false
                      | some b => enL f (L.drop (k + 3 + 1)) false (ho && b) wd hg) := fun e => by rw [HE.out, enL_go (x := x) (r := L.drop (k + 3 + 1)) (by rw [hdx]; simp) (by rw [HLD.out, if_pos e])]
                    obtain ⟨kva, _, hca⟩ := HCX.out k a hxa
                    obtain ⟨kvb, _, hcb⟩ := HCX.out (k + 1) b hxb
                    obtain ⟨kvd, _, hcd⟩ := HCX.out (k + 2) d hxd
                    have hca := hca wr HBR.out
                    have hcb := hcb wr HBR.out
                    have hcd := hcd wr HBR.out
                    have a0 : wr.cell? ⟨g, o + k * 8, none⟩ = some (.string (kdS a.t.k)) := hca 0 (by decide)
                    have b0 : wr.cell? ⟨g, o + (k + 1) * 8, none⟩ = some (.string (kdS b.t.k)) := hcb 0 (by decide)
                    have b1 : wr.cell? ⟨g, o + (k + 1) * 8 + 1, none⟩ = some (.string b.t.t) := by rw [Nat.add_assoc]; exact hcb 1 (by decide)
                    have d0 : wr.cell? ⟨g, o + (k + 2) * 8, none⟩ = some (.string (kdS d.t.k)) := hcd 0 (by decide)
                    have ba := kdS_bl a.t.k
                    have bb := kdS_nm b.t.k (HALL.out _ b hxb).1
                    have bd := kdS_bl d.t.k
                    have bs := beq_list (small b.t.t) anS
                    rw [show anS.toList = [97, 110, 100] by rw [ByteArray.toList_eq]; rfl] at bs
                    have HSMB := Lib.hid (c_rSmall b.t.t wr (by have := (HALL.out _ b hxb).2.2; omega))
                    have HDC : Hid (∀ w4, Below wr.heap.size wr w4 → w4.cell? ⟨g, o + (k + 2) * 8, none⟩ = some (.string (kdS d.t.k))) := fun w4 h4 => (h4.cell (p := ⟨g, o + (k + 2) * 8, none⟩) (Nat.lt_of_lt_of_le hgl (Nat.le_trans HLIM.out hwz))).trans d0
                    have hkc : (k : Int) + 3 ≤ (c : Int) := by omega
                    clear hca hcb hcd hxa hxb hxd hdx HLD HE
                    by_cases q1 : a.t.k = 0
                    · rw [decide_eq_true q1] at ba
                      have ban : ((kdS a.t.k).toList != [98, 108, 97, 110, 107]) = false := by rw [bne, ba]; rfl
                      by_cases q2 : b.t.k = 6
                      · rw [decide_eq_true q2] at bb
                        have bbn : ((kdS b.t.k).toList != [110, 97, 109, 101]) = false := by rw [bne, bb]; rfl
                        by_cases q3 : small b.t.t = anS
                        · rw [decide_eq_true q3] at bs
                          have bsn : ((small b.t.t).toList != [97, 110, 100]) = false := by rw [bne, bs]; rfl
                          by_cases q4 : d.t.k = 0
                          · rw [decide_eq_true q4] at bd
                            have bdn : ((kdS d.t.k).toList != [98, 108, 97, 110, 107]) = false := by rw [bne, bd]; rfl
                            have HG : Hid (EN = match cdC x wd hg with
                              | none => false
                              | some b => enL f (L.drop (k + 3 + 1)) false (ho && b) wd hg) := HGO.out ⟨q1, q2, q3, q4⟩
                            generalize small b.t.t = sb at *
                            clear q1 q2 q3 q4 HNO HGO
                            have hxw := HCX.out (k + 3) x hx
                            go_upto_region 16 with (go_at_call 25; refine (HSMB.out).mono ?_; rintro e' w4 ⟨rfl, hb4⟩; have HB4 : Hid (Below w.heap.size w w4) := HBR.out.trans (hb4.mono hwz); have d4 := HDC.out w4 hb4; clear hb4)
                            have hw4 := HB4.out.size
                            clear d0 d4
                            obtain ⟨kvx, hkvx, hcx⟩ := HCX.out (k + 3) x hx
                            obtain ⟨Ax, cx, hkvxe, _⟩ := hkvx.len
                            subst hkvxe
                            have hcx := hcx w4 HB4.out
                            have x0 : w4.cell? ⟨g, o + (k + 3) * 8, none⟩ = some (.string (kdS x.t.k)) := hcx 0 (by decide)
                            have x1 : w4.cell? ⟨g, o + (k + 3) * 8 + 1, none⟩ = some (.string x.t.t) := by rw [Nat.add_assoc]; exact hcx 1 (by decide)
                            have x2 : w4.cell? ⟨g, o + (k + 3) * 8 + 2, none⟩ = some (.string x.t.u) := by rw [Nat.add_assoc]; exact hcx 2 (by decide)
                            have x3 : w4.cell? ⟨g, o + (k + 3) * 8 + 3, none⟩ = some (.int .i64 (x.t.a : Int)) := by rw [Nat.add_assoc]; exact hcx 3 (by decide)
                            have x4 : w4.cell? ⟨g, o + (k + 3) * 8 + 4, none⟩ = some (.int .i64 (x.t.b : Int)) := by rw [Nat.add_assoc]; exact hcx 4 (by decide)
                            have x5 : w4.cell? ⟨g, o + (k + 3) * 8 + 5, none⟩ = some (.string (opS x.e)) := by rw [Nat.add_assoc]; exact hcx 5 (by decide)
                            have x6 : w4.cell? ⟨g, o + (k + 3) * 8 + 6, none⟩ = some (.slice Ax x.ks.length cx) := by rw [Nat.add_assoc]; exact hcx 6 (by decide)
                            have x7 : w4.cell? ⟨g, o + (k + 3) * 8 + 7, none⟩ = some (.bool x.cl) := by rw [Nat.add_assoc]; exact hcx 7 (by decide)
                            have HRC := Lib.hid (fun wz hz => HRD.out (k + 3) x _ wz hx hkvx hz)
                            clear hcx hkvx hx
                            go_upto_region 19 with (go_at_call 26; refine (HRC.out _ HB4.out).mono ?_; rintro e' w5 ⟨okb, isb, rfl, hcs, hb5⟩; have HCS := Lib.hid hcs; have HB5 : Hid (Below w.heap.size w w5) := (HB4.out).trans (hb5.mono (HB4.out).size); clear hcs hb5)
                            rcases HCS.out with ⟨hn5, his5⟩ | ⟨hs5, his5⟩
                            · subst his5
                              have HR5 : Hid (EN = false) := by unfold Hid; rw [HG.out, hn5]
                              go_wp2_with fail
                              go_ret
                              exact ⟨ret_bool HR5.out.symm, HB5.out⟩
                            · subst his5
                              have HR5 : Hid (EN = enL f (L.drop ((k + 3) + 1)) false (ho && okb) wd hg) := by unfold Hid; rw [HG.out, hs5]
                              cases ho with
                              | true =>
                                go_wp2_with fail
                                go_roundw
                                case rel => exact ⟨(k + 3) + 1, okb, false, f, rfl, by go_num, rfl, by omega, by omega, HR5.out, HB5.out⟩
                                case measure => simp [intOf]; omega
                              | false =>
                                go_wp2_with fail
                                go_roundw
                                case rel => exact ⟨(k + 3) + 1, false, false, f, rfl, by go_num, rfl, by omega, by omega, HR5.out, HB5.out⟩
                                case measure => simp [intOf]; omega
                          · rw [decide_eq_false q4] at bd
                            have bdn : ((kdS d.t.k).toList != [98, 108, 97, 110, 107]) = true := by rw [bne, bd]; rfl
                            have HF : Hid (EN = false) := HNO.out (fun e => q4 e.2.2.2)
                            generalize small b.t.t = sb at *
                            clear q1 q2 q3 q4 HNO HGO
                            go_wp2_with (go_at_call 25; refine (HSMB.out).mono ?_; rintro e' w4 ⟨rfl, hb4⟩; have HB4 : Hid (Below w.heap.size w w4) := HBR.out.trans (hb4.mono hwz); have d4 := HDC.out w4 hb4; clear hb4)
                            go_ret
                            exact ⟨ret_bool HF.out.symm, HB4.out⟩
                        · rw [decide_eq_false q3] at bs
                          have bsn : ((small b.t.t).toList != [97, 110, 100]) = true := by rw [bne, bs]; rfl
                          have HF : Hid (EN = false) := HNO.out (fun e => q3 e.2.2.1)
                          generalize small b.t.t = sb at *
                          clear q1 q2 q3 HNO HGO bd
                          go_wp2_with (go_at_call 25; refine (HSMB.out).mono ?_; rintro e' w4 ⟨rfl, hb4⟩; have HB4 : Hid (Below w.heap.size w w4) := HBR.out.trans (hb4.mono hwz); clear hb4)
                          go_ret
                          exact ⟨ret_bool HF.out.symm, HB4.out⟩
                      · rw [decide_eq_false q2] at bb
                        have bbn : ((kdS b.t.k).toList != [110, 97, 109, 101]) = true := by rw [bne, bb]; rfl
                        have HF : Hid (EN = false) := HNO.out (fun e => q2 e.2.1)
                        clear q1 q2 HNO HGO bd bs
                        go_wp2_with fail
                        go_ret
                        exact ⟨ret_bool HF.out.symm, HBR.out⟩
                    · rw [decide_eq_false q1] at ba
                      have ban : ((kdS a.t.k).toList != [98, 108, 97, 110, 107]) = true := by rw [bne, ba]; rfl
                      have HF : Hid (EN = false) := HNO.out (fun e => q1 e.1)
                      clear q1 HNO HGO bd bs bb
                      go_wp2_with fail
                      go_ret
                      exact ⟨ret_bool HF.out.symm, HBR.out⟩
              · have hkI : ¬ (k : Int) < (n : Int) := by omega
                have HF : Hid (EN = ho) := by unfold Hid; rw [HE.out, List.drop_eq_nil_of_le (by rw [← HN.out]; omega), enL_nil]
                go_wp2_with fail
                go_ret
                exact ⟨ret_bool HF.out.symm, HBR.out⟩
          · have HR : Hid (EN = false) := by unfold Hid; rw [HEN.out, if_neg h0, if_neg (fun e => e.elim h1 h2)]
            rw [decide_eq_false h2] at b2
            have b2n : (what.toList != [97, 108, 108]) = true := by rw [bne, b2]; rfl
            clear h0 h1 h2 HEN HNE
            go_enter Tryd.func14, Tryd.ntmps14
            go_wp2_with (go_at_call 25; refine (HSM.out).mono ?_; rintro e' w3 ⟨rfl, hb3⟩; have HB3 := Lib.hid hb3; clear hb3)
            go_ret
            exact ⟨ret_bool HR.out.symm, HB3.out⟩
    · rw [decide_eq_false ha] at bn
      have HR : Hid (EN = enL (r0.length + 2) (a0 :: r0) true true wd hg) := by unfold Hid; rw [HEC.out, if_neg ha]
      clear ha HEC
      go_enter Tryd.func14, Tryd.ntmps14
      go_wp2_with fail
      clear e0 e1 bn
      go_loopw [7, 8, 10] (fun u7 u8 u10 wr => ∃ (k : Nat) (ho fi : Bool) (f : Nat), u7 = .bool ho ∧ u8 = .int .i64 (k : Int) ∧ u10 = .bool fi ∧ k ≤ n ∧ n < f + k ∧ Hid (EN = enL f (L.drop k) fi ho wd hg) ∧ Hid (Below w.heap.size w wr)) (fun _ u8 _ _ => n - (intOf u8).toNat)
      case atStart => exact ⟨0, true, true, r0.length + 2, rfl, rfl, rfl, by omega, by have := HN1.out; omega, by rw [HD0.out]; exact HR.out, Below.refl _ _⟩
      case round =>
        obtain ⟨k, ho, fi, f, rfl, rfl, rfl, hkn, hf, HE, HBR⟩ := hrel
        have hwz := HBR.out.size
        cases f with
        | zero => omega
        | succ f =>
        by_cases hlt : k < n
        · have hkI : (k : Int) < (n : Int) := by omega
          have hk0 : (0 : Int) ≤ (k : Int) := by omega
          cases fi with
          | true =>
            obtain ⟨x, hx⟩ : ∃ x, L[k]? = some x := ⟨L[k]'(by rw [← HN.out]; exact hlt), List.getElem?_eq_getElem _⟩
            have hdx : L.drop k = x :: L.drop (k + 1) := by
              obtain ⟨h1, h2⟩ := List.getElem?_eq_some_iff.1 hx
              rw [List.drop_eq_getElem_cons h1, h2]
            have HG : Hid (EN = match cdC x wd hg with
              | none => false
              | some b => enL f (L.drop (k + 1)) false (ho && b) wd hg) := by unfold Hid; rw [HE.out, hdx, enL_first]
            clear hdx
            obtain ⟨kvx, hkvx, hcx⟩ := HCX.out k x hx
            obtain ⟨Ax, cx, hkvxe, _⟩ := hkvx.len
            subst hkvxe
            have hcx := hcx wr HBR.out
            have x0 : wr.cell? ⟨g, o + k * 8, none⟩ = some (.string (kdS x.t.k)) := hcx 0 (by decide)
            have x1 : wr.cell? ⟨g, o + k * 8 + 1, none⟩ = some (.string x.t.t) := by rw [Nat.add_assoc]; exact hcx 1 (by decide)
            have x2 : wr.cell? ⟨g, o + k * 8 + 2, none⟩ = some (.string x.t.u) := by rw [Nat.add_assoc]; exact hcx 2 (by decide)
            have x3 : wr.cell? ⟨g, o + k * 8 + 3, none⟩ = some (.int .i64 (x.t.a : Int)) := by rw [Nat.add_assoc]; exact hcx 3 (by decide)
            have x4 : wr.cell? ⟨g, o + k * 8 + 4, none⟩ = some (.int .i64 (x.t.b : Int)) := by rw [Nat.add_assoc]; exact hcx 4 (by decide)
            have x5 : wr.cell? ⟨g, o + k * 8 + 5, none⟩ = some (.string (opS x.e)) := by rw [Nat.add_assoc]; exact hcx 5 (by decide)
            have x6 : wr.cell? ⟨g, o + k * 8 + 6, none⟩ = some (.slice Ax x.ks.length cx) := by rw [Nat.add_assoc]; exact hcx 6 (by decide)
            have x7 : wr.cell? ⟨g, o + k * 8 + 7, none⟩ = some (.bool x.cl) := by rw [Nat.add_assoc]; exact hcx 7 (by decide)
            have HRC := Lib.hid (fun wz hz => HRD.out k x _ wz hx hkvx hz)
            clear hcx hkvx hx
            go_upto_region 19 with (go_at_call 26; refine (HRC.out _ HBR.out).mono ?_; rintro e' w5 ⟨okb, isb, rfl, hcs, hb5⟩; have HCS := Lib.hid hcs; have HB5 : Hid (Below w.heap.size w w5) := (HBR.out).trans (hb5.mono (HBR.out).size); clear hcs hb5)
            rcases HCS.out with ⟨hn5, his5⟩ | ⟨hs5, his5⟩
            · subst his5
              have HR5 : Hid (EN = false) := by unfold Hid; rw [HG.out, hn5]
              go_wp2_with fail
              go_ret
              exact ⟨ret_bool HR5.out.symm, HB5.out⟩
            · subst his5
              have HR5 : Hid (EN = enL f (L.drop (k + 1)) false (ho && okb) wd hg) := by unfold Hid; rw [HG.out, hs5]
              cases ho with
              | true =>
                go_wp2_with fail
                go_roundw
                case rel => exact ⟨k + 1, okb, false, f, rfl, by go_num, rfl, by omega, by omega, HR5.out, HB5.out⟩
                case measure => simp [intOf]; omega
              | false =>
                go_wp2_with fail
                go_roundw
                case rel => exact ⟨k + 1, false, false, f, rfl, by go_num, rfl, by omega, by omega, HR5.out, HB5.out⟩
                case measure => simp [intOf]; omega
          | false =>
            by_cases h4 : n ≤ k + 3
            · have h4I : (n : Int) ≤ (k : Int) + 3 := by omega
              have HF : Hid (EN = false) := by
                unfold Hid
                rw [HE.out, enL_no (fun e => by have := congrArg List.length e; rw [List.length_drop, ← HN.out] at this; simp at this; omega) (leadC_short (by rw [List.length_drop, ← HN.out]; omega))]
              go_wp2_with fail
              go_ret
              exact ⟨ret_bool HF.out.symm, HBR.out⟩
            · have h4I : ¬ (n : Int) ≤ (k : Int) + 3 := by omega
              obtain ⟨a, hxa⟩ : ∃ x, L[k]? = some x := ⟨L[k]'(by rw [← HN.out]; omega), List.getElem?_eq_getElem _⟩
              obtain ⟨b, hxb⟩ : ∃ x, L[k + 1]? = some x := ⟨L[k + 1]'(by rw [← HN.out]; omega), List.getElem?_eq_getElem _⟩
              obtain ⟨d, hxd⟩ : ∃ x, L[k + 2]? = some x := ⟨L[k + 2]'(by rw [← HN.out]; omega), List.getElem?_eq_getElem _⟩
              obtain ⟨x, hx⟩ : ∃ x, L[k + 3]? = some x := ⟨L[k + 3]'(by rw [← HN.out]; omega), List.getElem?_eq_getElem _⟩
              have hdx : L.drop k = a :: b :: d :: x :: L.drop (k + 3 + 1) := by
                have q : ∀ i y, L[i]? = some y → L.drop i = y :: L.drop (i + 1) := fun i y hy => by
                  obtain ⟨h1, h2⟩ := List.getElem?_eq_some_iff.1 hy
                  rw [List.drop_eq_getElem_cons h1, h2]
                rw [q _ _ hxa, q _ _ hxb, q _ _ hxd, q _ _ hx]
              have HLD : Hid (leadC (L.drop k) = if a.t.k = 0 ∧ b.t.k = 6 ∧ small b.t.t = anS ∧ d.t.k = 0 then some (x :: L.drop (k + 3 + 1)) else none) := by unfold Hid; rw [hdx, leadC]
              have HNO : Hid (¬ (a.t.k = 0 ∧ b.t.k = 6 ∧ small b.t.t = anS ∧ d.t.k = 0) → EN = false) := fun e => by rw [HE.out, enL_no (by rw [hdx]; simp) (by rw [HLD.out, if_neg e])]
              have HGO : Hid ((a.t.k = 0 ∧ b.t.k = 6 ∧ small b.t.t = anS ∧ d.t.k = 0) → EN = match cdC x wd hg with
                | none => false
                | some b => enL f (L.drop (k + 3 + 1)) false (ho && b) wd hg) := fun e => by rw [HE.out, enL_go (x := x) (r := L.drop (k + 3 + 1)) (by rw [hdx]; simp) (by rw [HLD.out, if_pos e])]
              obtain ⟨kva, _, hca⟩ := HCX.out k a hxa
              obtain ⟨kvb, _, hcb⟩ := HCX.out (k + 1) b hxb
              obtain ⟨kvd, _, hcd⟩ := HCX.out (k + 2) d hxd
              have hca := hca wr HBR.out
              have hcb := hcb wr HBR.out
              have hcd := hcd wr HBR.out
              have a0 : wr.cell? ⟨g, o + k * 8, none⟩ = some (.string (kdS a.t.k)) := hca 0 (by decide)
              have b0 : wr.cell? ⟨g, o + (k + 1) * 8, none⟩ = some (.string (kdS b.t.k)) := hcb 0 (by decide)
              have b1 : wr.cell? ⟨g, o + (k + 1) * 8 + 1, none⟩ = some (.string b.t.t) := by rw [Nat.add_assoc]; exact hcb 1 (by decide)
              have d0 : wr.cell? ⟨g, o + (k + 2) * 8, none⟩ = some (.string (kdS d.t.k)) := hcd 0 (by decide)
              have ba := kdS_bl a.t.k
              have bb := kdS_nm b.t.k (HALL.out _ b hxb).1
              have bd := kdS_bl d.t.k
              have bs := beq_list (small b.t.t) anS
              rw [show anS.toList = [97, 110, 100] by rw [ByteArray.toList_eq]; rfl] at bs
              have HSMB := Lib.hid (c_rSmall b.t.t wr (by have := (HALL.out _ b hxb).2.2; omega))
              have HDC : Hid (∀ w4, Below wr.heap.size wr w4 → w4.cell? ⟨g, o + (k + 2) * 8, none⟩ = some (.string (kdS d.t.k))) := fun w4 h4 => (h4.cell (p := ⟨g, o + (k + 2) * 8, none⟩) (Nat.lt_of_lt_of_le hgl (Nat.le_trans HLIM.out hwz))).trans d0
              have hkc : (k : Int) + 3 ≤ (c : Int) := by omega
              clear hca hcb hcd hxa hxb hxd hdx HLD HE
              by_cases q1 : a.t.k = 0
              · rw [decide_eq_true q1] at ba
                have ban : ((kdS a.t.k).toList != [98, 108, 97, 110, 107]) = false := by rw [bne, ba]; rfl
                by_cases q2 : b.t.k = 6
                · rw [decide_eq_true q2] at bb
                  have bbn : ((kdS b.t.k).toList != [110, 97, 109, 101]) = false := by rw [bne, bb]; rfl
                  by_cases q3 : small b.t.t = anS
                  · rw [decide_eq_true q3] at bs
                    have bsn : ((small b.t.t).toList != [97, 110, 100]) = false := by rw [bne, bs]; rfl
                    by_cases q4 : d.t.k = 0
                    · rw [decide_eq_true q4] at bd
                      have bdn : ((kdS d.t.k).toList != [98, 108, 97, 110, 107]) = false := by rw [bne, bd]; rfl
                      have HG : Hid (EN = match cdC x wd hg with
                        | none => false
                        | some b => enL f (L.drop (k + 3 + 1)) false (ho && b) wd hg) := HGO.out ⟨q1, q2, q3, q4⟩
                      generalize small b.t.t = sb at *
                      clear q1 q2 q3 q4 HNO HGO
                      have hxw := HCX.out (k + 3) x hx
                      go_upto_region 16 with (go_at_call 25; refine (HSMB.out).mono ?_; rintro e' w4 ⟨rfl, hb4⟩; have HB4 : Hid (Below w.heap.size w w4) := HBR.out.trans (hb4.mono hwz); have d4 := HDC.out w4 hb4; clear hb4)
                      have hw4 := HB4.out.size
                      clear d0 d4
                      obtain ⟨kvx, hkvx, hcx⟩ := HCX.out (k + 3) x hx
                      obtain ⟨Ax, cx, hkvxe, _⟩ := hkvx.len
                      subst hkvxe
                      have hcx := hcx w4 HB4.out
                      have x0 : w4.cell? ⟨g, o + (k + 3) * 8, none⟩ = some (.string (kdS x.t.k)) := hcx 0 (by decide)
                      have x1 : w4.cell? ⟨g, o + (k + 3) * 8 + 1, none⟩ = some (.string x.t.t) := by rw [Nat.add_assoc]; exact hcx 1 (by decide)
                      have x2 : w4.cell? ⟨g, o + (k + 3) * 8 + 2, none⟩ = some (.string x.t.u) := by rw [Nat.add_assoc]; exact hcx 2 (by decide)
                      have x3 : w4.cell? ⟨g, o + (k + 3) * 8 + 3, none⟩ = some (.int .i64 (x.t.a : Int)) := by rw [Nat.add_assoc]; exact hcx 3 (by decide)
                      have x4 : w4.cell? ⟨g, o + (k + 3) * 8 + 4, none⟩ = some (.int .i64 (x.t.b : Int)) := by rw [Nat.add_assoc]; exact hcx 4 (by decide)
                      have x5 : w4.cell? ⟨g, o + (k + 3) * 8 + 5, none⟩ = some (.string (opS x.e)) := by rw [Nat.add_assoc]; exact hcx 5 (by decide)
                      have x6 : w4.cell? ⟨g, o + (k + 3) * 8 + 6, none⟩ = some (.slice Ax x.ks.length cx) := by rw [Nat.add_assoc]; exact hcx 6 (by decide)
                      have x7 : w4.cell? ⟨g, o + (k + 3) * 8 + 7, none⟩ = some (.bool x.cl) := by rw [Nat.add_assoc]; exact hcx 7 (by decide)
                      have HRC := Lib.hid (fun wz hz => HRD.out (k + 3) x _ wz hx hkvx hz)
                      clear hcx hkvx hx
                      go_upto_region 19 with (go_at_call 26; refine (HRC.out _ HB4.out).mono ?_; rintro e' w5 ⟨okb, isb, rfl, hcs, hb5⟩; have HCS := Lib.hid hcs; have HB5 : Hid (Below w.heap.size w w5) := (HB4.out).trans (hb5.mono (HB4.out).size); clear hcs hb5)
                      rcases HCS.out with ⟨hn5, his5⟩ | ⟨hs5, his5⟩
                      · subst his5
                        have HR5 : Hid (EN = false) := by unfold Hid; rw [HG.out, hn5]
                        go_wp2_with fail
                        go_ret
                        exact ⟨ret_bool HR5.out.symm, HB5.out⟩
                      · subst his5
                        have HR5 : Hid (EN = enL f (L.drop ((k + 3) + 1)) false (ho && okb) wd hg) := by unfold Hid; rw [HG.out, hs5]
                        cases ho with
                        | true =>
                          go_wp2_with fail
                          go_roundw
                          case rel => exact ⟨(k + 3) + 1, okb, false, f, rfl, by go_num, rfl, by omega, by omega, HR5.out, HB5.out⟩
                          case measure => simp [intOf]; omega
                        | false =>
                          go_wp2_with fail
                          go_roundw
                          case rel => exact ⟨(k + 3) + 1, false, false, f, rfl, by go_num, rfl, by omega, by omega, HR5.out, HB5.out⟩
                          case measure => simp [intOf]; omega
                    · rw [decide_eq_false q4] at bd
                      have bdn : ((kdS d.t.k).toList != [98, 108, 97, 110, 107]) = true := by rw [bne, bd]; rfl
                      have HF : Hid (EN = false) := HNO.out (fun e => q4 e.2.2.2)
                      generalize small b.t.t = sb at *
                      clear q1 q2 q3 q4 HNO HGO
                      go_wp2_with (go_at_call 25; refine (HSMB.out).mono ?_; rintro e' w4 ⟨rfl, hb4⟩; have HB4 : Hid (Below w.heap.size w w4) := HBR.out.trans (hb4.mono hwz); have d4 := HDC.out w4 hb4; clear hb4)
                      go_ret
                      exact ⟨ret_bool HF.out.symm, HB4.out⟩
                  · rw [decide_eq_false q3] at bs
                    have bsn : ((small b.t.t).toList != [97, 110, 100]) = true := by rw [bne, bs]; rfl
                    have HF : Hid (EN = false) := HNO.out (fun e => q3 e.2.2.1)
                    generalize small b.t.t = sb at *
                    clear q1 q2 q3 HNO HGO bd
                    go_wp2_with (go_at_call 25; refine (HSMB.out).mono ?_; rintro e' w4 ⟨rfl, hb4⟩; have HB4 : Hid (Below w.heap.size w w4) := HBR.out.trans (hb4.mono hwz); clear hb4)
                    go_ret
                    exact ⟨ret_bool HF.out.symm, HB4.out⟩
                · rw [decide_eq_false q2] at bb
                  have bbn : ((kdS b.t.k).toList != [110, 97, 109, 101]) = true := by rw [bne, bb]; rfl
                  have HF : Hid (EN = false) := HNO.out (fun e => q2 e.2.1)
                  clear q1 q2 HNO HGO bd bs
                  go_wp2_with fail
                  go_ret
                  exact ⟨ret_bool HF.out.symm, HBR.out⟩
              · rw [decide_eq_false q1] at ba
                have ban : ((kdS a.t.k).toList != [98, 108, 97, 110, 107]) = true := by rw [bne, ba]; rfl
                have HF : Hid (EN = false) := HNO.out (fun e => q1 e.1)
                clear q1 HNO HGO bd bs bb
                go_wp2_with fail
                go_ret
                exact ⟨ret_bool HF.out.symm, HBR.out⟩
        · have hkI : ¬ (k : Int) < (n : Int) := by omega
          have HF : Hid (EN = ho) := by unfold Hid; rw [HE.out, List.drop_eq_nil_of_le (by rw [← HN.out]; omega), enL_nil]
          go_wp2_with fail
          go_ret
          exact ⟨ret_bool HF.out.symm, HBR.out⟩
end Go.Proofs.YtmhejppfjngbhaaDoor

