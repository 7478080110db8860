/- sheets: an entry of a page's media: the program's -/
import Derived.Test.YtmhejppfjngbhaaDoorYy
namespace Go.Proofs.YtmhejppfjngbhaaDoor
set_option linter.unusedVariables false
set_option linter.unusedSimpArgs false
open Go.RowKit Go.Cas

def prS : ByteArray := ⟨#[112, 114, 105, 110, 116]⟩
def scS : ByteArray := ⟨#[115, 99, 114, 101, 101, 110]⟩
def alS : ByteArray := ⟨#[97, 108, 108]⟩
def anS : ByteArray := ⟨#[97, 110, 100]⟩
/-- what stands behind an 'and' -/
def lead : List Tk → Option (List Tk)
  | a :: b :: c :: d :: r => if a.k = 0 ∧ b.k = 6 ∧ small b.t = anS ∧ c.k = 0 then some (d :: r) else none
  | _ => none
def enW : Nat → List Tk → Bool → Bool → Int → Int → Bool
  | 0, _, _, ho, _, _ => ho
  | f + 1, l, fi, ho, wd, hg =>
    if fi = false ∧ l = [] then ho
    else match (if fi = true then some l else lead l) with
      | none => false
      | some l' => match cdP l' wd hg with
        | none => false
        | some (r, ok) => enW f r false (ho && ok) wd hg
def enP (l : List Tk) (wd hg : Int) : Bool :=
  match l with
  | a :: r => if a.k = 6 then (if small a.t = prS then enW (r.length + 1) r false false wd hg else if small a.t = scS ∨ small a.t = alS then enW (r.length + 1) r false true wd hg else false) else enW (r.length + 2) (a :: r) true true wd hg
  | [] => enW 1 [] true true wd hg
theorem cdP_rest {l r : List Tk} {wd hg : Int} {ok : Bool} (h : cdP l wd hg = some (r, ok)) : r.length < l.length ∧ ∀ x ∈ r, x ∈ l := by
  unfold cdP at h
  cases l with
  | nil => cases h
  | cons t l =>
    simp only at h
    split at h
    · split at h
      · cases h
      · cases hc : cdI (trimT (List.drop 1 (List.take (clo [] (t :: l) 0) (t :: l)))) wd hg with
        | none => rw [hc] at h; cases h
        | some b =>
          rw [hc] at h
          injection h with h
          injection h with h1 h2
          rw [← h1]
          exact ⟨by rw [List.length_drop, List.length_cons]; omega, fun x hx => List.mem_of_mem_drop hx⟩
    · cases h
theorem lead_rest {l r : List Tk} (h : lead l = some r) : r.length + 3 = l.length ∧ r = l.drop 3 := by
  match l, h with
  | a :: b :: c :: d :: r', h =>
    rw [lead] at h
    by_cases hc : a.k = 0 ∧ b.k = 6 ∧ small b.t = anS ∧ c.k = 0
    · rw [if_pos hc] at h; injection h with h; subst h; exact ⟨rfl, rfl⟩
    · rw [if_neg hc] at h; cases h
theorem enW_end {f : Nat} {ho : Bool} {wd hg : Int} : enW (f + 1) [] false ho wd hg = ho := by
  rw [enW]; rfl
theorem enW_go {f : Nat} {l l' : List Tk} {fi ho : Bool} {wd hg : Int} (h : ¬ (fi = false ∧ l = [])) (hl : (if fi = true then some l else lead l) = some l') : enW (f + 1) l fi ho wd hg = match cdP l' wd hg with
    | none => false
    | some (r, ok) => enW f r false (ho && ok) wd hg := by
  rw [enW, if_neg h, hl]
theorem enW_no {f : Nat} {l : List Tk} {ho : Bool} {wd hg : Int} (h : l ≠ []) (hl : lead l = none) : enW (f + 1) l false ho wd hg = false := by
  rw [enW, if_neg (fun e => h e.2), if_neg (by simp), hl]
set_option maxHeartbeats 16000000 in
set_option maxRecDepth 100000 in
theorem c_entry (l : List Tk) (v : Value) (lim : Nat) (wd hg : Int) (w : World) (h : RT w lim v l) (hlim : lim ≤ w.heap.size) (hl : l.length ≤ 1000000000) (hm : MxC w) (hdim : ∀ x ∈ l, DimOk x ∧ x.t.size ≤ 1000000000) : Calls Tryd.prog 9 #[v, .int .i64 wd, .int .i64 hg] w fun e w' => e = .returned (.bool (enP l wd hg)) ∧ Below w.heap.size w w' := by
  have HDIM := Lib.hid hdim
  have HM := Lib.hid hm
  have hz := hm.lt
  have HLIM := Lib.hid hlim
  have HRT := Lib.hid h
  obtain ⟨EN, hEN⟩ : ∃ EN, EN = enP l wd hg := ⟨_, rfl⟩
  rw [← hEN]
  clear hdim hm h
  cases l with
  | nil =>
    obtain ⟨A, c, rfl⟩ := HRT.out.nil
    have HEN := Lib.hid hEN
    clear hEN
    go_enter Tryd.func9, Tryd.ntmps9
    go_wp2_with fail
    go_loopw [0, 7, 8] (fun u0 u7 u8 wr => ∃ (l' : List Tk) (ho fi : Bool) (f : Nat), u7 = .bool ho ∧ u8 = .bool fi ∧ l'.length < f ∧ l'.length ≤ 1000000000 ∧ Hid (EN = enW f l' fi ho wd hg) ∧ Hid (∀ x ∈ l', DimOk x ∧ x.t.size ≤ 1000000000) ∧ Hid (RT wr lim u0 l' ∧ Below w.heap.size w wr)) (fun u0 _ u8 _ => slN u0 * 2 + (match u8 with | .bool true => 1 | _ => 0))
    case atStart => exact ⟨[], true, true, 1, rfl, rfl, by simp, by simp, HEN.out, fun y hy => absurd hy (by simp), HRT.out, Below.refl _ _⟩
    case round =>
      obtain ⟨l', ho, fi, f, rfl, rfl, hf, hll, HE, HX, HWR⟩ := hrel
      have hwz := HWR.out.2.size
      cases f with
      | zero => omega
      | succ f =>
      have HCOND : Hid (∀ (lx : List Tk) (vx : Value) (x : World), (∀ y ∈ lx, y ∈ l') → lx.length ≤ 1000000000 → RT x lim vx lx → Below w.heap.size w x → Calls Tryd.prog 19 #[vx, .int .i64 wd, .int .i64 hg] x (CdRet lx wd hg lim x)) := fun lx vx x h1 h2 h3 h4 =>
        c_cond lx vx lim wd hg x h3 (Nat.le_trans HLIM.out h4.size) h2 (HM.out.below h4 hz) (fun y hy => HX.out y (h1 y hy))
      cases fi with
      | true =>
        have HG : Hid (EN = match cdP l' wd hg with
          | none => false
          | some (r, ok) => enW f r false (ho && ok) wd hg) := by
          unfold Hid; rw [HE.out]; exact enW_go (by simp) (if_pos rfl)
        obtain ⟨A, c, hu⟩ : ∃ A c, u0 = .slice A l'.length c := by
          obtain ⟨_, A, c, e, _⟩ := HWR.out.1
          exact ⟨A, c, e⟩
        subst hu
        go_upto_region 18 with (go_at_call 19; refine (HCOND.out l' _ _ (fun y hy => hy) hll HWR.out.1 HWR.out.2).mono ?_; rintro e w5 ⟨v5, ok, good, rfl, hcs, hb5⟩; have HCS := Lib.hid hcs; have HB5 : Hid (Below w.heap.size w w5) := HWR.out.2.trans (hb5.mono hwz); clear hcs hb5)
        rcases HCS.out with ⟨hn, hgd⟩ | ⟨r5, hs5, hgd, hr5⟩
        · subst hgd
          have HR : Hid (EN = false) := by unfold Hid; rw [HG.out, hn]
          go_wp2_with fail
          go_ret
          exact ⟨ret_bool HR.out.symm, HB5.out⟩
        · subst hgd
          have HR : Hid (EN = enW f r5 false (ho && ok) wd hg) := by unfold Hid; rw [HG.out, hs5]
          have hrr := cdP_rest hs5
          have HRR := Lib.hid hrr.2
          have hrl := hrr.1
          have HR5 := Lib.hid hr5
          have HS5 := Lib.hid (show slN v5 = r5.length by obtain ⟨_, A, c, e, _⟩ := hr5; rw [e]; rfl)
          clear hr5 hrr hs5 HCS
          cases ho with
          | true =>
            go_wp2_with fail
            go_roundw
            case rel => exact ⟨r5, ok, false, f, rfl, rfl, by omega, by omega, by rw [HR.out]; rfl, fun y hy => HX.out y (HRR.out y hy), HR5.out, HB5.out⟩
            case measure => have h2 := HS5.out; show slN v5 * 2 + 0 < l'.length * 2 + 1; rw [h2]; omega
          | false =>
            go_wp2_with fail
            go_roundw
            case rel => exact ⟨r5, false, false, f, rfl, rfl, by omega, by omega, by rw [HR.out]; rfl, fun y hy => HX.out y (HRR.out y hy), HR5.out, HB5.out⟩
            case measure => have h2 := HS5.out; show slN v5 * 2 + 0 < l'.length * 2 + 1; rw [h2]; omega
      | false =>
        by_cases hnil : l' = []
        · subst hnil
          obtain ⟨A, c, rfl⟩ := HWR.out.1.nil
          have HR : Hid (EN = ho) := by unfold Hid; rw [HE.out, enW_end]
          go_wp2_with fail
          go_ret
          exact ⟨ret_bool HR.out.symm, HWR.out.2⟩
        · have HNE := Lib.hid hnil
          have HNO : Hid (lead l' = none → EN = false) := fun e => by rw [HE.out]; exact enW_no HNE.out e
          obtain ⟨a, t1, rfl⟩ := List.exists_cons_of_ne_nil hnil
          obtain ⟨g, o, c, rfl, hc, hgl, hall⟩ := HWR.out.1.cons
          have hlimw : lim ≤ wr.heap.size := Nat.le_trans HLIM.out hwz
          have d0 : wr.cell? ⟨g, o, none⟩ = some (.int .i64 (a.k : Int)) := hall 0 a 0 rfl (by decide)
          have hp0 : (0 : Int) < (t1.length : Int) + 1 := by omega
          clear hnil
          match t1, hc, hall, hf, hll, HE, HX, HWR, HCOND, HNE, HNO, hp0 with
          | [], hc, hall, hf, hll, HE, HX, HWR, HCOND, HNE, HNO, hp0 =>
            have HR := Lib.hid (HNO.out rfl)
            clear hall
            go_wp2_with fail
            go_ret
            exact ⟨ret_bool HR.out.symm, HWR.out.2⟩
          | [b], hc, hall, hf, hll, HE, HX, HWR, HCOND, HNE, HNO, hp0 =>
            have HR := Lib.hid (HNO.out rfl)
            clear hall
            go_wp2_with fail
            go_ret
            exact ⟨ret_bool HR.out.symm, HWR.out.2⟩
          | [b, b2], hc, hall, hf, hll, HE, HX, HWR, HCOND, HNE, HNO, hp0 =>
            have HR := Lib.hid (HNO.out rfl)
            clear hall
            go_wp2_with fail
            go_ret
            exact ⟨ret_bool HR.out.symm, HWR.out.2⟩
          | b :: cc :: d :: t2, hc, hall, hf, hll, HE, HX, HWR, HCOND, HNE, HNO, hp0 =>
            simp only [List.length_cons] at hc hf hll hp0 ⊢
            have hn4 : ¬ (t2.length : Int) + 1 + 1 + 1 + 1 < 4 := by omega
            have hc3 : ¬ c = 3 := by omega
            have hc3I : (3 : Int) ≤ (c : Int) := by omega
            have d5 : wr.cell? ⟨g, o + 5, none⟩ = some (.int .i64 (b.k : Int)) := hall 1 b 0 rfl (by decide)
            have d6 : wr.cell? ⟨g, o + 6, none⟩ = some (.string b.t) := hall 1 b 1 rfl (by decide)
            have d10 : wr.cell? ⟨g, o + 10, none⟩ = some (.int .i64 (cc.k : Int)) := hall 2 cc 0 rfl (by decide)
            have HALL := Lib.hid hall
            have HLD : Hid (lead (a :: b :: cc :: d :: t2) = if a.k = 0 ∧ b.k = 6 ∧ small b.t = anS ∧ cc.k = 0 then some (d :: t2) else none) := by unfold Hid; rw [lead]
            have hbq := beq_list (small b.t) anS
            rw [show anS.toList = [97, 110, 100] by rw [ByteArray.toList_eq]; rfl] at hbq
            have HSM := Lib.hid (c_small b.t wr (by have := (HX.out b (by simp)).2; omega))
            clear hall
            by_cases hak : a.k = 0
            · have akI : (a.k : Int) = 0 := by omega
              have akn : ((0 : Int) != 0) = false := rfl
              by_cases hbk : b.k = 6
              · have bkI : (b.k : Int) = 6 := by omega
                have bkn : ((6 : Int) != 6) = false := rfl
                by_cases hsm : small b.t = anS
                · rw [decide_eq_true hsm] at hbq
                  have hbn : ((small b.t).toList != [97, 110, 100]) = false := by rw [bne, hbq]; rfl
                  have HSM2 := Lib.hid HSM.out
                  by_cases hck : cc.k = 0
                  · have ckI : (cc.k : Int) = 0 := by omega
                    have HG : Hid (EN = match cdP (d :: t2) wd hg with
                      | none => false
                      | some (r, ok) => enW f r false (ho && ok) wd hg) := by
                      unfold Hid; rw [HE.out]; exact enW_go (by simp) (by rw [if_neg (by simp), HLD.out, if_pos ⟨hak, hbk, hsm, hck⟩])
                    have HRTL : Hid (∀ x, Below wr.heap.size wr x → RT x lim (.slice (some ⟨g, o + 15, none⟩) (t2.length + 1) (c - 3)) (d :: t2)) := fun x hx =>
                      (RT.sub (a := 3) (fun _ => rfl) hgl rfl (by simp only [List.length_cons]; omega) HALL.out (fun i y hy => by rw [Nat.add_comm 3 i]; exact hy)).below hx hlimw
                    have HMEM : Hid (∀ y ∈ d :: t2, y ∈ a :: b :: cc :: d :: t2) := fun y hy => List.mem_cons_of_mem _ (List.mem_cons_of_mem _ (List.mem_cons_of_mem _ hy))
                    generalize small b.t = sb at *
                    clear hak hbk hsm hck HLD HNO HNE HE
                    go_upto_region 15 with (go_at_call 18; refine (HSM.out).mono ?_; rintro e w3 ⟨rfl, hb3⟩; have HB3 := Lib.hid hb3; have c10 := (hb3.cell (p := ⟨g, o + 10, none⟩) (by show g < _; omega)).trans d10; clear hb3)
                    have HBB3 : Hid (Below w.heap.size w w3) := HWR.out.2.trans (HB3.out.mono hwz)
                    go_upto_region 18 with (go_at_call 19; refine (HCOND.out (d :: t2) _ _ HMEM.out (by simp; omega) (HRTL.out _ HB3.out) HBB3.out).mono ?_; rintro e w5 ⟨v5, ok, good, rfl, hcs, hb5⟩; have HCS := Lib.hid hcs; have HB5 : Hid (Below w.heap.size w w5) := HBB3.out.trans (hb5.mono HBB3.out.size); clear hcs hb5)
                    rcases HCS.out with ⟨hn, hgd⟩ | ⟨r5, hs5, hgd, hr5⟩
                    · subst hgd
                      have HR : Hid (EN = false) := by unfold Hid; rw [HG.out, hn]
                      go_wp2_with fail
                      go_ret
                      exact ⟨ret_bool HR.out.symm, HB5.out⟩
                    · subst hgd
                      have HR : Hid (EN = enW f r5 false (ho && ok) wd hg) := by unfold Hid; rw [HG.out, hs5]
                      have hrr := cdP_rest hs5
                      have HRR := Lib.hid hrr.2
                      have hrl := hrr.1
                      rw [List.length_cons] at hrl
                      have HR5 := Lib.hid hr5
                      have HS5 := Lib.hid (show slN v5 = r5.length by obtain ⟨_, A, c, e, _⟩ := hr5; rw [e]; rfl)
                      clear hr5 hrr hs5 HCS
                      cases ho with
                      | true =>
                        go_wp2_with fail
                        go_roundw
                        case rel => exact ⟨r5, ok, false, f, rfl, rfl, by omega, by omega, by rw [HR.out]; rfl, fun y hy => HX.out y (HMEM.out y (HRR.out y hy)), HR5.out, HB5.out⟩
                        case measure => have h2 := HS5.out; show slN v5 * 2 + 0 < (t2.length + 1 + 1 + 1 + 1) * 2 + 0; rw [h2]; omega
                      | false =>
                        go_wp2_with fail
                        go_roundw
                        case rel => exact ⟨r5, false, false, f, rfl, rfl, by omega, by omega, by rw [HR.out]; rfl, fun y hy => HX.out y (HMEM.out y (HRR.out y hy)), HR5.out, HB5.out⟩
                        case measure => have h2 := HS5.out; show slN v5 * 2 + 0 < (t2.length + 1 + 1 + 1 + 1) * 2 + 0; rw [h2]; omega
                  · have ckI : ¬ (cc.k : Int) = 0 := by omega
                    have ckb : ((cc.k : Int) == 0) = false := beq_eq_false_iff_ne.2 ckI
                    have ckc : ((cc.k : Int) != 0) = true := by rw [bne, ckb]; rfl
                    have HR := Lib.hid (HNO.out (by rw [HLD.out, if_neg (fun e => hck e.2.2.2)]))
                    generalize small b.t = sb at *
                    clear hak hbk hsm hck HLD HNO HNE HE
                    go_wp2_with (go_at_call 18; refine (HSM.out).mono ?_; rintro e w3 ⟨rfl, hb3⟩; have HB3 := Lib.hid hb3; have c10 := (hb3.cell (p := ⟨g, o + 10, none⟩) (by show g < _; omega)).trans d10; clear hb3)
                    go_ret
                    exact ⟨ret_bool HR.out.symm, HWR.out.2.trans (HB3.out.mono hwz)⟩
                · rw [decide_eq_false hsm] at hbq
                  have hbn : ((small b.t).toList != [97, 110, 100]) = true := by rw [bne, hbq]; rfl
                  have HR := Lib.hid (HNO.out (by rw [HLD.out, if_neg (fun e => hsm e.2.2.1)]))
                  generalize small b.t = sb at *
                  clear hak hbk hsm HLD HNO HNE HE
                  go_wp2_with (go_at_call 18; refine (HSM.out).mono ?_; rintro e w3 ⟨rfl, hb3⟩; have HB3 := Lib.hid hb3; clear hb3)
                  go_ret
                  exact ⟨ret_bool HR.out.symm, HWR.out.2.trans (HB3.out.mono hwz)⟩
              · have bkI : ¬ (b.k : Int) = 6 := by omega
                have bkb : ((b.k : Int) == 6) = false := beq_eq_false_iff_ne.2 bkI
                have bkc : ((b.k : Int) != 6) = true := by rw [bne, bkb]; rfl
                have HR := Lib.hid (HNO.out (by rw [HLD.out, if_neg (fun e => hbk e.2.1)]))
                clear hak hbk HLD HNO HNE HE hbq
                go_wp2_with fail
                go_ret
                exact ⟨ret_bool HR.out.symm, HWR.out.2⟩
            · have akI : ¬ (a.k : Int) = 0 := by omega
              have akb : ((a.k : Int) == 0) = false := beq_eq_false_iff_ne.2 akI
              have akc : ((a.k : Int) != 0) = true := by rw [bne, akb]; rfl
              have HR := Lib.hid (HNO.out (by rw [HLD.out, if_neg (fun e => hak e.1)]))
              clear hak HLD HNO HNE HE hbq
              go_wp2_with fail
              go_ret
              exact ⟨ret_bool HR.out.symm, HWR.out.2⟩
  | cons a r =>
    obtain ⟨g, o, c, rfl, hc, hgl, hcell, hall⟩ := HRT.out.head
    obtain ⟨d0, d1, d2, d3, d4⟩ := hcell w (Below.refl _ _)
    have hp0 : (0 : Int) < (r.length : Int) + 1 := by omega
    have hl2 : r.length + 1 ≤ 1000000000 := hl
    have HALL := Lib.hid hall
    clear hcell hall
    by_cases ha : a.k = 6
    · have haI : (a.k : Int) = 6 := by omega
      have HEN : Hid (EN = if small a.t = prS then enW (r.length + 1) r false false wd hg else if small a.t = scS ∨ small a.t = alS then enW (r.length + 1) r false true wd hg else false) := by
        unfold Hid; rw [hEN]; unfold enP; simp only; rw [if_pos ha]
      have HSM := Lib.hid (c_small a.t w (by have := (HDIM.out a (by simp)).2; omega))
      obtain ⟨A1, hA1⟩ : ∃ A1, (if c = 1 then some (⟨g, o, none⟩ : Addr) else some ⟨g, o + 5, none⟩) = A1 := ⟨_, rfl⟩
      have HT1 : Hid (∀ x : World, Below w.heap.size w x → RT x lim (.slice A1 r.length (c - 1)) r) := fun x hx => by rw [← hA1]; exact (RT.tail rfl hc hgl HALL.out).below hx HLIM.out
      have hcI : (1 : Int) ≤ (c : Int) := by omega
      generalize small a.t = what at *
      have b0 := beq_list what prS
      have b1 := beq_list what scS
      have b2 := beq_list what alS
      rw [show prS.toList = [112, 114, 105, 110, 116] by rw [ByteArray.toList_eq]; rfl] at b0
      rw [show scS.toList = [115, 99, 114, 101, 101, 110] by rw [ByteArray.toList_eq]; rfl] at b1
      rw [show alS.toList = [97, 108, 108] by rw [ByteArray.toList_eq]; rfl] at b2
      clear ha hEN
      by_cases h0 : what = prS
      · rw [decide_eq_true h0] at b0
        have HR : Hid (EN = enW (r.length + 1) r false false wd hg) := by unfold Hid; rw [HEN.out, if_pos h0]
        clear h0 b1 b2 HEN
        go_enter Tryd.func9, Tryd.ntmps9
        go_wp2_with (go_at_call 18; refine (HSM.out).mono ?_; rintro e w3 ⟨rfl, hb3⟩; have HB3 := Lib.hid hb3; clear hb3)
        clear b0 d0 d1 d2 d3 d4 hA1
        go_loopw [0, 7, 8] (fun u0 u7 u8 wr => ∃ (l' : List Tk) (ho fi : Bool) (f : Nat), u7 = .bool ho ∧ u8 = .bool fi ∧ l'.length < f ∧ l'.length ≤ 1000000000 ∧ Hid (EN = enW f l' fi ho wd hg) ∧ Hid (∀ x ∈ l', DimOk x ∧ x.t.size ≤ 1000000000) ∧ Hid (RT wr lim u0 l' ∧ Below w.heap.size w wr)) (fun u0 _ u8 _ => slN u0 * 2 + (match u8 with | .bool true => 1 | _ => 0))
        case atStart => exact ⟨r, false, false, r.length + 1, rfl, rfl, by omega, by omega, HR.out, fun y hy => HDIM.out y (List.mem_cons_of_mem _ hy), HT1.out _ HB3.out, HB3.out⟩
        case round =>
          obtain ⟨l', ho, fi, f, rfl, rfl, hf, hll, HE, HX, HWR⟩ := hrel
          have hwz := HWR.out.2.size
          cases f with
          | zero => omega
          | succ f =>
          have HCOND : Hid (∀ (lx : List Tk) (vx : Value) (x : World), (∀ y ∈ lx, y ∈ l') → lx.length ≤ 1000000000 → RT x lim vx lx → Below w.heap.size w x → Calls Tryd.prog 19 #[vx, .int .i64 wd, .int .i64 hg] x (CdRet lx wd hg lim x)) := fun lx vx x h1 h2 h3 h4 =>
            c_cond lx vx lim wd hg x h3 (Nat.le_trans HLIM.out h4.size) h2 (HM.out.below h4 hz) (fun y hy => HX.out y (h1 y hy))
          cases fi with
          | true =>
            have HG : Hid (EN = match cdP l' wd hg with
              | none => false
              | some (r, ok) => enW f r false (ho && ok) wd hg) := by
              unfold Hid; rw [HE.out]; exact enW_go (by simp) (if_pos rfl)
            obtain ⟨A, c, hu⟩ : ∃ A c, u0 = .slice A l'.length c := by
              obtain ⟨_, A, c, e, _⟩ := HWR.out.1
              exact ⟨A, c, e⟩
            subst hu
            go_upto_region 18 with (go_at_call 19; refine (HCOND.out l' _ _ (fun y hy => hy) hll HWR.out.1 HWR.out.2).mono ?_; rintro e w5 ⟨v5, ok, good, rfl, hcs, hb5⟩; have HCS := Lib.hid hcs; have HB5 : Hid (Below w.heap.size w w5) := HWR.out.2.trans (hb5.mono hwz); clear hcs hb5)
            rcases HCS.out with ⟨hn, hgd⟩ | ⟨r5, hs5, hgd, hr5⟩
            · subst hgd
              have HR : Hid (EN = false) := by unfold Hid; rw [HG.out, hn]
              go_wp2_with fail
              go_ret
              exact ⟨ret_bool HR.out.symm, HB5.out⟩
            · subst hgd
              have HR : Hid (EN = enW f r5 false (ho && ok) wd hg) := by unfold Hid; rw [HG.out, hs5]
              have hrr := cdP_rest hs5
              have HRR := Lib.hid hrr.2
              have hrl := hrr.1
              have HR5 := Lib.hid hr5
              have HS5 := Lib.hid (show slN v5 = r5.length by obtain ⟨_, A, c, e, _⟩ := hr5; rw [e]; rfl)
              clear hr5 hrr hs5 HCS
              cases ho with
              | true =>
                go_wp2_with fail
                go_roundw
                case rel => exact ⟨r5, ok, false, f, rfl, rfl, by omega, by omega, by rw [HR.out]; rfl, fun y hy => HX.out y (HRR.out y hy), HR5.out, HB5.out⟩
                case measure => have h2 := HS5.out; show slN v5 * 2 + 0 < l'.length * 2 + 1; rw [h2]; omega
              | false =>
                go_wp2_with fail
                go_roundw
                case rel => exact ⟨r5, false, false, f, rfl, rfl, by omega, by omega, by rw [HR.out]; rfl, fun y hy => HX.out y (HRR.out y hy), HR5.out, HB5.out⟩
                case measure => have h2 := HS5.out; show slN v5 * 2 + 0 < l'.length * 2 + 1; rw [h2]; omega
          | false =>
            by_cases hnil : l' = []
            · subst hnil
              obtain ⟨A, c, rfl⟩ := HWR.out.1.nil
              have HR : Hid (EN = ho) := by unfold Hid; rw [HE.out, enW_end]
              go_wp2_with fail
              go_ret
              exact ⟨ret_bool HR.out.symm, HWR.out.2⟩
            · have HNE := Lib.hid hnil
              have HNO : Hid (lead l' = none → EN = false) := fun e => by rw [HE.out]; exact enW_no HNE.out e
              obtain ⟨a, t1, rfl⟩ := List.exists_cons_of_ne_nil hnil
              obtain ⟨g, o, c, rfl, hc, hgl, hall⟩ := HWR.out.1.cons
              have hlimw : lim ≤ wr.heap.size := Nat.le_trans HLIM.out hwz
              have d0 : wr.cell? ⟨g, o, none⟩ = some (.int .i64 (a.k : Int)) := hall 0 a 0 rfl (by decide)
              have hp0 : (0 : Int) < (t1.length : Int) + 1 := by omega
              clear hnil
              match t1, hc, hall, hf, hll, HE, HX, HWR, HCOND, HNE, HNO, hp0 with
              | [], hc, hall, hf, hll, HE, HX, HWR, HCOND, HNE, HNO, hp0 =>
                have HR := Lib.hid (HNO.out rfl)
                clear hall
                go_wp2_with fail
                go_ret
                exact ⟨ret_bool HR.out.symm, HWR.out.2⟩
              | [b], hc, hall, hf, hll, HE, HX, HWR, HCOND, HNE, HNO, hp0 =>
                have HR := Lib.hid (HNO.out rfl)
                clear hall
                go_wp2_with fail
                go_ret
                exact ⟨ret_bool HR.out.symm, HWR.out.2⟩
              | [b, b2], hc, hall, hf, hll, HE, HX, HWR, HCOND, HNE, HNO, hp0 =>
                have HR := Lib.hid (HNO.out rfl)
                clear hall
                go_wp2_with fail
                go_ret
                exact ⟨ret_bool HR.out.symm, HWR.out.2⟩
              | b :: cc :: d :: t2, hc, hall, hf, hll, HE, HX, HWR, HCOND, HNE, HNO, hp0 =>
                simp only [List.length_cons] at hc hf hll hp0 ⊢
                have hn4 : ¬ (t2.length : Int) + 1 + 1 + 1 + 1 < 4 := by omega
                have hc3 : ¬ c = 3 := by omega
                have hc3I : (3 : Int) ≤ (c : Int) := by omega
                have d5 : wr.cell? ⟨g, o + 5, none⟩ = some (.int .i64 (b.k : Int)) := hall 1 b 0 rfl (by decide)
                have d6 : wr.cell? ⟨g, o + 6, none⟩ = some (.string b.t) := hall 1 b 1 rfl (by decide)
                have d10 : wr.cell? ⟨g, o + 10, none⟩ = some (.int .i64 (cc.k : Int)) := hall 2 cc 0 rfl (by decide)
                have HALL := Lib.hid hall
                have HLD : Hid (lead (a :: b :: cc :: d :: t2) = if a.k = 0 ∧ b.k = 6 ∧ small b.t = anS ∧ cc.k = 0 then some (d :: t2) else none) := by unfold Hid; rw [lead]
                have hbq := beq_list (small b.t) anS
                rw [show anS.toList = [97, 110, 100] by rw [ByteArray.toList_eq]; rfl] at hbq
                have HSM := Lib.hid (c_small b.t wr (by have := (HX.out b (by simp)).2; omega))
                clear hall
                by_cases hak : a.k = 0
                · have akI : (a.k : Int) = 0 := by omega
                  have akn : ((0 : Int) != 0) = false := rfl
                  by_cases hbk : b.k = 6
                  · have bkI : (b.k : Int) = 6 := by omega
                    have bkn : ((6 : Int) != 6) = false := rfl
                    by_cases hsm : small b.t = anS
                    · rw [decide_eq_true hsm] at hbq
                      have hbn : ((small b.t).toList != [97, 110, 100]) = false := by rw [bne, hbq]; rfl
                      have HSM2 := Lib.hid HSM.out
                      by_cases hck : cc.k = 0
                      · have ckI : (cc.k : Int) = 0 := by omega
                        have HG : Hid (EN = match cdP (d :: t2) wd hg with
                          | none => false
                          | some (r, ok) => enW f r false (ho && ok) wd hg) := by
                          unfold Hid; rw [HE.out]; exact enW_go (by simp) (by rw [if_neg (by simp), HLD.out, if_pos ⟨hak, hbk, hsm, hck⟩])
                        have HRTL : Hid (∀ x, Below wr.heap.size wr x → RT x lim (.slice (some ⟨g, o + 15, none⟩) (t2.length + 1) (c - 3)) (d :: t2)) := fun x hx =>
                          (RT.sub (a := 3) (fun _ => rfl) hgl rfl (by simp only [List.length_cons]; omega) HALL.out (fun i y hy => by rw [Nat.add_comm 3 i]; exact hy)).below hx hlimw
                        have HMEM : Hid (∀ y ∈ d :: t2, y ∈ a :: b :: cc :: d :: t2) := fun y hy => List.mem_cons_of_mem _ (List.mem_cons_of_mem _ (List.mem_cons_of_mem _ hy))
                        generalize small b.t = sb at *
                        clear hak hbk hsm hck HLD HNO HNE HE
                        go_upto_region 15 with (go_at_call 18; refine (HSM.out).mono ?_; rintro e w3 ⟨rfl, hb3⟩; have HB3 := Lib.hid hb3; have c10 := (hb3.cell (p := ⟨g, o + 10, none⟩) (by show g < _; omega)).trans d10; clear hb3)
                        have HBB3 : Hid (Below w.heap.size w w3) := HWR.out.2.trans (HB3.out.mono hwz)
                        go_upto_region 18 with (go_at_call 19; refine (HCOND.out (d :: t2) _ _ HMEM.out (by simp; omega) (HRTL.out _ HB3.out) HBB3.out).mono ?_; rintro e w5 ⟨v5, ok, good, rfl, hcs, hb5⟩; have HCS := Lib.hid hcs; have HB5 : Hid (Below w.heap.size w w5) := HBB3.out.trans (hb5.mono HBB3.out.size); clear hcs hb5)
                        rcases HCS.out with ⟨hn, hgd⟩ | ⟨r5, hs5, hgd, hr5⟩
                        · subst hgd
                          have HR : Hid (EN = false) := by unfold Hid; rw [HG.out, hn]
                          go_wp2_with fail
                          go_ret
                          exact ⟨ret_bool HR.out.symm, HB5.out⟩
                        · subst hgd
                          have HR : Hid (EN = enW f r5 false (ho && ok) wd hg) := by unfold Hid; rw [HG.out, hs5]
                          have hrr := cdP_rest hs5
                          have HRR := Lib.hid hrr.2
                          have hrl := hrr.1
                          rw [List.length_cons] at hrl
                          have HR5 := Lib.hid hr5
                          have HS5 := Lib.hid (show slN v5 = r5.length by obtain ⟨_, A, c, e, _⟩ := hr5; rw [e]; rfl)
                          clear hr5 hrr hs5 HCS
                          cases ho with
                          | true =>
                            go_wp2_with fail
                            go_roundw
                            case rel => exact ⟨r5, ok, false, f, rfl, rfl, by omega, by omega, by rw [HR.out]; rfl, fun y hy => HX.out y (HMEM.out y (HRR.out y hy)), HR5.out, HB5.out⟩
                            case measure => have h2 := HS5.out; show slN v5 * 2 + 0 < (t2.length + 1 + 1 + 1 + 1) * 2 + 0; rw [h2]; omega
                          | false =>
                            go_wp2_with fail
                            go_roundw
                            case rel => exact ⟨r5, false, false, f, rfl, rfl, by omega, by omega, by rw [HR.out]; rfl, fun y hy => HX.out y (HMEM.out y (HRR.out y hy)), HR5.out, HB5.out⟩
                            case measure => have h2 := HS5.out; show slN v5 * 2 + 0 < (t2.length + 1 + 1 + 1 + 1) * 2 + 0; rw [h2]; omega
                      · have ckI : ¬ (cc.k : Int) = 0 := by omega
                        have ckb : ((cc.k : Int) == 0) = false := beq_eq_false_iff_ne.2 ckI
                        have ckc : ((cc.k : Int) != 0) = true := by rw [bne, ckb]; rfl
                        have HR := Lib.hid (HNO.out (by rw [HLD.out, if_neg (fun e => hck e.2.2.2)]))
                        generalize small b.t = sb at *
                        clear hak hbk hsm hck HLD HNO HNE HE
                        go_wp2_with (go_at_call 18; refine (HSM.out).mono ?_; rintro e w3 ⟨rfl, hb3⟩; have HB3 := Lib.hid hb3; have c10 := (hb3.cell (p := ⟨g, o + 10, none⟩) (by show g < _; omega)).trans d10; clear hb3)
                        go_ret
                        exact ⟨ret_bool HR.out.symm, HWR.out.2.trans (HB3.out.mono hwz)⟩
                    · rw [decide_eq_false hsm] at hbq
                      have hbn : ((small b.t).toList != [97, 110, 100]) = true := by rw [bne, hbq]; rfl
                      have HR := Lib.hid (HNO.out (by rw [HLD.out, if_neg (fun e => hsm e.2.2.1)]))
                      generalize small b.t = sb at *
                      clear hak hbk hsm HLD HNO HNE HE
                      go_wp2_with (go_at_call 18; refine (HSM.out).mono ?_; rintro e w3 ⟨rfl, hb3⟩; have HB3 := Lib.hid hb3; clear hb3)
                      go_ret
                      exact ⟨ret_bool HR.out.symm, HWR.out.2.trans (HB3.out.mono hwz)⟩
                  · have bkI : ¬ (b.k : Int) = 6 := by omega
                    have bkb : ((b.k : Int) == 6) = false := beq_eq_false_iff_ne.2 bkI
                    have bkc : ((b.k : Int) != 6) = true := by rw [bne, bkb]; rfl
                    have HR := Lib.hid (HNO.out (by rw [HLD.out, if_neg (fun e => hbk e.2.1)]))
                    clear hak hbk HLD HNO HNE HE hbq
                    go_wp2_with fail
                    go_ret
                    exact ⟨ret_bool HR.out.symm, HWR.out.2⟩
                · have akI : ¬ (a.k : Int) = 0 := by omega
                  have akb : ((a.k : Int) == 0) = false := beq_eq_false_iff_ne.2 akI
                  have akc : ((a.k : Int) != 0) = true := by rw [bne, akb]; rfl
                  have HR := Lib.hid (HNO.out (by rw [HLD.out, if_neg (fun e => hak e.1)]))
                  clear hak HLD HNO HNE HE hbq
                  go_wp2_with fail
                  go_ret
                  exact ⟨ret_bool HR.out.symm, HWR.out.2⟩
      · rw [decide_eq_false h0] at b0
        by_cases h1 : what = scS
        · rw [decide_eq_true h1] at b1
          have HR : Hid (EN = enW (r.length + 1) r false true wd hg) := by unfold Hid; rw [HEN.out, if_neg h0, if_pos (.inl h1)]
          clear h0 h1 b2 HEN
          go_enter Tryd.func9, Tryd.ntmps9
          go_wp2_with (go_at_call 18; refine (HSM.out).mono ?_; rintro e w3 ⟨rfl, hb3⟩; have HB3 := Lib.hid hb3; clear hb3)
          clear b0 b1 d0 d1 d2 d3 d4 hA1
          go_loopw [0, 7, 8] (fun u0 u7 u8 wr => ∃ (l' : List Tk) (ho fi : Bool) (f : Nat), u7 = .bool ho ∧ u8 = .bool fi ∧ l'.length < f ∧ l'.length ≤ 1000000000 ∧ Hid (EN = enW f l' fi ho wd hg) ∧ Hid (∀ x ∈ l', DimOk x ∧ x.t.size ≤ 1000000000) ∧ Hid (RT wr lim u0 l' ∧ Below w.heap.size w wr)) (fun u0 _ u8 _ => slN u0 * 2 + (match u8 with | .bool true => 1 | _ => 0))
          case atStart => exact ⟨r, true, false, r.length + 1, rfl, rfl, by omega, by omega, HR.out, fun y hy => HDIM.out y (List.mem_cons_of_mem _ hy), HT1.out _ HB3.out, HB3.out⟩
          case round =>
            obtain ⟨l', ho, fi, f, rfl, rfl, hf, hll, HE, HX, HWR⟩ := hrel
            have hwz := HWR.out.2.size
            cases f with
            | zero => omega
            | succ f =>
            have HCOND : Hid (∀ (lx : List Tk) (vx : Value) (x : World), (∀ y ∈ lx, y ∈ l') → lx.length ≤ 1000000000 → RT x lim vx lx → Below w.heap.size w x → Calls Tryd.prog 19 #[vx, .int .i64 wd, .int .i64 hg] x (CdRet lx wd hg lim x)) := fun lx vx x h1 h2 h3 h4 =>
              c_cond lx vx lim wd hg x h3 (Nat.le_trans HLIM.out h4.size) h2 (HM.out.below h4 hz) (fun y hy => HX.out y (h1 y hy))
            cases fi with
            | true =>
              have HG : Hid (EN = match cdP l' wd hg with
                | none => false
                | some (r, ok) => enW f r false (ho && ok) wd hg) := by
                unfold Hid; rw [HE.out]; exact enW_go (by simp) (if_pos rfl)
              obtain ⟨A, c, hu⟩ : ∃ A c, u0 = .slice A l'.length c := by
                obtain ⟨_, A, c, e, _⟩ := HWR.out.1
                exact ⟨A, c, e⟩
              subst hu
              go_upto_region 18 with (go_at_call 19; refine (HCOND.out l' _ _ (fun y hy => hy) hll HWR.out.1 HWR.out.2).mono ?_; rintro e w5 ⟨v5, ok, good, rfl, hcs, hb5⟩; have HCS := Lib.hid hcs; have HB5 : Hid (Below w.heap.size w w5) := HWR.out.2.trans (hb5.mono hwz); clear hcs hb5)
              rcases HCS.out with ⟨hn, hgd⟩ | ⟨r5, hs5, hgd, hr5⟩
              · subst hgd
                have HR : Hid (EN = false) := by unfold Hid; rw [HG.out, hn]
                go_wp2_with fail
                go_ret
                exact ⟨ret_bool HR.out.symm, HB5.out⟩
              · subst hgd
                have HR : Hid (EN = enW f r5 false (ho && ok) wd hg) := by unfold Hid; rw [HG.out, hs5]
                have hrr := cdP_rest hs5
                have HRR := Lib.hid hrr.2
                have hrl := hrr.1
                have HR5 := Lib.hid hr5
                have HS5 := Lib.hid (show slN v5 = r5.length by obtain ⟨_, A, c, e, _⟩ := hr5; rw [e]; rfl)
                clear hr5 hrr hs5 HCS
                cases ho with
                | true =>
                  go_wp2_with fail
                  go_roundw
                  case rel => exact ⟨r5, ok, false, f, rfl, rfl, by omega, by omega, by rw [HR.out]; rfl, fun y hy => HX.out y (HRR.out y hy), HR5.out, HB5.out⟩
                  case measure => have h2 := HS5.out; show slN v5 * 2 + 0 < l'.length * 2 + 1; rw [h2]; omega
                | false =>
                  go_wp2_with fail
                  go_roundw
                  case rel => exact ⟨r5, false, false, f, rfl, rfl, by omega, by omega, by rw [HR.out]; rfl, fun y hy => HX.out y (HRR.out y hy), HR5.out, HB5.out⟩
                  case measure => have h2 := HS5.out; show slN v5 * 2 + 0 < l'.length * 2 + 1; rw [h2]; omega
            | false =>
              by_cases hnil : l' = []
              · subst hnil
                obtain ⟨A, c, rfl⟩ := HWR.out.1.nil
                have HR : Hid (EN = ho) := by unfold Hid; rw [HE.out, enW_end]
                go_wp2_with fail
                go_ret
                exact ⟨ret_bool HR.out.symm, HWR.out.2⟩
              · have HNE := Lib.hid hnil
                have HNO : Hid (lead l' = none → EN = false) := fun e => by rw [HE.out]; exact enW_no HNE.out e
                obtain ⟨a, t1, rfl⟩ := List.exists_cons_of_ne_nil hnil
                obtain ⟨g, o, c, rfl, hc, hgl, hall⟩ := HWR.out.1.cons
                have hlimw : lim ≤ wr.heap.size := Nat.le_trans HLIM.out hwz
                have d0 : wr.cell? ⟨g, o, none⟩ = some (.int .i64 (a.k : Int)) := hall 0 a 0 rfl (by decide)
                have hp0 : (0 : Int) < (t1.length : Int) + 1 := by omega
                clear hnil
                match t1, hc, hall, hf, hll, HE, HX, HWR, HCOND, HNE, HNO, hp0 with
                | [], hc, hall, hf, hll, HE, HX, HWR, HCOND, HNE, HNO, hp0 =>
                  have HR := Lib.hid (HNO.out rfl)
                  clear hall
                  go_wp2_with fail
                  go_ret
                  exact ⟨ret_bool HR.out.symm, HWR.out.2⟩
                | [b], hc, hall, hf, hll, HE, HX, HWR, HCOND, HNE, HNO, hp0 =>
                  have HR := Lib.hid (HNO.out rfl)
                  clear hall
                  go_wp2_with fail
                  go_ret
                  exact ⟨ret_bool HR.out.symm, HWR.out.2⟩
                | [b, b2], hc, hall, hf, hll, HE, HX, HWR, HCOND, HNE, HNO, hp0 =>
                  have HR := Lib.hid (HNO.out rfl)
                  clear hall
                  go_wp2_with fail
                  go_ret
                  exact ⟨ret_bool HR.out.symm, HWR.out.2⟩
                | b :: cc :: d :: t2, hc, hall, hf, hll, HE, HX, HWR, HCOND, HNE, HNO, hp0 =>
                  simp only [List.length_cons] at hc hf hll hp0 ⊢
                  have hn4 : ¬ (t2.length : Int) + 1 + 1 + 1 + 1 < 4 := by omega
                  have hc3 : ¬ c = 3 := by omega
                  have hc3I : (3 : Int) ≤ (c : Int) := by omega
                  have d5 : wr.cell? ⟨g, o + 5, none⟩ = some (.int .i64 (b.k : Int)) := hall 1 b 0 rfl (by decide)
                  have d6 : wr.cell? ⟨g, o + 6, none⟩ = some (.string b.t) := hall 1 b 1 rfl (by decide)
                  have d10 : wr.cell? ⟨g, o + 10, none⟩ = some (.int .i64 (cc.k : Int)) := hall 2 cc 0 rfl (by decide)
                  have HALL := Lib.hid hall
                  have HLD : Hid (lead (a :: b :: cc :: d :: t2) = if a.k = 0 ∧ b.k = 6 ∧ small b.t = anS ∧ cc.k = 0 then some (d :: t2) else none) := by unfold Hid; rw [lead]
                  have hbq := beq_list (small b.t) anS
                  rw [show anS.toList = [97, 110, 100] by rw [ByteArray.toList_eq]; rfl] at hbq
                  have HSM := Lib.hid (c_small b.t wr (by have := (HX.out b (by simp)).2; omega))
                  clear hall
                  by_cases hak : a.k = 0
                  · have akI : (a.k : Int) = 0 := by omega
                    have akn : ((0 : Int) != 0) = false := rfl
                    by_cases hbk : b.k = 6
                    · have bkI : (b.k : Int) = 6 := by omega
                      have bkn : ((6 : Int) != 6) = false := rfl
                      by_cases hsm : small b.t = anS
                      · rw [decide_eq_true hsm] at hbq
                        have hbn : ((small b.t).toList != [97, 110, 100]) = false := by rw [bne, hbq]; rfl
                        have HSM2 := Lib.hid HSM.out
                        by_cases hck : cc.k = 0
                        · have ckI : (cc.k : Int) = 0 := by omega
                          have HG : Hid (EN = match cdP (d :: t2) wd hg with
                            | none => false
                            | some (r, ok) => enW f r false (ho && ok) wd hg) := by
                            unfold Hid; rw [HE.out]; exact enW_go (by simp) (by rw [if_neg (by simp), HLD.out, if_pos ⟨hak, hbk, hsm, hck⟩])
                          have HRTL : Hid (∀ x, Below wr.heap.size wr x → RT x lim (.slice (some ⟨g, o + 15, none⟩) (t2.length + 1) (c - 3)) (d :: t2)) := fun x hx =>
                            (RT.sub (a := 3) (fun _ => rfl) hgl rfl (by simp only [List.length_cons]; omega) HALL.out (fun i y hy => by rw [Nat.add_comm 3 i]; exact hy)).below hx hlimw
                          have HMEM : Hid (∀ y ∈ d :: t2, y ∈ a :: b :: cc :: d :: t2) := fun y hy => List.mem_cons_of_mem _ (List.mem_cons_of_mem _ (List.mem_cons_of_mem _ hy))
                          generalize small b.t = sb at *
                          clear hak hbk hsm hck HLD HNO HNE HE
                          go_upto_region 15 with (go_at_call 18; refine (HSM.out).mono ?_; rintro e w3 ⟨rfl, hb3⟩; have HB3 := Lib.hid hb3; have c10 := (hb3.cell (p := ⟨g, o + 10, none⟩) (by show g < _; omega)).trans d10; clear hb3)
                          have HBB3 : Hid (Below w.heap.size w w3) := HWR.out.2.trans (HB3.out.mono hwz)
                          go_upto_region 18 with (go_at_call 19; refine (HCOND.out (d :: t2) _ _ HMEM.out (by simp; omega) (HRTL.out _ HB3.out) HBB3.out).mono ?_; rintro e w5 ⟨v5, ok, good, rfl, hcs, hb5⟩; have HCS := Lib.hid hcs; have HB5 : Hid (Below w.heap.size w w5) := HBB3.out.trans (hb5.mono HBB3.out.size); clear hcs hb5)
                          rcases HCS.out with ⟨hn, hgd⟩ | ⟨r5, hs5, hgd, hr5⟩
                          · subst hgd
                            have HR : Hid (EN = false) := by unfold Hid; rw [HG.out, hn]
                            go_wp2_with fail
                            go_ret
                            exact ⟨ret_bool HR.out.symm, HB5.out⟩
                          · subst hgd
                            have HR : Hid (EN = enW f r5 false (ho && ok) wd hg) := by unfold Hid; rw [HG.out, hs5]
                            have hrr := cdP_rest hs5
                            have HRR := Lib.hid hrr.2
                            have hrl := hrr.1
                            rw [List.length_cons] at hrl
                            have HR5 := Lib.hid hr5
                            have HS5 := Lib.hid (show slN v5 = r5.length by obtain ⟨_, A, c, e, _⟩ := hr5; rw [e]; rfl)
                            clear hr5 hrr hs5 HCS
                            cases ho with
                            | true =>
                              go_wp2_with fail
                              go_roundw
                              case rel => exact ⟨r5, ok, false, f, rfl, rfl, by omega, by omega, by rw [HR.out]; rfl, fun y hy => HX.out y (HMEM.out y (HRR.out y hy)), HR5.out, HB5.out⟩
                              case measure => have h2 := HS5.out; show slN v5 * 2 + 0 < (t2.length + 1 + 1 + 1 + 1) * 2 + 0; rw [h2]; omega
                            | false =>
                              go_wp2_with fail
                              go_roundw
                              case rel => exact ⟨r5, false, false, f, rfl, rfl, by omega, by omega, by rw [HR.out]; rfl, fun y hy => HX.out y (HMEM.out y (HRR.out y hy)), HR5.out, HB5.out⟩
                              case measure => have h2 := HS5.out; show slN v5 * 2 + 0 < (t2.length + 1 + 1 + 1 + 1) * 2 + 0; rw [h2]; omega
                        · have ckI : ¬ (cc.k : Int) = 0 := by omega
                          have ckb : ((cc.k : Int) == 0) = false := beq_eq_false_iff_ne.2 ckI
                          have ckc : ((cc.k : Int) != 0) = true := by rw [bne, ckb]; rfl
                          have HR := Lib.hid (HNO.out (by rw [HLD.out, if_neg (fun e => hck e.2.2.2)]))
                          generalize small b.t = sb at *
                          clear hak hbk hsm hck HLD HNO HNE HE
                          go_wp2_with (go_at_call 18; refine (HSM.out).mono ?_; rintro e w3 ⟨rfl, hb3⟩; have HB3 := Lib.hid hb3; have c10 := (hb3.cell (p := ⟨g, o + 10, none⟩) (by show g < _; omega)).trans d10; clear hb3)
                          go_ret
                          exact ⟨ret_bool HR.out.symm, HWR.out.2.trans (HB3.out.mono hwz)⟩
                      · rw [decide_eq_false hsm] at hbq
                        have hbn : ((small b.t).toList != [97, 110, 100]) = true := by rw [bne, hbq]; rfl
                        have HR := Lib.hid (HNO.out (by rw [HLD.out, if_neg (fun e => hsm e.2.2.1)]))
                        generalize small b.t = sb at *
                        clear hak hbk hsm HLD HNO HNE HE
                        go_wp2_with (go_at_call 18; refine (HSM.out).mono ?_; rintro e w3 ⟨rfl, hb3⟩; have HB3 := Lib.hid hb3; clear hb3)
                        go_ret
                        exact ⟨ret_bool HR.out.symm, HWR.out.2.trans (HB3.out.mono hwz)⟩
                    · have bkI : ¬ (b.k : Int) = 6 := by omega
                      have bkb : ((b.k : Int) == 6) = false := beq_eq_false_iff_ne.2 bkI
                      have bkc : ((b.k : Int) != 6) = true := by rw [bne, bkb]; rfl
                      have HR := Lib.hid (HNO.out (by rw [HLD.out, if_neg (fun e => hbk e.2.1)]))
                      clear hak hbk HLD HNO HNE HE hbq
                      go_wp2_with fail
                      go_ret
                      exact ⟨ret_bool HR.out.symm, HWR.out.2⟩
                  · have akI : ¬ (a.k : Int) = 0 := by omega
                    have akb : ((a.k : Int) == 0) = false := beq_eq_false_iff_ne.2 akI
                    have akc : ((a.k : Int) != 0) = true := by rw [bne, akb]; rfl
                    have HR := Lib.hid (HNO.out (by rw [HLD.out, if_neg (fun e => hak e.1)]))
                    clear hak HLD HNO HNE HE hbq
                    go_wp2_with fail
                    go_ret
                    exact ⟨ret_bool HR.out.symm, HWR.out.2⟩
        · rw [decide_eq_false h1] at b1
          by_cases h2 : what = alS
          · rw [decide_eq_true h2] at b2
            have HR : Hid (EN = enW (r.length + 1) r false true wd hg) := by unfold Hid; rw [HEN.out, if_neg h0, if_pos (.inr h2)]
            clear h0 h1 h2 HEN
            go_enter Tryd.func9, Tryd.ntmps9
            go_wp2_with (go_at_call 18; refine (HSM.out).mono ?_; rintro e w3 ⟨rfl, hb3⟩; have HB3 := Lib.hid hb3; clear hb3)
            clear b0 b1 b2 d0 d1 d2 d3 d4 hA1
            go_loopw [0, 7, 8] (fun u0 u7 u8 wr => ∃ (l' : List Tk) (ho fi : Bool) (f : Nat), u7 = .bool ho ∧ u8 = .bool fi ∧ l'.length < f ∧ l'.length ≤ 1000000000 ∧ Hid (EN = enW f l' fi ho wd hg) ∧ Hid (∀ x ∈ l', DimOk x ∧ x.t.size ≤ 1000000000) ∧ Hid (RT wr lim u0 l' ∧ Below w.heap.size w wr)) (fun u0 _ u8 _ => slN u0 * 2 + (match u8 with | .bool true => 1 | _ => 0))
            case atStart => exact ⟨r, true, false, r.length + 1, rfl, rfl, by omega, by omega, HR.out, fun y hy => HDIM.out y (List.mem_cons_of_mem _ hy), HT1.out _ HB3.out, HB3.out⟩
            case round =>
              obtain ⟨l', ho, fi, f, rfl, rfl, hf, hll, HE, HX, HWR⟩ := hrel
              have hwz := HWR.out.2.size
              cases f with
              | zero => omega
              | succ f =>
              have HCOND : Hid (∀ (lx : List Tk) (vx : Value) (x : World), (∀ y ∈ lx, y ∈ l') → lx.length ≤ 1000000000 → RT x lim vx lx → Below w.heap.size w x → Calls Tryd.prog 19 #[vx, .int .i64 wd, .int .i64 hg] x (CdRet lx wd hg lim x)) := fun lx vx x h1 h2 h3 h4 =>
                c_cond lx vx lim wd hg x h3 (Nat.le_trans HLIM.out h4.size) h2 (HM.out.below h4 hz) (fun y hy => HX.out y (h1 y hy))
              cases fi with
              | true =>
                have HG : Hid (EN = match cdP l' wd hg with
                  | none => false
                  | some (r, ok) => enW f r false (ho && ok) wd hg) := by
                  unfold Hid; rw [HE.out]; exact enW_go (by simp) (if_pos rfl)
                obtain ⟨A, c, hu⟩ : ∃ A c, u0 = .slice A l'.length c := by
                  obtain ⟨_, A, c, e, _⟩ := HWR.out.1
                  exact ⟨A, c, e⟩
                subst hu
                go_upto_region 18 with (go_at_call 19; refine (HCOND.out l' _ _ (fun y hy => hy) hll HWR.out.1 HWR.out.2).mono ?_; rintro e w5 ⟨v5, ok, good, rfl, hcs, hb5⟩; have HCS := Lib.hid hcs; have HB5 : Hid (Below w.heap.size w w5) := HWR.out.2.trans (hb5.mono hwz); clear hcs hb5)
                rcases HCS.out with ⟨hn, hgd⟩ | ⟨r5, hs5, hgd, hr5⟩
                · subst hgd
                  have HR : Hid (EN = false) := by unfold Hid; rw [HG.out, hn]
                  go_wp2_with fail
                  go_ret
                  exact ⟨ret_bool HR.out.symm, HB5.out⟩
                · subst hgd
                  have HR : Hid (EN = enW f r5 false (ho && ok) wd hg) := by unfold Hid; rw [HG.out, hs5]
                  have hrr := cdP_rest hs5
                  have HRR := Lib.hid hrr.2
                  have hrl := hrr.1
                  have HR5 := Lib.hid hr5
                  have HS5 := Lib.hid (show slN v5 = r5.length by obtain ⟨_, A, c, e, _⟩ := hr5; rw [e]; rfl)
                  clear hr5 hrr hs5 HCS
                  cases ho with
                  | true =>
                    go_wp2_with fail
                    go_roundw
                    case rel => exact ⟨r5, ok, false, f, rfl, rfl, by omega, by omega, by rw [HR.out]; rfl, fun y hy => HX.out y (HRR.out y hy), HR5.out, HB5.out⟩
                    case measure => have h2 := HS5.out; show slN v5 * 2 + 0 < l'.length * 2 + 1; rw [h2]; omega
                  | false =>
                    go_wp2_with fail
                    go_roundw
                    case rel => exact ⟨r5, false, false, f, rfl, rfl, by omega, by omega, by rw [HR.out]; rfl, fun y hy => HX.out y (HRR.out y hy), HR5.out, HB5.out⟩
                    case measure => have h2 := HS5.out; show slN v5 * 2 + 0 < l'.length * 2 + 1; rw [h2]; omega
              | false =>
                by_cases hnil : l' = []
                · subst hnil
                  obtain ⟨A, c, rfl⟩ := HWR.out.1.nil
                  have HR : Hid (EN = ho) := by unfold Hid; rw [HE.out, enW_end]
                  go_wp2_with fail
                  go_ret
                  exact ⟨ret_bool HR.out.symm, HWR.out.2⟩
                · have HNE := Lib.hid hnil
                  have HNO : Hid (lead l' = none → EN = false) := fun e => by rw [HE.out]; exact enW_no HNE.out e
                  obtain ⟨a, t1, rfl⟩ := List.exists_cons_of_ne_nil hnil
                  obtain ⟨g, o, c, rfl, hc, hgl, hall⟩ := HWR.out.1.cons
                  have hlimw : lim ≤ wr.heap.size := Nat.le_trans HLIM.out hwz
                  have d0 : wr.cell? ⟨g, o, none⟩ = some (.int .i64 (a.k : Int)) := hall 0 a 0 rfl (by decide)
                  have hp0 : (0 : Int) < (t1.length : Int) + 1 := by omega
                  clear hnil
                  match t1, hc, hall, hf, hll, HE, HX, HWR, HCOND, HNE, HNO, hp0 with
                  | [], hc, hall, hf, hll, HE, HX, HWR, HCOND, HNE, HNO, hp0 =>
                    have HR := Lib.hid (HNO.out rfl)
                    clear hall
                    go_wp2_with fail
                    go_ret
                    exact ⟨ret_bool HR.out.symm, HWR.out.2⟩
                  | [b], hc, hall, hf, hll, HE, HX, HWR, HCOND, HNE, HNO, hp0 =>
                    have HR := Lib.hid (HNO.out rfl)
                    clear hall
                    go_wp2_with fail
                    go_ret
                    exact ⟨ret_bool HR.out.symm, HWR.out.2⟩
                  | [b, b2], hc, hall, hf, hll, HE, HX, HWR, HCOND, HNE, HNO, hp0 =>
                    have HR := Lib.hid (HNO.out rfl)
                    clear hall
                    go_wp2_with fail
                    go_ret
                    exact ⟨ret_bool HR.out.symm, HWR.out.2⟩
                  | b :: cc :: d :: t2, hc, hall, hf, hll, HE, HX, HWR, HCOND, HNE, HNO, hp0 =>
                    simp only [List.length_cons] at hc hf hll hp0 ⊢
                    have hn4 : ¬ (t2.length : Int) + 1 + 1 + 1 + 1 < 4 := by omega
                    have hc3 : ¬ c = 3 := by omega
                    have hc3I : (3 : Int) ≤ (c : Int) := by omega
                    have d5 : wr.cell? ⟨g, o + 5, none⟩ = some (.int .i64 (b.k : Int)) := hall 1 b 0 rfl (by decide)
                    have d6 : wr.cell? ⟨g, o + 6, none⟩ = some (.string b.t) := hall 1 b 1 rfl (by decide)
                    have d10 : wr.cell? ⟨g, o + 10, none⟩ = some (.int .i64 (cc.k : Int)) := hall 2 cc 0 rfl (by decide)
                    have HALL := Lib.hid hall
                    have HLD : Hid (lead (a :: b :: cc :: d :: t2) = if a.k = 0 ∧ b.k = 6 ∧ small b.t = anS ∧ cc.k = 0 then some (d :: t2) else none) := by unfold Hid; rw [lead]
                    have hbq := beq_list (small b.t) anS
                    rw [show anS.toList = [97, 110, 100] by rw [ByteArray.toList_eq]; rfl] at hbq
                    have HSM := Lib.hid (c_small b.t wr (by have := (HX.out b (by simp)).2; omega))
                    clear hall
                    by_cases hak : a.k = 0
                    · have akI : (a.k : Int) = 0 := by omega
                      have akn : ((0 : Int) != 0) = false := rfl
                      by_cases hbk : b.k = 6
                      · have bkI : (b.k : Int) = 6 := by omega
                        have bkn : ((6 : Int) != 6) = false := rfl
                        by_cases hsm : small b.t = anS
                        · rw [decide_eq_true hsm] at hbq
                          have hbn : ((small b.t).toList != [97, 110, 100]) = false := by rw [bne, hbq]; rfl
                          have HSM2 := Lib.hid HSM.out
                          by_cases hck : cc.k = 0
                          · have ckI : (cc.k : Int) = 0 := by omega
                            have HG : Hid (EN = match cdP (d :: t2) wd hg with
                              | none => false
                              | some (r, ok) => enW f r false (ho && ok) wd hg) := by
                              unfold Hid; rw [HE.out]; exact enW_go (by simp) (by rw [if_neg (by simp), HLD.out, if_pos ⟨hak, hbk, hsm, hck⟩])
                            have HRTL : Hid (∀ x, Below wr.heap.size wr x → RT x lim (.slice (some ⟨g, o + 15, none⟩) (t2.length + 1) (c - 3)) (d :: t2)) := fun x hx =>
                              (RT.sub (a := 3) (fun _ => rfl) hgl rfl (by simp only [List.length_cons]; omega) HALL.out (fun i y hy => by rw [Nat.add_comm 3 i]; exact hy)).below hx hlimw
                            have HMEM : Hid (∀ y ∈ d :: t2, y ∈ a :: b :: cc :: d :: t2) := fun y hy => List.mem_cons_of_mem _ (List.mem_cons_of_mem _ (List.mem_cons_of_mem _ hy))
                            generalize small b.t = sb at *
                            clear hak hbk hsm hck HLD HNO HNE HE
                            go_upto_region 15 with (go_at_call 18; refine (HSM.out).mono ?_; rintro e w3 ⟨rfl, hb3⟩; have HB3 := Lib.hid hb3; have c10 := (hb3.cell (p := ⟨g, o + 10, none⟩) (by show g < _; omega)).trans d10; clear hb3)
                            have HBB3 : Hid (Below w.heap.size w w3) := HWR.out.2.trans (HB3.out.mono hwz)
                            go_upto_region 18 with (go_at_call 19; refine (HCOND.out (d :: t2) _ _ HMEM.out (by simp; omega) (HRTL.out _ HB3.out) HBB3.out).mono ?_; rintro e w5 ⟨v5, ok, good, rfl, hcs, hb5⟩; have HCS := Lib.hid hcs; have HB5 : Hid (Below w.heap.size w w5) := HBB3.out.trans (hb5.mono HBB3.out.size); clear hcs hb5)
                            rcases HCS.out with ⟨hn, hgd⟩ | ⟨r5, hs5, hgd, hr5⟩
                            · subst hgd
                              have HR : Hid (EN = false) := by unfold Hid; rw [HG.out, hn]
                              go_wp2_with fail
                              go_ret
                              exact ⟨ret_bool HR.out.symm, HB5.out⟩
                            · subst hgd
                              have HR : Hid (EN = enW f r5 false (ho && ok) wd hg) := by unfold Hid; rw [HG.out, hs5]
                              have hrr := cdP_rest hs5
                              have HRR := Lib.hid hrr.2
                              have hrl := hrr.1
                              rw [List.length_cons] at hrl
                              have HR5 := Lib.hid hr5
                              have HS5 := Lib.hid (show slN v5 = r5.length by obtain ⟨_, A, c, e, _⟩ := hr5; rw [e]; rfl)
                              clear hr5 hrr hs5 HCS
                              cases ho with
                              | true =>
                                go_wp2_with fail
                                go_roundw
                                case rel => exact ⟨r5, ok, false, f, rfl, rfl, by omega, by omega, by rw [HR.out]; rfl, fun y hy => HX.out y (HMEM.out y (HRR.out y hy)), HR5.out, HB5.out⟩
                                case measure => have h2 := HS5.out; show slN v5 * 2 + 0 < (t2.length + 1 + 1 + 1 + 1) * 2 + 0; rw [h2]; omega
                              | false =>
                                go_wp2_with fail
                                go_roundw
                                case rel => exact ⟨r5, false, false, f, rfl, rfl, by omega, by omega, by rw [HR.out]; rfl, fun y hy => HX.out y (HMEM.out y (HRR.out y hy)), HR5.out, HB5.out⟩
                                case measure => have h2 := HS5.out; show slN v5 * 2 + 0 < (t2.length + 1 + 1 + 1 + 1) * 2 + 0; rw [h2]; omega
                          · have ckI : ¬ (cc.k : Int) = 0 := by omega
                            have ckb : ((cc.k : Int) == 0) = false := beq_eq_false_iff_ne.2 ckI
                            have ckc : ((cc.k : Int) != 0) = true := by rw [bne, ckb]; rfl
                            have HR := Lib.hid (HNO.out (by rw [HLD.out, if_neg (fun e => hck e.2.2.2)]))
                            generalize small b.t = sb at *
                            clear hak hbk hsm hck HLD HNO HNE HE
                            go_wp2_with (go_at_call 18; refine (HSM.out).mono ?_; rintro e w3 ⟨rfl, hb3⟩; have HB3 := Lib.hid hb3; have c10 := (hb3.cell (p := ⟨g, o + 10, none⟩) (by show g < _; omega)).trans d10; clear hb3)
                            go_ret
                            exact ⟨ret_bool HR.out.symm, HWR.out.2.trans (HB3.out.mono hwz)⟩
                        · rw [decide_eq_false hsm] at hbq
                          have hbn : ((small b.t).toList != [97, 110, 100]) = true := by rw [bne, hbq]; rfl
                          have HR := Lib.hid (HNO.out (by rw [HLD.out, if_neg (fun e => hsm e.2.2.1)]))
                          generalize small b.t = sb at *
                          clear hak hbk hsm HLD HNO HNE HE
                          go_wp2_with (go_at_call 18; refine (HSM.out).mono ?_; rintro e w3 ⟨rfl, hb3⟩; have HB3 := Lib.hid hb3; clear hb3)
                          go_ret
                          exact ⟨ret_bool HR.out.symm, HWR.out.2.trans (HB3.out.mono hwz)⟩
                      · have bkI : ¬ (b.k : Int) = 6 := by omega
                        have bkb : ((b.k : Int) == 6) = false := beq_eq_false_iff_ne.2 bkI
                        have bkc : ((b.k : Int) != 6) = true := by rw [bne, bkb]; rfl
                        have HR := Lib.hid (HNO.out (by rw [HLD.out, if_neg (fun e => hbk e.2.1)]))
                        clear hak hbk HLD HNO HNE HE hbq
                        go_wp2_with fail
                        go_ret
                        exact ⟨ret_bool HR.out.symm, HWR.out.2⟩
                    · have akI : ¬ (a.k : Int) = 0 := by omega
                      have akb : ((a.k : Int) == 0) = false := beq_eq_false_iff_ne.2 akI
                      have akc : ((a.k : Int) != 0) = true := by rw [bne, akb]; rfl
                      have HR := Lib.hid (HNO.out (by rw [HLD.out, if_neg (fun e => hak e.1)]))
                      clear hak HLD HNO HNE HE hbq
                      go_wp2_with fail
                      go_ret
                      exact ⟨ret_bool HR.out.symm, HWR.out.2⟩
          · rw [decide_eq_false h2] at b2
            have HR : Hid (EN = false) := by unfold Hid; rw [HEN.out, if_neg h0, if_neg (fun e => e.elim h1 h2)]
            clear h0 h1 h2 HEN
            go_enter Tryd.func9, Tryd.ntmps9
            go_wp2_with (go_at_call 18; refine (HSM.out).mono ?_; rintro e w3 ⟨rfl, hb3⟩; have HB3 := Lib.hid hb3; clear hb3)
            go_ret
            exact ⟨ret_bool HR.out.symm, HB3.out⟩
    · have haI : ¬ (a.k : Int) = 6 := by omega
      have hab : ((a.k : Int) == 6) = false := beq_eq_false_iff_ne.2 haI
      have HR : Hid (EN = enW (r.length + 2) (a :: r) true true wd hg) := by unfold Hid; rw [hEN]; unfold enP; simp only; rw [if_neg ha]
      clear ha hEN
      go_enter Tryd.func9, Tryd.ntmps9
      go_wp2_with fail
      clear d0 d1 d2 d3 d4
      go_loopw [0, 7, 8] (fun u0 u7 u8 wr => ∃ (l' : List Tk) (ho fi : Bool) (f : Nat), u7 = .bool ho ∧ u8 = .bool fi ∧ l'.length < f ∧ l'.length ≤ 1000000000 ∧ Hid (EN = enW f l' fi ho wd hg) ∧ Hid (∀ x ∈ l', DimOk x ∧ x.t.size ≤ 1000000000) ∧ Hid (RT wr lim u0 l' ∧ Below w.heap.size w wr)) (fun u0 _ u8 _ => slN u0 * 2 + (match u8 with | .bool true => 1 | _ => 0))
      case atStart => exact ⟨a :: r, true, true, r.length + 2, rfl, rfl, by simp, by simp; omega, HR.out, HDIM.out, HRT.out, Below.refl _ _⟩
      case round =>
        obtain ⟨l', ho, fi, f, rfl, rfl, hf, hll, HE, HX, HWR⟩ := hrel
        have hwz := HWR.out.2.size
        cases f with
        | zero => omega
        | succ f =>
        have HCOND : Hid (∀ (lx : List Tk) (vx : Value) (x : World), (∀ y ∈ lx, y ∈ l') → lx.length ≤ 1000000000 → RT x lim vx lx → Below w.heap.size w x → Calls Tryd.prog 19 #[vx, .int .i64 wd, .int .i64 hg] x (CdRet lx wd hg lim x)) := fun lx vx x h1 h2 h3 h4 =>
          c_cond lx vx lim wd hg x h3 (Nat.le_trans HLIM.out h4.size) h2 (HM.out.below h4 hz) (fun y hy => HX.out y (h1 y hy))
        cases fi with
        | true =>
          have HG : Hid (EN = match cdP l' wd hg with
            | none => false
            | some (r, ok) => enW f r false (ho && ok) wd hg) := by
            unfold Hid; rw [HE.out]; exact enW_go (by simp) (if_pos rfl)
          obtain ⟨A, c, hu⟩ : ∃ A c, u0 = .slice A l'.length c := by
            obtain ⟨_, A, c, e, _⟩ := HWR.out.1
            exact ⟨A, c, e⟩
          subst hu
          go_upto_region 18 with (go_at_call 19; refine (HCOND.out l' _ _ (fun y hy => hy) hll HWR.out.1 HWR.out.2).mono ?_; rintro e w5 ⟨v5, ok, good, rfl, hcs, hb5⟩; have HCS := Lib.hid hcs; have HB5 : Hid (Below w.heap.size w w5) := HWR.out.2.trans (hb5.mono hwz); clear hcs hb5)
          rcases HCS.out with ⟨hn, hgd⟩ | ⟨r5, hs5, hgd, hr5⟩
          · subst hgd
            have HR : Hid (EN = false) := by unfold Hid; rw [HG.out, hn]
            go_wp2_with fail
            go_ret
            exact ⟨ret_bool HR.out.symm, HB5.out⟩
          · subst hgd
            have HR : Hid (EN = enW f r5 false (ho && ok) wd hg) := by unfold Hid; rw [HG.out, hs5]
            have hrr := cdP_rest hs5
            have HRR := Lib.hid hrr.2
            have hrl := hrr.1
            have HR5 := Lib.hid hr5
            have HS5 := Lib.hid (show slN v5 = r5.length by obtain ⟨_, A, c, e, _⟩ := hr5; rw [e]; rfl)
            clear hr5 hrr hs5 HCS
            cases ho with
            | true =>
              go_wp2_with fail
              go_roundw
              case rel => exact ⟨r5, ok, false, f, rfl, rfl, by omega, by omega, by rw [HR.out]; rfl, fun y hy => HX.out y (HRR.out y hy), HR5.out, HB5.out⟩
              case measure => have h2 := HS5.out; show slN v5 * 2 + 0 < l'.length * 2 + 1; rw [h2]; omega
            | false =>
              go_wp2_with fail
              go_roundw
              case rel => exact ⟨r5, false, false, f, rfl, rfl, by omega, by omega, by rw [HR.out]; rfl, fun y hy => HX.out y (HRR.out y hy), HR5.out, HB5.out⟩
              case measure => have h2 := HS5.out; show slN v5 * 2 + 0 < l'.length * 2 + 1; rw [h2]; omega
        | false =>
          by_cases hnil : l' = []
          · subst hnil
            obtain ⟨A, c, rfl⟩ := HWR.out.1.nil
            have HR : Hid (EN = ho) := by unfold Hid; rw [HE.out, enW_end]
            go_wp2_with fail
            go_ret
            exact ⟨ret_bool HR.out.symm, HWR.out.2⟩
          · have HNE := Lib.hid hnil
            have HNO : Hid (lead l' = none → EN = false) := fun e => by rw [HE.out]; exact enW_no HNE.out e
            obtain ⟨a, t1, rfl⟩ := List.exists_cons_of_ne_nil hnil
            obtain ⟨g, o, c, rfl, hc, hgl, hall⟩ := HWR.out.1.cons
            have hlimw : lim ≤ wr.heap.size := Nat.le_trans HLIM.out hwz
            have d0 : wr.cell? ⟨g, o, none⟩ = some (.int .i64 (a.k : Int)) := hall 0 a 0 rfl (by decide)
            have hp0 : (0 : Int) < (t1.length : Int) + 1 := by omega
            clear hnil
            match t1, hc, hall, hf, hll, HE, HX, HWR, HCOND, HNE, HNO, hp0 with
            | [], hc, hall, hf, hll, HE, HX, HWR, HCOND, HNE, HNO, hp0 =>
              have HR := Lib.hid (HNO.out rfl)
              clear hall
              go_wp2_with fail
              go_ret
              exact ⟨ret_bool HR.out.symm, HWR.out.2⟩
            | [b], hc, hall, hf, hll, HE, HX, HWR, HCOND, HNE, HNO, hp0 =>
              have HR := Lib.hid (HNO.out rfl)
              clear hall
              go_wp2_with fail
              go_ret
              exact ⟨ret_bool HR.out.symm, HWR.out.2⟩
            | [b, b2], hc, hall, hf, hll, HE, HX, HWR, HCOND, HNE, HNO, hp0 =>
              have HR := Lib.hid (HNO.out rfl)
              clear hall
              go_wp2_with fail
              go_ret
              exact ⟨ret_bool HR.out.symm, HWR.out.2⟩
            | b :: cc :: d :: t2, hc, hall, hf, hll, HE, HX, HWR, HCOND, HNE, HNO, hp0 =>
              simp only [List.length_cons] at hc hf hll hp0 ⊢
              have hn4 : ¬ (t2.length : Int) + 1 + 1 + 1 + 1 < 4 := by omega
              have hc3 : ¬ c = 3 := by omega
              have hc3I : (3 : Int) ≤ (c : Int) := by omega
              have d5 : wr.cell? ⟨g, o + 5, none⟩ = some (.int .i64 (b.k : Int)) := hall 1 b 0 rfl (by decide)
              have d6 : wr.cell? ⟨g, o + 6, none⟩ = some (.string b.t) := hall 1 b 1 rfl (by decide)
              have d10 : wr.cell? ⟨g, o + 10, none⟩ = some (.int .i64 (cc.k : Int)) := hall 2 cc 0 rfl (by decide)
              have HALL := Lib.hid hall
              have HLD : Hid (lead (a :: b :: cc :: d :: t2) = if a.k = 0 ∧ b.k = 6 ∧ small b.t = anS ∧ cc.k = 0 then some (d :: t2) else none) := by unfold Hid; rw [lead]
              have hbq := beq_list (small b.t) anS
              rw [show anS.toList = [97, 110, 100] by rw [ByteArray.toList_eq]; rfl] at hbq
              have HSM := Lib.hid (c_small b.t wr (by have := (HX.out b (by simp)).2; omega))
              clear hall
              by_cases hak : a.k = 0
              · have akI : (a.k : Int) = 0 := by omega
                have akn : ((0 : Int) != 0) = false := rfl
                by_cases hbk : b.k = 6
                · have bkI : (b.k : Int) = 6 := by omega
                  have bkn : ((6 : Int) != 6) = false := rfl
                  by_cases hsm : small b.t = anS
                  · rw [decide_eq_true hsm] at hbq
                    have hbn : ((small b.t).toList != [97, 110, 100]) = false := by rw [bne, hbq]; rfl
                    have HSM2 := Lib.hid HSM.out
                    by_cases hck : cc.k = 0
                    · have ckI : (cc.k : Int) = 0 := by omega
                      have HG : Hid (EN = match cdP (d :: t2) wd hg with
                        | none => false
                        | some (r, ok) => enW f r false (ho && ok) wd hg) := by
                        unfold Hid; rw [HE.out]; exact enW_go (by simp) (by rw [if_neg (by simp), HLD.out, if_pos ⟨hak, hbk, hsm, hck⟩])
                      have HRTL : Hid (∀ x, Below wr.heap.size wr x → RT x lim (.slice (some ⟨g, o + 15, none⟩) (t2.length + 1) (c - 3)) (d :: t2)) := fun x hx =>
                        (RT.sub (a := 3) (fun _ => rfl) hgl rfl (by simp only [List.length_cons]; omega) HALL.out (fun i y hy => by rw [Nat.add_comm 3 i]; exact hy)).below hx hlimw
                      have HMEM : Hid (∀ y ∈ d :: t2, y ∈ a :: b :: cc :: d :: t2) := fun y hy => List.mem_cons_of_mem _ (List.mem_cons_of_mem _ (List.mem_cons_of_mem _ hy))
                      generalize small b.t = sb at *
                      clear hak hbk hsm hck HLD HNO HNE HE
                      go_upto_region 15 with (go_at_call 18; refine (HSM.out).mono ?_; rintro e w3 ⟨rfl, hb3⟩; have HB3 := Lib.hid hb3; have c10 := (hb3.cell (p := ⟨g, o + 10, none⟩) (by show g < _; omega)).trans d10; clear hb3)
                      have HBB3 : Hid (Below w.heap.size w w3) := HWR.out.2.trans (HB3.out.mono hwz)
                      go_upto_region 18 with (go_at_call 19; refine (HCOND.out (d :: t2) _ _ HMEM.out (by simp; omega) (HRTL.out _ HB3.out) HBB3.out).mono ?_; rintro e w5 ⟨v5, ok, good, rfl, hcs, hb5⟩; have HCS := Lib.hid hcs; have HB5 : Hid (Below w.heap.size w w5) := HBB3.out.trans (hb5.mono HBB3.out.size); clear hcs hb5)
                      rcases HCS.out with ⟨hn, hgd⟩ | ⟨r5, hs5, hgd, hr5⟩
                      · subst hgd
                        have HR : Hid (EN = false) := by unfold Hid; rw [HG.out, hn]
                        go_wp2_with fail
                        go_ret
                        exact ⟨ret_bool HR.out.symm, HB5.out⟩
                      · subst hgd
                        have HR : Hid (EN = enW f r5 false (ho && ok) wd hg) := by unfold Hid; rw [HG.out, hs5]
                        have hrr := cdP_rest hs5
                        have HRR := Lib.hid hrr.2
                        have hrl := hrr.1
                        rw [List.length_cons] at hrl
                        have HR5 := Lib.hid hr5
                        have HS5 := Lib.hid (show slN v5 = r5.length by obtain ⟨_, A, c, e, _⟩ := hr5; rw [e]; rfl)
                        clear hr5 hrr hs5 HCS
                        cases ho with
                        | true =>
                          go_wp2_with fail
                          go_roundw
                          case rel => exact ⟨r5, ok, false, f, rfl, rfl, by omega, by omega, by rw [HR.out]; rfl, fun y hy => HX.out y (HMEM.out y (HRR.out y hy)), HR5.out, HB5.out⟩
                          case measure => have h2 := HS5.out; show slN v5 * 2 + 0 < (t2.length + 1 + 1 + 1 + 1) * 2 + 0; rw [h2]; omega
                        | false =>
                          go_wp2_with fail
                          go_roundw
                          case rel => exact ⟨r5, false, false, f, rfl, rfl, by omega, by omega, by rw [HR.out]; rfl, fun y hy => HX.out y (HMEM.out y (HRR.out y hy)), HR5.out, HB5.out⟩
                          case measure => have h2 := HS5.out; show slN v5 * 2 + 0 < (t2.length + 1 + 1 + 1 + 1) * 2 + 0; rw [h2]; omega
                    · have ckI : ¬ (cc.k : Int) = 0 := by omega
                      have ckb : ((cc.k : Int) == 0) = false := beq_eq_false_iff_ne.2 ckI
                      have ckc : ((cc.k : Int) != 0) = true := by rw [bne, ckb]; rfl
                      have HR := Lib.hid (HNO.out (by rw [HLD.out, if_neg (fun e => hck e.2.2.2)]))
                      generalize small b.t = sb at *
                      clear hak hbk hsm hck HLD HNO HNE HE
                      go_wp2_with (go_at_call 18; refine (HSM.out).mono ?_; rintro e w3 ⟨rfl, hb3⟩; have HB3 := Lib.hid hb3; have c10 := (hb3.cell (p := ⟨g, o + 10, none⟩) (by show g < _; omega)).trans d10; clear hb3)
                      go_ret
                      exact ⟨ret_bool HR.out.symm, HWR.out.2.trans (HB3.out.mono hwz)⟩
                  · rw [decide_eq_false hsm] at hbq
                    have hbn : ((small b.t).toList != [97, 110, 100]) = true := by rw [bne, hbq]; rfl
                    have HR := Lib.hid (HNO.out (by rw [HLD.out, if_neg (fun e => hsm e.2.2.1)]))
                    generalize small b.t = sb at *
                    clear hak hbk hsm HLD HNO HNE HE
                    go_wp2_with (go_at_call 18; refine (HSM.out).mono ?_; rintro e w3 ⟨rfl, hb3⟩; have HB3 := Lib.hid hb3; clear hb3)
                    go_ret
                    exact ⟨ret_bool HR.out.symm, HWR.out.2.trans (HB3.out.mono hwz)⟩
                · have bkI : ¬ (b.k : Int) = 6 := by omega
                  have bkb : ((b.k : Int) == 6) = false := beq_eq_false_iff_ne.2 bkI
                  have bkc : ((b.k : Int) != 6) = true := by rw [bne, bkb]; rfl
                  have HR := Lib.hid (HNO.out (by rw [HLD.out, if_neg (fun e => hbk e.2.1)]))
                  clear hak hbk HLD HNO HNE HE hbq
                  go_wp2_with fail
                  go_ret
                  exact ⟨ret_bool HR.out.symm, HWR.out.2⟩
              · have akI : ¬ (a.k : Int) = 0 := by omega
                have akb : ((a.k : Int) == 0) = false := beq_eq_false_iff_ne.2 akI
                have akc : ((a.k : Int) != 0) = true := by rw [bne, akb]; rfl
                have HR := Lib.hid (HNO.out (by rw [HLD.out, if_neg (fun e => hak e.1)]))
                clear hak HLD HNO HNE HE hbq
                go_wp2_with fail
                go_ret
                exact ⟨ret_bool HR.out.symm, HWR.out.2⟩
end Go.Proofs.YtmhejppfjngbhaaDoor
