/- sheets: a condition of a page: the program's -/
import Derived.Test.YtmhejppfjngbhaaDoorYx
namespace Go.Proofs.YtmhejppfjngbhaaDoor
set_option linter.unusedVariables false
set_option linter.unusedSimpArgs false
open Go.RowKit Go.Cas

def mnW : ByteArray := ⟨#[109, 105, 110, 45, 119, 105, 100, 116, 104]⟩
def mxW : ByteArray := ⟨#[109, 97, 120, 45, 119, 105, 100, 116, 104]⟩
def mnH : ByteArray := ⟨#[109, 105, 110, 45, 104, 101, 105, 103, 104, 116]⟩
def mxH : ByteArray := ⟨#[109, 97, 120, 45, 104, 101, 105, 103, 104, 116]⟩
def cdV (what : ByteArray) (n wd hg : Int) : Option Bool :=
  if what = mnW then some (decide (n ≤ wd)) else if what = mxW then some (decide (wd ≤ n)) else if what = mnH then some (decide (n ≤ hg)) else if what = mxH then some (decide (hg ≤ n)) else none
/-- thousandths of a text that is a number's -/
def thD (s : List UInt8) : Int × Bool := thouV (decide (s.head? = some 45)) ((Lib.trimLeftS s [43, 45]).takeWhile (· != 46)) (((Lib.trimLeftS s [43, 45]).dropWhile (· != 46)).drop 1)
theorem thD_num {s sg W P : List UInt8} {dot : Bool} (h : Num s sg W P dot) : thD s = thouV (decide (sg = [45])) W P := by
  have hW : ∀ c ∈ W, (c != 46) = true := fun c hc => by have := (dg_ne (h.w c hc)).2.2; simpa using this
  have hP : ∀ c ∈ P, (c != 46) = true := fun c hc => by have := (dg_ne (h.p c hc)).2.2; simpa using this
  have h1 : decide (s.head? = some 45) = decide (sg = [45]) := by
    have hh := h.head
    rw [h.eq]
    generalize W ++ (if dot = true then 46 :: P else []) = R at hh
    rcases h.sg_ with rfl | rfl | rfl
    · cases R with
      | nil => rfl
      | cons a R => have := hh a rfl; simp [this.2]
    · rfl
    · rfl
  unfold thD
  rw [h1, h.trim]
  have e1 : (W ++ (if dot = true then 46 :: P else [])).takeWhile (· != 46) = W := by
    rw [List.takeWhile_append_of_pos hW]
    cases dot with
    | true => rw [if_pos rfl, List.takeWhile_cons_of_neg (by decide)]; simp
    | false => rw [if_neg (by simp)]; simp
  have e2 : ((W ++ (if dot = true then 46 :: P else [])).dropWhile (· != 46)).drop 1 = P := by
    rw [List.dropWhile_append_of_pos hW]
    cases dot with
    | true => rw [if_pos rfl, List.dropWhile_cons_of_neg (by decide)]; rfl
    | false => rw [if_neg (by simp), h.no rfl]; rfl
  rw [e1, e2]
def pxS : ByteArray := ⟨#[112, 120]⟩
def numT (d : Tk) : List UInt8 := d.t.data.toList.take (d.t.size - 2)
def cdD (what : ByteArray) (d : Tk) (wd hg : Int) : Option Bool :=
  if d.k = 5 ∧ d.u = pxS then (if (thD (numT d)).2 = true then cdV what ((thD (numT d)).1 * 64 / 1000) wd hg else none) else none
def cdI (inn : List Tk) (wd hg : Int) : Option Bool :=
  match inn with
  | [] => none
  | a :: r => if a.k = 6 then (match trimT r with
    | [] => none
    | b :: r2 => if isS b ⟨#[58]⟩ = true then (match trimT r2 with
      | [d] => cdD (small a.t) d wd hg
      | _ => none) else none) else none
def cdP (l : List Tk) (wd hg : Int) : Option (List Tk × Bool) :=
  match l with
  | [] => none
  | t :: r => if isS t ⟨#[40]⟩ = true then (if clo [] (t :: r) 0 = r.length + 1 then none else (cdI (trimT (((t :: r).take (clo [] (t :: r) 0)).drop 1)) wd hg).map fun b => ((t :: r).drop (clo [] (t :: r) 0 + 1), b)) else none
theorem clo_b : ∀ (l : List Tk) (st : List Nat) (i : Nat), i ≤ clo st l i ∧ clo st l i ≤ i + l.length := by
  intro l
  induction l with
  | nil => intro st i; rw [clo_nil]; simp
  | cons t l ih =>
    intro st i
    by_cases hz : clz t = 0
    · cases st with
      | nil => rw [clo_no hz]; simp
      | cons o r =>
        cases hs : sgn t o with
        | false => rw [clo_in hz hs]; have := ih (o :: r) (i + 1); simp; omega
        | true =>
          rw [clo_out hz hs]
          split
          · simp
          · have := ih r (i + 1); simp; omega
    · rw [clo_op hz]; have := ih (clz t :: st) (i + 1); simp; omega
theorem clo_op0 {t : Tk} {r : List Tk} (h : isS t ⟨#[40]⟩ = true) : 1 ≤ clo [] (t :: r) 0 ∧ clo [] (t :: r) 0 ≤ r.length + 1 := by
  have hz : clz t ≠ 0 := by
    rw [clz_is, if_pos h]
    split <;> decide
  rw [clo_op hz]
  have := clo_b r [clz t] 1
  show 1 ≤ clo [clz t] r 1 ∧ clo [clz t] r 1 ≤ _
  omega
theorem RT.below {w w' : World} {lim B : Nat} {v : Value} {l : List Tk} (h : RT w lim v l) (hb : Below B w w') (hB : lim ≤ B) : RT w' lim v l := RdS.below' h hb hB
theorem RT.head {w : World} {lim : Nat} {v : Value} {t : Tk} {l : List Tk} (h : RT w lim v (t :: l)) : ∃ g o c, v = .slice (some ⟨g, o, none⟩) (l.length + 1) c ∧ l.length + 1 ≤ c ∧ g < lim ∧ (∀ w', Below lim w w' → w'.cell? ⟨g, o, none⟩ = some (.int .i64 (t.k : Int)) ∧ w'.cell? ⟨g, o + 1, none⟩ = some (.string t.t) ∧ w'.cell? ⟨g, o + 2, none⟩ = some (.string t.u) ∧ w'.cell? ⟨g, o + 3, none⟩ = some (.int .i64 (t.a : Int)) ∧ w'.cell? ⟨g, o + 4, none⟩ = some (.int .i64 (t.b : Int))) ∧ (∀ i x j, (t :: l)[i]? = some x → j < 5 → w.cell? ⟨g, o + (i * 5 + j), none⟩ = (tkc x)[j]?) := by
  obtain ⟨g, o, c, he, hc, hg, hcell⟩ := h.cons
  refine ⟨g, o, c, he, hc, hg, fun w' hb => ?_, hcell⟩
  have k := fun j hj => (hb.cell (p := ⟨g, o + (0 * 5 + j), none⟩) hg).trans (hcell 0 t j rfl hj)
  have k0 := k 0 (by decide)
  have k1 := k 1 (by decide)
  have k2 := k 2 (by decide)
  have k3 := k 3 (by decide)
  have k4 := k 4 (by decide)
  simp only [Nat.zero_mul, Nat.zero_add, Nat.add_zero] at k0 k1 k2 k3 k4
  exact ⟨k0, k1, k2, k3, k4⟩
/-- the tokens behind the first -/
theorem RT.tail {w : World} {lim g o c m : Nat} {t : Tk} {l : List Tk} (hm : m = l.length) (hc : l.length + 1 ≤ c) (hg : g < lim) (h : ∀ i x j, (t :: l)[i]? = some x → j < 5 → w.cell? ⟨g, o + (i * 5 + j), none⟩ = (tkc x)[j]?) : RT w lim (.slice (if c = 1 then some ⟨g, o, none⟩ else some ⟨g, o + 5, none⟩) m (c - 1)) l :=
  RT.sub (a := 1) (fun h0 => by rw [if_neg (by omega)]) hg hm (by omega) h (fun i x hi => by rw [Nat.add_comm 1 i]; exact hi)
theorem trimT_len (l : List Tk) : (trimT l).length ≤ l.length := by
  unfold trimT rtr
  rw [List.length_reverse]
  have h1 := (List.dropWhile_suffix (p := bl0) (l := (l.dropWhile bl0).reverse)).length_le
  have h2 := (List.dropWhile_suffix (p := bl0) (l := l)).length_le
  rw [List.length_reverse] at h1
  omega
theorem trimT_mem {l : List Tk} {x : Tk} (h : x ∈ trimT l) : x ∈ l := by
  unfold trimT rtr at h
  rw [List.mem_reverse] at h
  have h1 := (List.dropWhile_suffix (p := bl0) (l := (l.dropWhile bl0).reverse)).subset h
  rw [List.mem_reverse] at h1
  exact (List.dropWhile_suffix (p := bl0) (l := l)).subset h1
theorem thouV_b (ng : Bool) (W P : List UInt8) : -1000000000 ≤ (thouV ng W P).1 ∧ (thouV ng W P).1 ≤ 1000000000 := by
  unfold thouV
  split
  · exact ⟨by decide, by decide⟩
  · rename_i h
    have : ¬ 1000000000 < dvl (W ++ P) * 10 ^ (3 - P.length) := fun e => h (.inr e)
    generalize dvl (W ++ P) * 10 ^ (3 - P.length) = N at *
    cases ng <;> simp <;> omega
theorem thD_b (s : List UInt8) : -1000000000 ≤ (thD s).1 ∧ (thD s).1 ≤ 1000000000 := thouV_b _ _ _
def CdRet (l : List Tk) (wd hg : Int) (lim : Nat) (w : World) (e : Ending) (w' : World) : Prop :=
  ∃ v' ok good, e = .returned (.tuple #[v', .bool ok, .bool good]) ∧ ((cdP l wd hg = none ∧ good = false) ∨ (∃ r, cdP l wd hg = some (r, ok) ∧ good = true ∧ RT w' lim v' r)) ∧ Below w.heap.size w w'
set_option maxHeartbeats 16000000 in
set_option maxRecDepth 100000 in
theorem c_cond (l : List Tk) (v : Value) (lim : Nat) (wd hg : Int) (w : World) (h : RT w lim v l) (hlim : lim ≤ w.heap.size) (hl : l.length ≤ 1000000000) (hm : MxC w) (hdim : ∀ x ∈ l, DimOk x ∧ x.t.size ≤ 1000000000) : Calls Tryd.prog 19 #[v, .int .i64 wd, .int .i64 hg] w (CdRet l wd hg lim w) := by
  have HDIM := Lib.hid hdim
  have HM := Lib.hid hm
  have hz := hm.lt
  have HLIM := Lib.hid hlim
  clear hdim hm
  cases l with
  | nil =>
    obtain ⟨A, c, rfl⟩ := h.nil
    clear h
    go_enter Tryd.func19, Tryd.ntmps19
    go_wp2_with fail
    go_ret3
    exact ⟨_, _, _, rfl, .inl ⟨rfl, rfl⟩, Below.refl _ _⟩
  | cons t r =>
    obtain ⟨g, o, c, rfl, hc, hgl, hcell, hall⟩ := h.head
    have HRT := Lib.hid h
    have HALL := Lib.hid hall
    obtain ⟨d0, d1, d2, d3, d4⟩ := hcell w (Below.refl _ _)
    have hl2 : r.length + 1 ≤ 1000000000 := hl
    have HI := Lib.hid (c_Is t ⟨#[40]⟩ w)
    have hrn : ¬ (r.length : Int) + 1 = 0 := by omega
    have hrb : ((r.length : Int) + 1 == 0) = false := beq_eq_false_iff_ne.2 hrn
    clear h hcell hall
    by_cases ht : isS t ⟨#[40]⟩ = true
    · rw [ht] at HI
      have HCD : Hid (cdP (t :: r) wd hg = (if clo [] (t :: r) 0 = r.length + 1 then none else (cdI (trimT (((t :: r).take (clo [] (t :: r) 0)).drop 1)) wd hg).map fun b => ((t :: r).drop (clo [] (t :: r) 0 + 1), b))) := by
        unfold Hid cdP; simp only; rw [if_pos ht]
      have hcb := clo_op0 (r := r) ht
      have HCL := Lib.hid (fun x hx hlx => c_Close (t :: r) (.slice (some ⟨g, o, none⟩) (r.length + 1) c) lim x hx hlx hl (by simp))
      generalize clo [] (t :: r) 0 = cl at *
      obtain ⟨hcb1, hcb2⟩ := hcb
      clear ht
      go_enter Tryd.func19, Tryd.ntmps19
      go_upto_region 3 with (go_at_call 8; refine (HI.out).mono ?_; rintro e w1 ⟨rfl, hb1⟩; have HB1 := Lib.hid hb1; clear hb1)
      go_upto_region 4 with (go_at_call 34; refine (HCL.out _ (HRT.out.below HB1.out HLIM.out) (Nat.le_trans HLIM.out HB1.out.size)).mono ?_; rintro e w2 ⟨rfl, hb2⟩; have HB2 := Lib.hid (HB1.out.trans (hb2.mono HB1.out.size)); clear hb2)
      clear d0 d1 d2 d3 d4
      by_cases he : cl = r.length + 1
      · have heI : (cl : Int) = (r.length : Int) + 1 := by omega
        have HN : Hid (cdP (t :: r) wd hg = none) := by unfold Hid; rw [HCD.out, if_pos he]
        go_wp2_with fail
        go_ret3
        exact ⟨_, _, _, rfl, .inl ⟨HN.out, rfl⟩, HB2.out⟩
      · have heI : ¬ (cl : Int) = (r.length : Int) + 1 := by omega
        have heb : ((cl : Int) == (r.length : Int) + 1) = false := beq_eq_false_iff_ne.2 heI
        have HC2 : Hid (cdP (t :: r) wd hg = (cdI (trimT (((t :: r).take cl).drop 1)) wd hg).map fun b => ((t :: r).drop (cl + 1), b)) := by unfold Hid; rw [HCD.out, if_neg he]
        have hclI : (cl : Int) ≤ (c : Int) := by omega
        have hcl1 : (1 : Int) ≤ (cl : Int) := by omega
        have hcl0 : (0 : Int) ≤ (cl : Int) := by omega
        have hlt : cl < r.length + 1 := by omega
        have HRI : Hid (∀ (x : World) (A : Option Addr) (m c' : Nat), RT x lim (.slice (some ⟨g, o, none⟩) (r.length + 1) c) (t :: r) → (0 < m → A = some ⟨g, o + 1 * 5, none⟩) → m = cl - 1 → m ≤ c' → RT x lim (.slice A m c') (((t :: r).take cl).drop 1)) := by
          intro x A m c' hx hA hm hc'
          obtain ⟨g', o', c2, e, _, hgl', hx2⟩ := hx.cons
          injection e with e1 _ e3
          injection e1 with e1
          injection e1 with e1 e2
          subst e1 e2 e3
          refine RT.sub (a := 1) hA hgl' (by rw [hm, List.length_drop, List.length_take, List.length_cons]; omega) hc' hx2 (fun i y hy => ?_)
          rw [List.getElem?_drop, List.getElem?_take] at hy
          split at hy
          · exact hy
          · cases hy
        generalize hINd : trimT (((t :: r).take cl).drop 1) = inn at *
        have hinl : inn.length ≤ 1000000000 := by
          rw [← hINd]
          refine Nat.le_trans (trimT_len _) ?_
          rw [List.length_drop, List.length_take, List.length_cons]; omega
        have HIM : Hid (∀ x ∈ inn, DimOk x ∧ x.t.size ≤ 1000000000) := fun x hx => HDIM.out x (List.mem_of_mem_take (List.mem_of_mem_drop (trimT_mem (by rw [hINd]; exact hx))))
        have HIND := Lib.hid hINd
        clear he hINd
        clear hrn hrb
        go_upto_region 7 with (go_at_call 6; refine (c_Trim _ _ lim _ (HRI.out _ _ _ _ (HRT.out.below HB2.out HLIM.out) (fun h0 => by first | rfl | (rw [if_neg (by omega)])) (by omega) (by omega)) (by rw [List.length_drop, List.length_take, List.length_cons]; omega)).mono ?_; rintro e w3 ⟨v2, rfl, hr2, rfl⟩; rw [HIND.out] at hr2; have HR2 := Lib.hid hr2; clear hr2)
        cases inn with
        | nil =>
          obtain ⟨A2, c2, rfl⟩ := HR2.out.nil
          have HN : Hid (cdP (t :: r) wd hg = none) := by unfold Hid; rw [HC2.out]; rfl
          go_wp2_with fail
          go_ret3
          exact ⟨_, _, _, rfl, .inl ⟨HN.out, rfl⟩, HB2.out⟩
        | cons a r1 =>
          obtain ⟨g1, o1, c1, rfl, hc1, hgl1, hcell1, hall1⟩ := HR2.out.head
          have HALL1 := Lib.hid hall1
          obtain ⟨e0, e1, e2, e3, e4⟩ := hcell1 w2 (Below.refl _ _)
          have hL2 : lim ≤ w2.heap.size := Nat.le_trans HLIM.out HB2.out.size
          have hrn : ¬ (r1.length : Int) + 1 = 0 := by omega
          have hrb : ((r1.length : Int) + 1 == 0) = false := beq_eq_false_iff_ne.2 hrn
          have hr1l : r1.length + 1 ≤ 1000000000 := hinl
          clear hcell1 hall1
          by_cases ha : a.k = 6
          · have haI : (a.k : Int) = 6 := by omega
            have haJ : ((6 : Int) != 6) = false := rfl
            have HC3 : Hid (cdI (a :: r1) wd hg = (match trimT r1 with
              | [] => none
              | b :: r2 => if isS b ⟨#[58]⟩ = true then (match trimT r2 with
                | [d] => cdD (small a.t) d wd hg
                | _ => none) else none)) := by
              unfold Hid
              rw [cdI]
              simp only [if_pos ha]
            have HSM := Lib.hid (c_small a.t w2 (by have := (HIM.out a (by simp)).2; omega))
            obtain ⟨A1, hA1⟩ : ∃ A1, (if c1 = 1 then some (⟨g1, o1, none⟩ : Addr) else some ⟨g1, o1 + 5, none⟩) = A1 := ⟨_, rfl⟩
            have HT1 : Hid (∀ x : World, Below w2.heap.size w2 x → RT x lim (.slice A1 r1.length (c1 - 1)) r1) := fun x hx => by rw [← hA1]; exact (RT.tail rfl hc1 hgl1 HALL1.out).below hx hL2
            have HIM1 : Hid (∀ x ∈ trimT r1, DimOk x ∧ x.t.size ≤ 1000000000) := fun x hx => HIM.out x (List.mem_cons_of_mem _ (trimT_mem hx))
            generalize hsm : small a.t = what at *
            have hc1I : (1 : Int) ≤ (c1 : Int) := by omega
            clear ha hsm
            go_upto_region 10 with (go_at_call 18; refine (HSM.out).mono ?_; rintro e w3 ⟨rfl, hb3⟩; have HB3 := Lib.hid hb3; clear hb3)
            clear e0 e1 e2 e3 e4
            have HBB3 : Hid (Below w.heap.size w w3) := HB2.out.trans (HB3.out.mono HB2.out.size)
            go_upto_region 11 with (go_at_call 6; refine (c_Trim r1 _ lim _ (HT1.out _ HB3.out) (by omega)).mono ?_; rintro e w4 ⟨v3, rfl, hr3, rfl⟩; have HR3 := Lib.hid hr3; clear hr3)
            have hT1l := trimT_len r1
            generalize trimT r1 = tr1 at *
            cases tr1 with
            | nil =>
              obtain ⟨A3, c3, rfl⟩ := HR3.out.nil
              have HN : Hid (cdP (t :: r) wd hg = none) := by unfold Hid; rw [HC2.out, HC3.out]; rfl
              go_wp2_with fail
              go_ret3
              exact ⟨_, _, _, rfl, .inl ⟨HN.out, rfl⟩, HBB3.out⟩
            | cons b r2 =>
              obtain ⟨g3, o3, c3, rfl, hc3, hgl3, hcell3, hall3⟩ := HR3.out.head
              have HALL3 := Lib.hid hall3
              obtain ⟨e0, e1, e2, e3, e4⟩ := hcell3 w3 (Below.refl _ _)
              have hL3 : lim ≤ w3.heap.size := Nat.le_trans HLIM.out HBB3.out.size
              have hrn3 : ¬ (r2.length : Int) + 1 = 0 := by omega
              have hrb3 : ((r2.length : Int) + 1 == 0) = false := beq_eq_false_iff_ne.2 hrn3
              rw [List.length_cons] at hT1l
              have HI3 := Lib.hid (c_Is b ⟨#[58]⟩ w3)
              clear hcell3 hall3
              by_cases hb : isS b ⟨#[58]⟩ = true
              · rw [hb] at HI3
                have HC4 : Hid (cdI (a :: r1) wd hg = (match trimT r2 with
                  | [d] => cdD what d wd hg
                  | _ => none)) := by
                  unfold Hid
                  rw [HC3.out]
                  simp only [if_pos hb]
                obtain ⟨A3, hA3⟩ : ∃ A3, (if c3 = 1 then some (⟨g3, o3, none⟩ : Addr) else some ⟨g3, o3 + 5, none⟩) = A3 := ⟨_, rfl⟩
                have HT3 : Hid (∀ x : World, Below w3.heap.size w3 x → RT x lim (.slice A3 r2.length (c3 - 1)) r2) := fun x hx => by rw [← hA3]; exact (RT.tail rfl hc3 hgl3 HALL3.out).below hx hL3
                have HIM3 : Hid (∀ x ∈ trimT r2, DimOk x ∧ x.t.size ≤ 1000000000) := fun x hx => HIM1.out x (List.mem_cons_of_mem _ (trimT_mem hx))
                have hc3I : (1 : Int) ≤ (c3 : Int) := by omega
                clear hb
                go_upto_region 13 with (go_at_call 8; refine (HI3.out).mono ?_; rintro e w4 ⟨rfl, hb4⟩; have HB4 := Lib.hid hb4; clear hb4)
                clear e0 e1 e2 e3 e4
                have HBB4 : Hid (Below w.heap.size w w4) := HBB3.out.trans (HB4.out.mono HBB3.out.size)
                go_upto_region 14 with (go_at_call 6; refine (c_Trim r2 _ lim _ (HT3.out _ HB4.out) (by omega)).mono ?_; rintro e w5 ⟨v4, rfl, hr4, rfl⟩; have HR4 := Lib.hid hr4; clear hr4)
                generalize trimT r2 = tr2 at *
                cases tr2 with
                | nil =>
                  obtain ⟨A4, c4, rfl⟩ := HR4.out.nil
                  have HN : Hid (cdP (t :: r) wd hg = none) := by unfold Hid; rw [HC2.out, HC4.out]; rfl
                  go_wp2_with fail
                  go_ret3
                  exact ⟨_, _, _, rfl, .inl ⟨HN.out, rfl⟩, HBB4.out⟩
                | cons d r3 =>
                  obtain ⟨g4, o4, c4, rfl, hc4, hgl4, hcell4, hall4⟩ := HR4.out.head
                  obtain ⟨e0, e1, e2, e3, e4⟩ := hcell4 w4 (Below.refl _ _)
                  clear hcell4 hall4
                  cases r3 with
                  | cons d2 r4 =>
                    have HN : Hid (cdP (t :: r) wd hg = none) := by unfold Hid; rw [HC2.out, HC4.out]; rfl
                    have hn2 : ¬ (r4.length : Int) + 1 + 1 = 1 := by omega
                    have hn2b : ((r4.length : Int) + 1 + 1 == 1) = false := beq_eq_false_iff_ne.2 hn2
                    have hn2c : ((r4.length : Int) + 1 + 1 != 1) = true := by rw [bne, hn2b]; rfl
                    rw [List.length_cons]
                    go_wp2_with fail
                    go_ret3
                    exact ⟨_, _, _, rfl, .inl ⟨HN.out, rfl⟩, HBB4.out⟩
                  | nil =>
                    have hne0 := beq_list d.u pxS
                    rw [show pxS.toList = [112, 120] by rw [ByteArray.toList_eq]; rfl] at hne0
                    rw [List.length_nil]
                    by_cases hk : d.k = 5
                    · have hkI : (d.k : Int) = 5 := by omega
                      by_cases hu : d.u = pxS
                      · rw [decide_eq_true hu] at hne0
                        have hne1 : (d.u.toList != [112, 120]) = false := by rw [bne, hne0]; rfl
                        have hdt := (HIM3.out d (by simp)).2
                        obtain ⟨num, sg, W, P, dot, HNUM, hnum⟩ := (HIM3.out d (by simp)).1 hk
                        have hdl : d.t.data.toList = num ++ [112, 120] := by rw [hnum, hu]; rfl
                        have hds : d.t.size = num.length + 2 := by have := congrArg List.length hdl; rw [List.length_append] at this; exact this
                        have hnt : numT d = num := by unfold numT; rw [hdl, hds]; simp
                        have hts : Lib.trimSuffix d.t.data.toList [112, 120] = num := by
                          rw [hdl]; unfold Lib.trimSuffix Lib.hasSuffix; simp
                        have HTS := Lib.hid (Tryd.strings_TrimSuffix d.t ⟨#[112, 120]⟩ w4 (by omega))
                        rw [show (ByteArray.mk #[112, 120]).data.toList = [112, 120] from rfl, hts] at HTS
                        have HTH := Lib.hid (c_Thou (s := ⟨num.toArray⟩) (by simpa using HNUM) w4 (HM.out.below HBB4.out hz) (by rw [ba_size]; omega))
                        rw [← thD_num HNUM] at HTH
                        have HC5 : Hid (cdI (a :: r1) wd hg = if (thD num).2 = true then cdV what ((thD num).1 * 64 / 1000) wd hg else none) := by
                          unfold Hid
                          rw [HC4.out]
                          simp only
                          unfold cdD
                          rw [if_pos ⟨hk, hu⟩, hnt]
                        have hbd := thD_b num
                        generalize thD num = x at *
                        obtain ⟨n, ok⟩ := x
                        simp only at HC5 hbd HTH
                        obtain ⟨hn1, hn2⟩ := hbd
                        generalize (⟨num.toArray⟩ : ByteArray) = nb at *
                        clear hk hu hnum hdl hds hnt hts HNUM
                        cases ok with
                        | false =>
                          have HN : Hid (cdP (t :: r) wd hg = none) := by unfold Hid; rw [HC2.out, HC5.out]; rfl
                          go_wp2_with (first
                            | (go_at_call 36; refine (HTS.out).mono ?_; rintro e w6 ⟨rfl, h6⟩; subst h6)
                            | (go_at_call 35; refine (HTH.out).mono ?_; rintro e w7 ⟨rfl, hb7⟩; have HBB7 : Hid (Below w.heap.size w w7) := HBB4.out.trans (hb7.mono HBB4.out.size); clear hb7))
                          go_ret3
                          exact ⟨_, _, _, rfl, .inl ⟨HN.out, rfl⟩, HBB7.out⟩
                        | true =>
                          have HC6 : Hid (cdI (a :: r1) wd hg = cdV what (n * 64 / 1000) wd hg) := HC5.out
                          go_upto_region 19 with (first
                            | (go_at_call 36; refine (HTS.out).mono ?_; rintro e w6 ⟨rfl, h6⟩; subst h6)
                            | (go_at_call 35; refine (HTH.out).mono ?_; rintro e w7 ⟨rfl, hb7⟩; have HBB7 : Hid (Below w.heap.size w w7) := HBB4.out.trans (hb7.mono HBB4.out.size); clear hb7))
                          clear e0 e1 e2 e3 e4
                          have HFL := Lib.hid (c_Floor (n * 64) w7 (by omega) (by omega))
                          generalize hq : n * 64 / 1000 = q at *
                          clear hq
                          go_upto_region 20 with (go_at_call 37; refine (HFL.out).mono ?_; rintro e w8 ⟨rfl, rfl⟩)
                          have HB := Lib.hid (beq_list what)
                          have HRR : Hid (∀ (A : Option Addr) (m c' : Nat), (0 < m → A = some ⟨g, o + (cl + 1) * 5, none⟩) → m = r.length + 1 - (cl + 1) → m ≤ c' → RT w7 lim (.slice A m c') ((t :: r).drop (cl + 1))) := by
                            intro A m c' hA hm hc'
                            exact (RT.sub (a := cl + 1) hA hgl (by rw [hm, List.length_drop, List.length_cons]) hc' HALL.out (fun i y hy => by rw [List.getElem?_drop] at hy; exact hy)).below HBB7.out HLIM.out
                          have hcl2 : (cl : Int) + 1 ≤ (r.length : Int) + 1 := by omega
                          have hcl3 : 0 ≤ (cl : Int) + 1 := by omega
                          have hclc : (cl : Int) + 1 ≤ (c : Int) := by omega
                          have b0 := HB.out mnW
                          rw [show mnW.toList = [109, 105, 110, 45, 119, 105, 100, 116, 104] by rw [ByteArray.toList_eq]; rfl] at b0
                          by_cases h0 : what = mnW
                          · rw [decide_eq_true h0] at b0
                            have HS : Hid (cdP (t :: r) wd hg = some ((t :: r).drop (cl + 1), decide (q ≤ wd))) := by
                              unfold Hid; rw [HC2.out, HC6.out]; unfold cdV; rw [if_pos h0]; rfl
                            clear h0
                            go_wp2_with fail
                            all_goals
                              go_ret3
                              refine ⟨_, _, _, rfl, .inr ⟨_, HS.out, rfl, ?_⟩, HBB7.out⟩
                              exact HRR.out _ _ _ (fun h => by first | rfl | (exfalso; omega)) (by omega) (by omega)
                          · rw [decide_eq_false h0] at b0
                            have b1 := HB.out mxW
                            rw [show mxW.toList = [109, 97, 120, 45, 119, 105, 100, 116, 104] by rw [ByteArray.toList_eq]; rfl] at b1
                            by_cases h1 : what = mxW
                            · rw [decide_eq_true h1] at b1
                              have HS : Hid (cdP (t :: r) wd hg = some ((t :: r).drop (cl + 1), decide (wd ≤ q))) := by
                                unfold Hid; rw [HC2.out, HC6.out]; unfold cdV; rw [if_neg h0, if_pos h1]; rfl
                              clear h0 h1
                              go_wp2_with fail
                              all_goals
                                go_ret3
                                refine ⟨_, _, _, rfl, .inr ⟨_, HS.out, rfl, ?_⟩, HBB7.out⟩
                                exact HRR.out _ _ _ (fun h => by first | rfl | (exfalso; omega)) (by omega) (by omega)
                            · rw [decide_eq_false h1] at b1
                              have b2 := HB.out mnH
                              rw [show mnH.toList = [109, 105, 110, 45, 104, 101, 105, 103, 104, 116] by rw [ByteArray.toList_eq]; rfl] at b2
                              by_cases h2 : what = mnH
                              · rw [decide_eq_true h2] at b2
                                have HS : Hid (cdP (t :: r) wd hg = some ((t :: r).drop (cl + 1), decide (q ≤ hg))) := by
                                  unfold Hid; rw [HC2.out, HC6.out]; unfold cdV; rw [if_neg h0, if_neg h1, if_pos h2]; rfl
                                clear h0 h1 h2
                                go_wp2_with fail
                                all_goals
                                  go_ret3
                                  refine ⟨_, _, _, rfl, .inr ⟨_, HS.out, rfl, ?_⟩, HBB7.out⟩
                                  exact HRR.out _ _ _ (fun h => by first | rfl | (exfalso; omega)) (by omega) (by omega)
                              · rw [decide_eq_false h2] at b2
                                have b3 := HB.out mxH
                                rw [show mxH.toList = [109, 97, 120, 45, 104, 101, 105, 103, 104, 116] by rw [ByteArray.toList_eq]; rfl] at b3
                                by_cases h3 : what = mxH
                                · rw [decide_eq_true h3] at b3
                                  have HS : Hid (cdP (t :: r) wd hg = some ((t :: r).drop (cl + 1), decide (hg ≤ q))) := by
                                    unfold Hid; rw [HC2.out, HC6.out]; unfold cdV; rw [if_neg h0, if_neg h1, if_neg h2, if_pos h3]; rfl
                                  clear h0 h1 h2 h3
                                  go_wp2_with fail
                                  all_goals
                                    go_ret3
                                    refine ⟨_, _, _, rfl, .inr ⟨_, HS.out, rfl, ?_⟩, HBB7.out⟩
                                    exact HRR.out _ _ _ (fun h => by first | rfl | (exfalso; omega)) (by omega) (by omega)
                                · rw [decide_eq_false h3] at b3
                                  have HN : Hid (cdP (t :: r) wd hg = none) := by
                                    unfold Hid; rw [HC2.out, HC6.out]; unfold cdV; rw [if_neg h0, if_neg h1, if_neg h2, if_neg h3]; rfl
                                  clear h0 h1 h2 h3
                                  go_wp2_with fail
                                  go_ret3
                                  exact ⟨_, _, _, rfl, .inl ⟨HN.out, rfl⟩, HBB7.out⟩
                      · rw [decide_eq_false hu] at hne0
                        have hne1 : (d.u.toList != [112, 120]) = true := by rw [bne, hne0]; rfl
                        have HN : Hid (cdP (t :: r) wd hg = none) := by
                          unfold Hid; rw [HC2.out, HC4.out]; simp only; unfold cdD; rw [if_neg (fun e => hu e.2)]; rfl
                        clear hu hk
                        go_wp2_with fail
                        go_ret3
                        exact ⟨_, _, _, rfl, .inl ⟨HN.out, rfl⟩, HBB4.out⟩
                    · have hkI : ¬ (d.k : Int) = 5 := by omega
                      have hkb : ((d.k : Int) == 5) = false := beq_eq_false_iff_ne.2 hkI
                      have hkc : ((d.k : Int) != 5) = true := by rw [bne, hkb]; rfl
                      have HN : Hid (cdP (t :: r) wd hg = none) := by
                        unfold Hid; rw [HC2.out, HC4.out]; simp only; unfold cdD; rw [if_neg (fun e => hk e.1)]; rfl
                      clear hk hne0
                      go_wp2_with fail
                      go_ret3
                      exact ⟨_, _, _, rfl, .inl ⟨HN.out, rfl⟩, HBB4.out⟩
              · rw [Bool.not_eq_true] at hb
                rw [hb] at HI3
                have HN : Hid (cdP (t :: r) wd hg = none) := by
                  unfold Hid; rw [HC2.out, HC3.out]; simp only; rw [hb]; rfl
                clear hb
                go_wp2_with (go_at_call 8; refine (HI3.out).mono ?_; rintro e w4 ⟨rfl, hb4⟩; have HBB4 : Hid (Below w.heap.size w w4) := HBB3.out.trans (hb4.mono HBB3.out.size); clear hb4)
                go_ret3
                exact ⟨_, _, _, rfl, .inl ⟨HN.out, rfl⟩, HBB4.out⟩
          · have haI : ¬ (a.k : Int) = 6 := by omega
            have hab : ((a.k : Int) == 6) = false := beq_eq_false_iff_ne.2 haI
            have hac : ((a.k : Int) != 6) = true := by rw [bne, hab]; rfl
            have HN : Hid (cdP (t :: r) wd hg = none) := by
              unfold Hid; rw [HC2.out, cdI]; simp only [if_neg ha]; rfl
            clear ha
            go_wp2_with fail
            go_ret3
            exact ⟨_, _, _, rfl, .inl ⟨HN.out, rfl⟩, HB2.out⟩
    · rw [Bool.not_eq_true] at ht
      rw [ht] at HI
      have HN : Hid (cdP (t :: r) wd hg = none) := by unfold Hid cdP; simp only; rw [ht]; rfl
      clear ht
      go_enter Tryd.func19, Tryd.ntmps19
      go_wp2_with (go_at_call 8; refine (HI.out).mono ?_; rintro e w1 ⟨rfl, hb1⟩; have HB1 := Lib.hid hb1; clear hb1)
      go_ret3
      exact ⟨_, _, _, rfl, .inl ⟨HN.out, rfl⟩, HB1.out⟩
end Go.Proofs.YtmhejppfjngbhaaDoor
