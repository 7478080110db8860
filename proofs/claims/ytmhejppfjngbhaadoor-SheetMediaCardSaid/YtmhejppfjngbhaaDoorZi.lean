/- sheets: tokens between commas: the document's -/
import Derived.Test.YtmhejppfjngbhaaDoorZh
namespace Go.Proofs.YtmhejppfjngbhaaDoor
set_option linter.unusedVariables false
set_option linter.unusedSimpArgs false
open Go.RowKit Go.Cas

abbrev tQ : TypeId := 33
theorem inf_rs : (Tryd.prog.info? tQ).map (fun i => (i.zero, i.size, i.bytes)) = some (some (.slice none 0 0), 1, 24) := by kernel_rfl
/-- slices that read as lists of tokens -/
inductive PcP (w : World) (P : Nat → Prop) : List (List Tk) → List Value → Prop
  | nil : PcP w P [] []
  | cons {p : List Tk} {ps : List (List Tk)} {x : Value} {vs : List Value} : RdP w P 5 x p.length (rws rkc p) → PcP w P ps vs → PcP w P (p :: ps) (x :: vs)
section
variable {w w' : World} {P P' : Nat → Prop} {ps qs : List (List Tk)} {vs us : List Value}
theorem PcP.len (h : PcP w P ps vs) : vs.length = ps.length := by
  induction h with
  | nil => rfl
  | cons _ _ ih => rw [List.length_cons, List.length_cons, ih]
theorem PcP.keep (h : PcP w P ps vs) (hk : ∀ g o, P g → w'.cell? ⟨g, o, none⟩ = w.cell? ⟨g, o, none⟩) : PcP w' P ps vs := by
  induction h with
  | nil => exact .nil
  | cons h1 _ ih => exact .cons (h1.keep hk) ih
theorem PcP.mono (h : PcP w P ps vs) (hl : ∀ g, P g → P' g) : PcP w P' ps vs := by
  induction h with
  | nil => exact .nil
  | cons h1 _ ih => exact .cons (h1.mono hl) ih
theorem PcP.app (h : PcP w P ps vs) (k : PcP w P qs us) : PcP w P (ps ++ qs) (vs ++ us) := by
  induction h with
  | nil => exact k
  | cons h1 _ ih => exact .cons h1 ih
theorem PcP.get (h : PcP w P ps vs) : ∀ (i : Nat) (p : List Tk), ps[i]? = some p → ∃ x, vs[i]? = some x ∧ RdP w P 5 x p.length (rws rkc p) := by
  induction h with
  | nil => intro i p hp; cases hp
  | cons h1 _ ih =>
    intro i p hp
    cases i with
    | zero => injection hp with hp; subst hp; exact ⟨_, rfl, h1⟩
    | succ i => exact ih i p hp
end
/-- pieces, of which the first has begun -/
def pj (now l : List Tk) : List (List Tk) := match pcs l with
  | [] => [now]
  | p :: q => (now ++ p) :: q
theorem pj_nil (now : List Tk) : pj now [] = [now] := by unfold pj pcs; simp
theorem pj_zero (l : List Tk) : pj [] l = pcs l := by
  unfold pj
  cases h : pcs l with
  | nil => exact absurd h (pcs_ne l)
  | cons p q => rfl
theorem pj_at {t : Tk} {now l : List Tk} (h : isS t ⟨#[44]⟩ = true) : pj now (t :: l) = now :: pj [] l := by
  rw [pj_zero]
  unfold pj
  rw [pcs, if_pos (by rw [sgn44]; exact h)]
  simp
theorem pj_no {t : Tk} {now l : List Tk} (h : isS t ⟨#[44]⟩ = false) : pj now (t :: l) = pj (now ++ [t]) l := by
  unfold pj
  rw [pcs, if_neg (by rw [sgn44, h]; simp)]
  cases hp : pcs l with
  | nil => exact absurd hp (pcs_ne l)
  | cons p q => simp
theorem pj_ne (now l : List Tk) : pj now l ≠ [] := by unfold pj; split <;> simp
/-- pieces in memory -/
def PcR (w : World) (lim : Nat) (v : Value) (ps : List (List Tk)) : Prop := ∃ vs, PcP w (fun g => g < lim) ps vs ∧ RdS w lim 1 v ps.length vs
/-- the state between two tokens: the pieces, the one that has begun -/
structure PcS (w : World) (u3 u4 : Value) (ps : List (List Tk)) (now : List Tk) (wr : World) : Prop where
  low : Below w.heap.size w wr
  row : ∃ vs, wr.ownsRow w.heap.size tQ 1 u3 ps.length vs ∧ PcP wr (fun g => g < wr.heap.size ∧ u3.ownBlock ≠ some g ∧ u4.ownBlock ≠ some g) ps vs
  now_ : wr.ownsRow w.heap.size tR 5 u4 now.length (rws rkc now)
  sep : Sep u4 u3
theorem PcS.tok {w wr w4 : World} {u3 u4 v4 : Value} {ps : List (List Tk)} {now : List Tk} {t : Tk} (h : PcS w u3 u4 ps now wr) (hp : Pushed wr w.heap.size tR 5 u4 now.length (rws rkc now) (rkc t) v4 w4) : PcS w u3 v4 ps (now ++ [t]) w4 := by
  obtain ⟨vs, h1, h2⟩ := h.row
  have hs := hp.size_
  refine ⟨hp.below h.low (Nat.le_refl _) h.low.size, ⟨vs, hp.other h1 h.sep, ?_⟩, ?_, hp.sep h1 h.sep⟩
  · refine (h2.keep fun g o hg => (hp.cellR hg.1 hg.2.2 o).1).mono fun g hg => ⟨Nat.lt_of_lt_of_le hg.1 hs, hg.2.1, ?_⟩
    rcases hp.at_ with e | ⟨j, hj, e⟩
    · rw [e]; exact hg.2.2
    · rw [e]; intro q; injection q with q; have := hg.1; omega
  · have := hp.own
    rw [List.length_append, List.length_singleton, rws_app rkc_len, rws_one rkc_len]
    exact this
theorem PcS.cut {w wr w4 : World} {u3 u4 v3 : Value} {ps : List (List Tk)} {now : List Tk} {vs : List Value} (h : PcS w u3 u4 ps now wr) (h2 : PcP wr (fun g => g < wr.heap.size ∧ u3.ownBlock ≠ some g ∧ u4.ownBlock ≠ some g) ps vs) (hp : Pushed wr w.heap.size tQ 1 u3 ps.length vs [u4] v3 w4) : PcS w v3 (.slice none 0 0) (ps ++ [now]) [] w4 ∧ ∃ us, w4.ownsRow w.heap.size tQ 1 v3 (ps ++ [now]).length us ∧ PcP w4 (fun g => g < w4.heap.size) (ps ++ [now]) us := by
  have hs := hp.size_
  have hv : ∀ g, g < wr.heap.size → u3.ownBlock ≠ some g → v3.ownBlock ≠ some g := fun g hg hn => by
    rcases hp.at_ with e | ⟨j, hj, e⟩
    · rw [e]; exact hn
    · rw [e]; intro q; injection q with q; omega
  have hnow : RdP wr (fun g => g < wr.heap.size ∧ u3.ownBlock ≠ some g) 5 u4 now.length (rws rkc now) := RdP.of_own h.now_ fun g hg _ h5 => ⟨h5, fun e => h.sep g hg e⟩
  have hall : PcP w4 (fun g => g < w4.heap.size ∧ v3.ownBlock ≠ some g) (ps ++ [now]) (vs ++ [u4]) :=
    PcP.app ((h2.keep fun g o hg => (hp.cellR hg.1 hg.2.1 o).1).mono fun g hg => ⟨Nat.lt_of_lt_of_le hg.1 hs, hv g hg.1 hg.2.1⟩)
      (.cons ((hnow.keep fun g o hg => (hp.cellR hg.1 hg.2 o).1).mono fun g hg => ⟨Nat.lt_of_lt_of_le hg.1 hs, hv g hg.1 hg.2⟩) .nil)
  have hown : w4.ownsRow w.heap.size tQ 1 v3 (ps ++ [now]).length (vs ++ [u4]) := by
    rw [List.length_append, List.length_singleton]; exact hp.own
  exact ⟨⟨hp.below h.low (Nat.le_refl _) h.low.size, ⟨_, hown, hall.mono fun g hg => ⟨hg.1, hg.2, by simp [Value.ownBlock]⟩⟩, World.ownsRow_nil _ _ _ _, Sep.none_l _⟩, _, hown, hall.mono fun g hg => hg.1⟩
set_option maxHeartbeats 16000000 in
set_option maxRecDepth 100000 in
theorem c_pieces (L : List Tk) (v : Value) (lim : Nat) (w : World) (hR : RR w lim v L) (hlim : lim ≤ w.heap.size) (hL : L.length ≤ 1000000000) (hk : ∀ x ∈ L, x.k ≤ 10) : Calls Tryd.prog 13 #[v] w fun e w' => ∃ v', e = .returned v' ∧ PcR w' w'.heap.size v' (pcs L) ∧ Below w.heap.size w w' := by
  obtain ⟨A, cp, he⟩ := hR.len
  subst he
  have HR := Lib.hid hR
  have HK := Lib.hid hk
  obtain ⟨q, hq⟩ : ∃ q, q = L.length := ⟨_, rfl⟩
  rw [← hq] at hL HR ⊢
  have HQ := Lib.hid hq
  have HLIM := Lib.hid hlim
  clear hR hk hq hlim
  go_enter Tryd.func13, Tryd.ntmps13
  go_wp2_with fail
  go_loopw [3, 4, 5] (fun u3 u4 u5 wr => ∃ (k : Nat) (ps : List (List Tk)) (now : List Tk), u5 = .int .i64 (k : Int) ∧ k ≤ q ∧ ps.length + now.length ≤ k ∧ Hid (pcs L = ps ++ pj now (L.drop k)) ∧ Hid (PcS w u3 u4 ps now wr)) (fun _ _ u5 _ => q - (intOf u5).toNat)
  case atStart => exact ⟨0, [], [], rfl, by omega, by simp, (pj_zero _).symm, Below.refl _ _, ⟨[], World.ownsRow_nil _ _ _ _, .nil⟩, World.ownsRow_nil _ _ _ _, Sep.none_l _⟩
  case round =>
    obtain ⟨k, ps, now, rfl, hkq, hln, HP, HS⟩ := hrel
    have hwz := HS.out.low.size
    by_cases hlt : k < q
    · obtain ⟨t, ht⟩ : ∃ t, L[k]? = some t := ⟨L[k]'(by rw [← HQ.out]; exact hlt), List.getElem?_eq_getElem _⟩
      have hLn : L ≠ [] := fun e => by rw [e] at ht; simp at ht
      obtain ⟨g, o, hA, hgl, hcell⟩ := HR.out.at_ hLn
      subst hA
      obtain ⟨d0, d1, d2, d3, d4⟩ := hcell k t ht wr (HS.out.low.mono HLIM.out)
      have hk10 : t.k ≤ 10 := HK.out t (List.mem_of_getElem? ht)
      have hkI : (k : Int) < (q : Int) := by omega
      have hk0 : (0 : Int) ≤ (k : Int) := by omega
      have hdr : L.drop k = t :: L.drop (k + 1) := by
        obtain ⟨h1, h2⟩ := List.getElem?_eq_some_iff.1 ht
        rw [List.drop_eq_getElem_cons h1, h2]
      have b10 := kdS_sg t.k hk10
      have q3 := beq_list t.t ⟨#[44]⟩
      rw [show (⟨#[44]⟩ : ByteArray).toList = [44] by rw [ByteArray.toList_eq]] at q3
      have his : isS t ⟨#[44]⟩ = (decide (t.k = 10) && decide (t.t = ⟨#[44]⟩)) := rfl
      cases hs : isS t ⟨#[44]⟩ with
      | true =>
        rw [hs] at his
        have h2 := Eq.symm his
        rw [Bool.and_eq_true, decide_eq_true_eq, decide_eq_true_eq] at h2
        rw [decide_eq_true h2.1] at b10
        rw [decide_eq_true h2.2] at q3
        have HPN : Hid (pcs L = (ps ++ [now]) ++ pj [] (L.drop (k + 1))) := by unfold Hid; rw [HP.out, hdr, pj_at hs, List.append_assoc]; rfl
        obtain ⟨vs, h3, h4⟩ := HS.out.row
        have HV := Lib.hid h3
        have HVP := Lib.hid h4
        obtain ⟨A4, n4, he4, _⟩ : ∃ A4 n4, u4 = .slice A4 now.length n4 ∧ True := by
          obtain ⟨_, A, c, e, _⟩ := RdS.of_own HS.out.now_
          exact ⟨A, c, e, trivial⟩
        subst he4
        clear his h2 hs hdr hk10 hLn ht hcell d2 d3 d4 h3 h4
        go_wp2_with (at_builtin; refine wp_push rfl _ _ 36 rfl w.heap.size tQ Tryd.underlying36 inf_rs rfl (by decide) wr u3 ps.length vs [.slice A4 now.length n4] rfl rfl rfl HV.out rfl (by simp [Value.oneCell']) (by omega) (by omega) hwz ?_; intro v4 w4 hpush; have HPU := Lib.hid hpush; clear hpush)
        go_roundw
        case rel => exact ⟨k + 1, ps ++ [now], [], by go_num, by omega, by simp; omega, HPN.out, (HS.out.cut HVP.out HPU.out).1⟩
        case measure => simp [intOf]; omega
      | false =>
        have HPN : Hid (pcs L = ps ++ pj (now ++ [t]) (L.drop (k + 1))) := by unfold Hid; rw [HP.out, hdr, pj_no hs]
        have HOW := Lib.hid HS.out.now_
        by_cases h10 : t.k = 10
        · rw [hs, decide_eq_true h10, Bool.true_and] at his
          rw [← his] at q3
          rw [decide_eq_true h10] at b10
          clear his hs hdr hk10 hLn ht hcell h10
          go_wp2_with (at_builtin; refine wp_push rfl _ _ 33 rfl w.heap.size tR Tryd.underlying33 inf_rk rfl (by decide) wr u4 now.length (rws rkc now) (rkc t) rfl rfl rfl HOW.out rfl (by simp [Value.oneCell', rkc]) (by omega) (by omega) hwz ?_; intro v4 w4 hpush; have HPU := Lib.hid hpush; clear hpush)
          go_roundw
          case rel => exact ⟨k + 1, ps, now ++ [t], by go_num, by omega, by simp; omega, HPN.out, HS.out.tok HPU.out⟩
          case measure => simp [intOf]; omega
        · rw [decide_eq_false h10] at b10
          clear his hs hdr hk10 hLn ht hcell h10 q3
          go_wp2_with (at_builtin; refine wp_push rfl _ _ 33 rfl w.heap.size tR Tryd.underlying33 inf_rk rfl (by decide) wr u4 now.length (rws rkc now) (rkc t) rfl rfl rfl HOW.out rfl (by simp [Value.oneCell', rkc]) (by omega) (by omega) hwz ?_; intro v4 w4 hpush; have HPU := Lib.hid hpush; clear hpush)
          go_roundw
          case rel => exact ⟨k + 1, ps, now ++ [t], by go_num, by omega, by simp; omega, HPN.out, HS.out.tok HPU.out⟩
          case measure => simp [intOf]; omega
    · have hkI : ¬ (k : Int) < (q : Int) := by omega
      have HPN : Hid (pcs L = ps ++ [now]) := by unfold Hid; rw [HP.out, List.drop_eq_nil_of_le (by rw [← HQ.out]; omega), pj_nil]
      obtain ⟨vs, h3, h4⟩ := HS.out.row
      have HV := Lib.hid h3
      have HVP := Lib.hid h4
      obtain ⟨A4, n4, he4, _⟩ : ∃ A4 n4, u4 = .slice A4 now.length n4 ∧ True := by
        obtain ⟨_, A, c, e, _⟩ := RdS.of_own HS.out.now_
        exact ⟨A, c, e, trivial⟩
      subst he4
      clear h3 h4
      go_wp2_with (at_builtin; refine wp_push rfl _ _ 36 rfl w.heap.size tQ Tryd.underlying36 inf_rs rfl (by decide) wr u3 ps.length vs [.slice A4 now.length n4] rfl rfl rfl HV.out rfl (by simp [Value.oneCell']) (by omega) (by omega) hwz ?_; intro v4 w4 hpush; have HPU := Lib.hid hpush; clear hpush)
      go_ret
      obtain ⟨h1, us, h2, h3⟩ := HS.out.cut HVP.out HPU.out
      exact ⟨_, rfl, by rw [HPN.out]; exact ⟨us, h3, RdS.of_own h2⟩, h1.low⟩
end Go.Proofs.YtmhejppfjngbhaaDoor
