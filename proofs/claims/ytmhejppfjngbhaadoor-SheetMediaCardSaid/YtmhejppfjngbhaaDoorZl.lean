/- sheets: whether a media text applies: the document's -/
import Derived.Test.YtmhejppfjngbhaaDoorZk
namespace Go.Proofs.YtmhejppfjngbhaaDoor
set_option linter.unusedVariables false
set_option linter.unusedSimpArgs false
open Go.RowKit Go.Cas

theorem tokA_k (s : ByteArray) (i : Nat) : (tokA s i).k ≤ 10 := by
  obtain ⟨t, ht⟩ : ∃ t, t = tokA s i := ⟨_, rfl⟩
  rw [← ht]
  unfold tokA at ht
  split at ht
  · subst ht; simp
  · split at ht
    · unfold strT at ht
      split at ht <;> (subst ht; simp)
    · split at ht
      · split at ht
        · subst ht; simp
        · split at ht <;> (subst ht; simp)
      · split at ht
        · split at ht <;> (subst ht; simp)
        · split at ht
          · subst ht; simp
          · split at ht <;> (subst ht; simp)
theorem toks_k (s : ByteArray) : ∀ x ∈ toks s, x.k ≤ 10 := tokF_all' (Q := fun x => x.k ≤ 10) (fun _ _ h => h) s (fun i _ => tokA_k s i) _ _ _ (by simp)
theorem toks_g {s : ByteArray} (h : s.size ≤ 400000000) : ∀ x ∈ toks s, TkG x := fun x hx => ⟨toks_k s x hx, toks_ok h x hx⟩
theorem pcs_mem : ∀ (l p : List Tk), p ∈ pcs l → p.length ≤ l.length ∧ ∀ x ∈ p, x ∈ l := by
  intro l
  induction l with
  | nil => intro p hp; rw [pcs, List.mem_singleton] at hp; subst hp; simp
  | cons t l ih =>
    intro p hp
    rw [pcs] at hp
    split at hp
    · rcases List.mem_cons.1 hp with rfl | hp
      · simp
      · have := ih p hp; exact ⟨by rw [List.length_cons]; omega, fun x hx => List.mem_cons_of_mem _ (this.2 x hx)⟩
    · cases hq : pcs l with
      | nil => exact absurd hq (pcs_ne l)
      | cons a q =>
        rw [hq] at hp ih
        simp only at hp
        rcases List.mem_cons.1 hp with rfl | hp
        · have := ih a (List.mem_cons_self ..)
          refine ⟨by rw [List.length_cons, List.length_cons]; omega, fun x hx => ?_⟩
          rcases List.mem_cons.1 hx with rfl | hx
          · exact List.mem_cons_self ..
          · exact List.mem_cons_of_mem _ (this.2 x hx)
        · have := ih p (List.mem_cons_of_mem _ hp); exact ⟨by rw [List.length_cons]; omega, fun x hx => List.mem_cons_of_mem _ (this.2 x hx)⟩
theorem pcs_len (l : List Tk) : (pcs l).length ≤ l.length + 1 := by
  induction l with
  | nil => simp [pcs]
  | cons t l ih =>
    rw [pcs]
    split
    · rw [List.length_cons, List.length_cons]; omega
    · cases hq : pcs l with
      | nil => exact absurd hq (pcs_ne l)
      | cons a q => rw [hq] at ih; simp only [List.length_cons] at ih ⊢; omega
theorem c_Nst0 (L : List Tk) (v : Value) (lim : Nat) (w : World) (hR : RR w lim v L) (hlim : lim ≤ w.heap.size) (hL : L.length ≤ 1000000000) (hk : ∀ x ∈ L, x.k ≤ 10) : Calls Tryd.prog 10 #[v, .int .i64 0, .string ⟨#[]⟩] w fun e w' => ∃ cs v', Nst L 0 cs [] false ∧ e = .returned (.tuple #[v', .int .i64 ((L.length : Nat) : Int), .bool false]) ∧ RC w' (fun g => g < w'.heap.size) v' cs ∧ Below w.heap.size w w' := by
  obtain ⟨cs, r, c, h⟩ := Nst.total L.length L (Nat.le_refl _) 0
  obtain ⟨rfl, rfl⟩ := Nst_zero h rfl
  have := c_Nested (L.length - 0 + 1) L v lim 0 0 cs [] false w (Nat.lt_succ_self _) hR hlim hL (Nat.zero_le _) hk h
  refine this.mono ?_
  rintro e w' ⟨v', rfl, hrc, hb⟩
  exact ⟨cs, v', h, rfl, hrc.mono fun g hg => hg.2, hb⟩
set_option maxHeartbeats 16000000 in
set_option maxRecDepth 100000 in
theorem c_rApplies (s : ByteArray) (wd hg : Int) (w : World) (hs : s.size ≤ 400000000) : Calls Tryd.prog 5 #[.string s, .int .i64 wd, .int .i64 hg] w fun e w' => e = .returned (.bool (apR (toks s) wd hg)) ∧ Below w.heap.size w w' := by
  have HTG := Lib.hid (toks_g hs)
  have HTK := Lib.hid (fun x => c_rTokens s x (by omega))
  obtain ⟨L, hL⟩ : ∃ L, L = toks s := ⟨_, rfl⟩
  rw [← hL] at HTG HTK ⊢
  have HRES : Hid (apR L wd hg = if trimT L = [] then true else apW L wd hg) := rfl
  clear hL
  go_enter Tryd.func5, Tryd.ntmps5
  go_upto_region 3 with (first
    | (go_at_call 11; refine (HTK.out _).mono ?_; rintro e w1 ⟨v1, rfl, how, hlen, hb1⟩; have HR1 : Hid (RR w1 w1.heap.size v1 L) := RdS.of_own how; have HB1 := Lib.hid hb1; have HLE := Lib.hid hlen; clear how hb1 hlen)
    | (go_at_call 10; refine (c_Nst0 L v1 _ w1 HR1.out (Nat.le_refl _) (by have := HLE.out; omega) (fun x hx => (HTG.out x hx).1)).mono ?_; rintro e w2 ⟨cs, v2, hnst, rfl, hrc, hb2⟩; have HNST := Lib.hid hnst; have HRC2 := Lib.hid hrc; have HB2 : Hid (Below w.heap.size w w2) := HB1.out.trans (hb2.mono HB1.out.size); clear hnst hrc hb2)
    | (go_at_call 12; refine (c_rtrim cs v2 _ w2 (by have h := Nst_sz HNST.out; have := HLE.out; omega) HRC2.out (Nat.le_refl _)).mono ?_; rintro e w3 ⟨v3, rfl, hrc, hb3⟩; have HRC3 := Lib.hid hrc; have HB3 : Hid (Below w.heap.size w w3) := HB2.out.trans (hb3.mono HB2.out.size); clear hrc hb3))
  have hLl := HLE.out
  have HNT := Lib.hid HNST.out.trim
  obtain ⟨A3, c3, he3, _⟩ := HRC3.out.len
  subst he3
  by_cases hn : trimT L = []
  · have hz : trimC cs = [] := by
      have h := HNT.out
      rw [hn] at h
      exact h.nil_inv.1
    have HF : Hid (apR L wd hg = true) := by unfold Hid; rw [HRES.out, if_pos hn]
    rw [show (trimC cs).length = 0 by rw [hz]; rfl]
    clear hn hz
    go_wp2_with fail
    go_ret
    exact ⟨ret_bool HF.out.symm, HB3.out⟩
  · have hz : (trimC cs).length ≠ 0 := fun e => by
      have h := HNT.out
      obtain ⟨t, l, hl⟩ := List.exists_cons_of_ne_nil hn
      rw [hl] at h
      obtain ⟨x, c1, he, _⟩ := Nst_cons0 h
      rw [he] at e; cases e
    have HF : Hid (apR L wd hg = (pcs L).any fun p => enP (trimT p) wd hg) := by unfold Hid; rw [HRES.out, if_neg hn]; rfl
    obtain ⟨z, hzz⟩ : ∃ z, z = (trimC cs).length := ⟨_, rfl⟩
    rw [← hzz] at hz ⊢
    have hzI : ¬ (z : Int) = 0 := by omega
    have hzb : ((z : Int) == 0) = false := beq_eq_false_iff_ne.2 hzI
    clear hn hzz hz HRES HRC2 HRC3 HNST HNT
    go_upto_region 6 with (first
      | (go_at_call 11; refine (HTK.out _).mono ?_; rintro e w4 ⟨v4, rfl, how, _, hb4⟩; have HR4 : Hid (RR w4 w4.heap.size v4 L) := RdS.of_own how; have HB4 : Hid (Below w.heap.size w w4) := HB3.out.trans (hb4.mono HB3.out.size); clear how hb4)
      | (go_at_call 13; refine (c_pieces L v4 _ w4 HR4.out (Nat.le_refl _) (by omega) (fun x hx => (HTG.out x hx).1)).mono ?_; rintro e w5 ⟨v5, rfl, hpc, hb5⟩; have HPC := Lib.hid hpc; have HB5 : Hid (Below w.heap.size w w5) := HB4.out.trans (hb5.mono HB4.out.size); clear hpc hb5))
    obtain ⟨vs, hpp, hrd⟩ := HPC.out
    have hml := pcs_len L
    obtain ⟨m, hm⟩ : ∃ m, m = (pcs L).length := ⟨_, rfl⟩
    rw [← hm] at hrd hml
    have HM := Lib.hid hm
    obtain ⟨_, A5, c5, he5, hc5, hcell5⟩ := hrd
    subst he5
    have HPP := Lib.hid hpp
    have HCL := Lib.hid hcell5
    have hw5 := HB5.out.size
    clear hm hpp hcell5 HPC
    go_wp2_with fail
    go_loopw [12] (fun u wr => ∃ (k : Nat), u = .int .i64 (k : Int) ∧ k ≤ m ∧ Hid (apR L wd hg = ((pcs L).drop k).any fun p => enP (trimT p) wd hg) ∧ Hid (Below w5.heap.size w5 wr)) (fun u _ => m - (intOf u).toNat)
    case atStart => exact ⟨0, rfl, by omega, HF.out, Below.refl _ _⟩
    case round =>
      obtain ⟨k, rfl, hkm, HE, HBR⟩ := hrel
      have hwz := HBR.out.size
      have HBT : Hid (Below w.heap.size w wr) := HB5.out.trans (HBR.out.mono hw5)
      by_cases hlt : k < m
      · obtain ⟨p, hp⟩ : ∃ p, (pcs L)[k]? = some p := ⟨(pcs L)[k]'(by rw [← HM.out]; exact hlt), List.getElem?_eq_getElem _⟩
        obtain ⟨x, hx, hrp⟩ := HPP.out.get k p hp
        obtain ⟨g, o, hA, hgl, hc⟩ := HCL.out (by omega)
        subst hA
        have hxc := (HBR.out.cell (p := ⟨g, o + k, none⟩) hgl).trans (hc k x hx)
        have HRP : Hid (RR wr w5.heap.size x p) := (RdP.toS hrp (fun g h => h)).below' HBR.out (Nat.le_refl _)
        obtain ⟨Ax, cx, hxe⟩ := RR.len HRP.out
        subst hxe
        have hpm := pcs_mem L p (List.mem_of_getElem? hp)
        have hpl := hpm.1
        have HPG : Hid (∀ t ∈ p, TkG t) := fun t ht => HTG.out t (hpm.2 t ht)
        have hdr : (pcs L).drop k = p :: (pcs L).drop (k + 1) := by
          obtain ⟨h1, h2⟩ := List.getElem?_eq_some_iff.1 hp
          rw [List.drop_eq_getElem_cons h1, h2]
        have HE2 : Hid (apR L wd hg = (enP (trimT p) wd hg || ((pcs L).drop (k + 1)).any fun p => enP (trimT p) wd hg)) := by unfold Hid; rw [HE.out, hdr, List.any_cons]
        have hkI : (k : Int) < (m : Int) := by omega
        have hk0 : (0 : Int) ≤ (k : Int) := by omega
        clear hp hx hrp hc hpm hdr
        go_upto_region 11 with (first
          | (go_at_call 10; refine (c_Nst0 p _ _ wr HRP.out hwz (by omega) (fun x hx => (HPG.out x hx).1)).mono ?_; rintro e w6 ⟨ds, v6, hnst, rfl, hrc, hb6⟩; have HNST := Lib.hid hnst; have HRC6 := Lib.hid hrc; have HB6 : Hid (Below w5.heap.size w5 w6) := HBR.out.trans (hb6.mono hwz); clear hnst hrc hb6)
          | (go_at_call 12; refine (c_rtrim ds v6 _ w6 (by have h := Nst_sz HNST.out; omega) HRC6.out (Nat.le_refl _)).mono ?_; rintro e w7 ⟨v7, rfl, hrc, hb7⟩; have HRC7 : Hid (RC w7 (fun g => g < w7.heap.size) v7 (trimC ds)) := hrc.mono (fun g hg => hg.elim (fun h => Nat.lt_of_lt_of_le h hb7.size) (fun h => h.2)); have HB7 : Hid (Below w5.heap.size w5 w7) := HB6.out.trans (hb7.mono HB6.out.size); clear hrc hb7)
          | (go_at_call 14; refine (c_rentry (trimC ds) v7 _ wd hg w7 HRC7.out (Nat.le_refl _) (by have h := Nst_sz HNST.out.trim; have h2 := trimT_len p; omega) (AllC_nst HNST.out.trim (fun t ht => HPG.out t (trimT_mem ht)))).mono ?_; rintro e w8 ⟨rfl, hb8⟩; have HB8 : Hid (Below w5.heap.size w5 w8) := HB7.out.trans (hb8.mono HB7.out.size); clear hb8))
        have hen := en_eq wd hg HNST.out.trim
        rw [← hen]
        clear hen
        cases hres : enP (trimT p) wd hg with
        | true =>
          have HT : Hid (apR L wd hg = true) := by unfold Hid; rw [HE2.out, hres]; rfl
          clear hres
          go_wp2_with fail
          go_ret
          exact ⟨ret_bool HT.out.symm, HB5.out.trans (HB8.out.mono hw5)⟩
        | false =>
          have HT : Hid (apR L wd hg = ((pcs L).drop (k + 1)).any fun p => enP (trimT p) wd hg) := by unfold Hid; rw [HE2.out, hres]; rfl
          clear hres
          go_wp2_with fail
          go_roundw
          case rel => exact ⟨k + 1, by go_num, by omega, HT.out, HB8.out⟩
          case measure => simp [intOf]; omega
      · have hkI : ¬ (k : Int) < (m : Int) := by omega
        have HT : Hid (apR L wd hg = false) := by unfold Hid; rw [HE.out, List.drop_eq_nil_of_le (by rw [← HM.out]; omega)]; rfl
        go_wp2_with fail
        go_ret
        exact ⟨ret_bool HT.out.symm, HBT.out⟩
end Go.Proofs.YtmhejppfjngbhaaDoor
