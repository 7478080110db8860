/- sheets: what tokens open, nested: the document's -/
import Derived.Test.YtmhejppfjngbhaaDoorZe
namespace Go.Proofs.YtmhejppfjngbhaaDoor
set_option linter.unusedVariables false
set_option linter.unusedSimpArgs false
open Go.RowKit Go.Cas

/-- a slice that reads as tokens: the document's -/
def RR (w : World) (lim : Nat) (v : Value) (l : List Tk) : Prop := RdS w lim 5 v l.length (rws rkc l)
theorem RR.below {w w' : World} {lim B : Nat} {v : Value} {l : List Tk} (h : RR w lim v l) (hb : Below B w w') (hB : lim ≤ B) : RR w' lim v l := RdS.below' h hb hB
theorem RR.len {w : World} {lim : Nat} {v : Value} {l : List Tk} (h : RR w lim v l) : ∃ A c, v = .slice A l.length c := by
  obtain ⟨_, A, c, e, _⟩ := h
  exact ⟨A, c, e⟩
theorem RR.at_ {w : World} {lim : Nat} {A : Option Addr} {n c : Nat} {l : List Tk} (h : RR w lim (.slice A n c) l) (hn : l ≠ []) : ∃ g o, A = some ⟨g, o, none⟩ ∧ g < lim ∧ ∀ i x, l[i]? = some x → ∀ w', Below lim w w' → w'.cell? ⟨g, o + i * 5, none⟩ = some (.string (kdS x.k)) ∧ w'.cell? ⟨g, o + i * 5 + 1, none⟩ = some (.string x.t) ∧ w'.cell? ⟨g, o + i * 5 + 2, none⟩ = some (.string x.u) ∧ w'.cell? ⟨g, o + i * 5 + 3, none⟩ = some (.int .i64 (x.a : Int)) ∧ w'.cell? ⟨g, o + i * 5 + 4, none⟩ = some (.int .i64 (x.b : Int)) := by
  obtain ⟨h1, A', c', e, hcc, h4⟩ := h
  obtain ⟨g, o, e2, hg, hc⟩ := h4 (List.length_pos_iff.2 hn)
  injection e with e0 e1 e3
  refine ⟨g, o, e0.trans e2, hg, fun i x hi w' hb => ?_⟩
  have k := fun j (hj : j < 5) => (hb.cell (p := ⟨g, o + (i * 5 + j), none⟩) hg).trans (show w.cell? ⟨g, o + (i * 5 + j), none⟩ = (rkc x)[j]? by
    have := rws_get rkc_len hi hj
    have hv : (rkc x)[j]? = some ((rkc x)[j]'hj) := List.getElem?_eq_getElem hj
    rw [hv] at this ⊢
    exact hc _ _ this)
  have k0 := k 0 (by decide)
  have k1 := k 1 (by decide)
  have k2 := k 2 (by decide)
  have k3 := k 3 (by decide)
  have k4 := k 4 (by decide)
  simp only [Nat.add_zero, ← Nat.add_assoc] at k0 k1 k2 k3 k4
  exact ⟨k0, k1, k2, k3, k4⟩
theorem opS_sgn {t : Tk} {e : Nat} (he : e ≠ 0) : sgn t e = (decide (t.k = 10) && decide (t.t = opS e)) := by
  unfold sgn opS
  rw [if_neg he]
theorem Nst_suf {l r : List Tk} {e : Nat} {cs : List Cm} {c : Bool} (h : Nst l e cs r c) : r <:+ l := by
  induction h with
  | nil => exact List.suffix_refl _
  | endd _ _ => exact List.suffix_cons _ _
  | opn _ _ _ _ h1 h2 => exact (h2.trans h1).trans (List.suffix_cons _ _)
  | one _ _ _ h1 => exact h1.trans (List.suffix_cons _ _)
theorem bk_set8 {w : World} {r : Nat} {t : TypeId} {a0 a1 a2 a3 a4 a5 a6 a7 : Value} (h : Bk w r t #[a0, a1, a2, a3, a4, a5, a6, a7]) (v0 v1 v2 v3 v4 v5 v6 v7 : Value) :
    Bk ((((((((w.setCell ⟨r, 0, none⟩ v0).setCell ⟨r, 1, none⟩ v1).setCell ⟨r, 2, none⟩ v2).setCell ⟨r, 3, none⟩ v3).setCell ⟨r, 4, none⟩ v4).setCell ⟨r, 5, none⟩ v5).setCell ⟨r, 6, none⟩ v6).setCell ⟨r, 7, none⟩ v7) r t #[v0, v1, v2, v3, v4, v5, v6, v7] := by
  have h0 : Bk (w.setCell ⟨r, 0, none⟩ v0) r t #[v0, a1, a2, a3, a4, a5, a6, a7] := h.set_ 0 v0
  have h1 : Bk ((w.setCell ⟨r, 0, none⟩ v0).setCell ⟨r, 1, none⟩ v1) r t #[v0, v1, a2, a3, a4, a5, a6, a7] := h0.set_ 1 v1
  have h2 : Bk (((w.setCell ⟨r, 0, none⟩ v0).setCell ⟨r, 1, none⟩ v1).setCell ⟨r, 2, none⟩ v2) r t #[v0, v1, v2, a3, a4, a5, a6, a7] := h1.set_ 2 v2
  have h3 : Bk ((((w.setCell ⟨r, 0, none⟩ v0).setCell ⟨r, 1, none⟩ v1).setCell ⟨r, 2, none⟩ v2).setCell ⟨r, 3, none⟩ v3) r t #[v0, v1, v2, v3, a4, a5, a6, a7] := h2.set_ 3 v3
  have h4 : Bk (((((w.setCell ⟨r, 0, none⟩ v0).setCell ⟨r, 1, none⟩ v1).setCell ⟨r, 2, none⟩ v2).setCell ⟨r, 3, none⟩ v3).setCell ⟨r, 4, none⟩ v4) r t #[v0, v1, v2, v3, v4, a5, a6, a7] := h3.set_ 4 v4
  have h5 : Bk ((((((w.setCell ⟨r, 0, none⟩ v0).setCell ⟨r, 1, none⟩ v1).setCell ⟨r, 2, none⟩ v2).setCell ⟨r, 3, none⟩ v3).setCell ⟨r, 4, none⟩ v4).setCell ⟨r, 5, none⟩ v5) r t #[v0, v1, v2, v3, v4, v5, a6, a7] := h4.set_ 5 v5
  have h6 : Bk (((((((w.setCell ⟨r, 0, none⟩ v0).setCell ⟨r, 1, none⟩ v1).setCell ⟨r, 2, none⟩ v2).setCell ⟨r, 3, none⟩ v3).setCell ⟨r, 4, none⟩ v4).setCell ⟨r, 5, none⟩ v5).setCell ⟨r, 6, none⟩ v6) r t #[v0, v1, v2, v3, v4, v5, v6, a7] := h5.set_ 6 v6
  have h7 : Bk ((((((((w.setCell ⟨r, 0, none⟩ v0).setCell ⟨r, 1, none⟩ v1).setCell ⟨r, 2, none⟩ v2).setCell ⟨r, 3, none⟩ v3).setCell ⟨r, 4, none⟩ v4).setCell ⟨r, 5, none⟩ v5).setCell ⟨r, 6, none⟩ v6).setCell ⟨r, 7, none⟩ v7) r t #[v0, v1, v2, v3, v4, v5, v6, v7] := h6.set_ 7 v7
  exact h7
theorem bl_set8 {B r : Nat} {w0 w : World} (h : Below B w0 w) (hr : B ≤ r) (v0 v1 v2 v3 v4 v5 v6 v7 : Value) :
    Below B w0 ((((((((w.setCell ⟨r, 0, none⟩ v0).setCell ⟨r, 1, none⟩ v1).setCell ⟨r, 2, none⟩ v2).setCell ⟨r, 3, none⟩ v3).setCell ⟨r, 4, none⟩ v4).setCell ⟨r, 5, none⟩ v5).setCell ⟨r, 6, none⟩ v6).setCell ⟨r, 7, none⟩ v7) :=
  ((((((((h.setCell (p := ⟨r, 0, none⟩) hr v0).setCell (p := ⟨r, 1, none⟩) hr v1).setCell (p := ⟨r, 2, none⟩) hr v2).setCell (p := ⟨r, 3, none⟩) hr v3).setCell (p := ⟨r, 4, none⟩) hr v4).setCell (p := ⟨r, 5, none⟩) hr v5).setCell (p := ⟨r, 6, none⟩) hr v6).setCell (p := ⟨r, 7, none⟩) hr v7)
/-- blocks that a call has made -/
def MdB (w w' : World) (g : Nat) : Prop := w.heap.size ≤ g ∧ g < w'.heap.size
def NsRet (cs : List Cm) (k : Nat) (c : Bool) (w : World) (ev : Ending) (w' : World) : Prop :=
  ∃ v', ev = .returned (.tuple #[v', .int .i64 (k : Int), .bool c]) ∧ RC w' (MdB w w') v' cs ∧ Below w.heap.size w w'
/-- a row of components that grows by one -/
theorem row_push {w wr wc w4 : World} {base n : Nat} {u v : Value} {acc : List Cm} {x : Cm} {R K : List Value} (hp : Pushed wc base tC 8 u n R K v w4) (hrow : RowC wc (fun g => MdB w wr g ∧ u.ownBlock ≠ some g) acc R) (hx : RowC wc (fun g => wr.heap.size ≤ g ∧ g < wc.heap.size) [x] K) (h0 : w.heap.size ≤ wr.heap.size) (h1 : wr.heap.size ≤ wc.heap.size) (hu : ∀ j, u.ownBlock = some j → j < wr.heap.size) : RowC w4 (fun g => MdB w w4 g ∧ v.ownBlock ≠ some g) (acc ++ [x]) (R ++ K) := by
  have hs := hp.size_
  have hv : ∀ g, g < wc.heap.size → u.ownBlock ≠ some g → v.ownBlock ≠ some g := fun g hg hn => by
    rcases hp.at_ with e | ⟨j, hj, e⟩
    · rw [e]; exact hn
    · rw [e]; intro q; injection q with q; omega
  refine RowC.app ?_ ?_
  · exact (hrow.keep fun g o hg => (hp.cellR (Nat.lt_of_lt_of_le hg.1.2 h1) hg.2 o).1).mono fun g hg => ⟨⟨hg.1.1, Nat.lt_of_lt_of_le hg.1.2 (Nat.le_trans h1 hs)⟩, hv g (Nat.lt_of_lt_of_le hg.1.2 h1) hg.2⟩
  · have hn : ∀ g, wr.heap.size ≤ g → u.ownBlock ≠ some g := fun g hg e => by have := hu g e; omega
    exact (hx.keep fun g o hg => (hp.cellR hg.2 (hn g hg.1) o).1).mono fun g hg => ⟨⟨Nat.le_trans h0 hg.1, Nat.lt_of_lt_of_le hg.2 hs⟩, hv g hg.2 (hn g hg.1)⟩
set_option maxHeartbeats 16000000 in
set_option maxRecDepth 100000 in
theorem c_Nested : ∀ (n : Nat) (L : List Tk) (v : Value) (lim i e : Nat) (cs : List Cm) (r : List Tk) (c : Bool) (w : World), L.length - i < n → RR w lim v L → lim ≤ w.heap.size → L.length ≤ 1000000000 → i ≤ L.length → (∀ x ∈ L, x.k ≤ 10) → Nst (L.drop i) e cs r c → Calls Tryd.prog 10 #[v, .int .i64 (i : Int), .string (opS e)] w (NsRet cs (L.length - r.length) c w) := by
  intro n
  induction n with
  | zero => intro L v lim i e cs r c w hn; omega
  | succ n ih =>
  intro L v lim i e cs r c w hn hR hlim hL hi hk hN
  have hR0 := Lib.hid hR
  obtain ⟨A, cp, he⟩ := hR.len
  subst he
  have IH : Hid (∀ (k e' : Nat) (cs' : List Cm) (r' : List Tk) (c' : Bool) (x : World), i < k → k ≤ L.length → Below w.heap.size w x → Nst (L.drop k) e' cs' r' c' → Calls Tryd.prog 10 #[.slice A L.length cp, .int .i64 (k : Int), .string (opS e')] x (NsRet cs' (L.length - r'.length) c' x)) := fun k e' cs' r' c' x h1 h2 h3 h4 =>
    ih L _ lim k e' cs' r' c' x (by omega) (hR0.out.below h3 hlim) (Nat.le_trans hlim h3.size) hL h2 hk h4
  have HR := Lib.hid hR
  have HK := Lib.hid hk
  have HN0 := Lib.hid hN
  have be := opS_nil e
  obtain ⟨E, hE⟩ : ∃ E, E = opS e := ⟨_, rfl⟩
  obtain ⟨q, hq⟩ : ∃ q, q = L.length := ⟨_, rfl⟩
  rw [← hE] at be ⊢
  rw [← hq] at hn hL hi HR IH ⊢
  have HE := Lib.hid hE
  have HQ := Lib.hid hq
  have HLIM := Lib.hid hlim
  clear ih hR hR0 hk hN hE hq hn hlim
  go_enter Tryd.func10, Tryd.ntmps10
  go_wp2_with fail
  go_loopg [1, 9] (q - i) (fun gk u1 u9 wr => ∃ (k : Nat) (acc cs' : List Cm), u1 = .int .i64 (k : Int) ∧ Hid (gk = q - k) ∧ i ≤ k ∧ k ≤ q ∧ acc.length ≤ k ∧ Hid (Nst (L.drop k) e cs' r c ∧ acc ++ cs' = cs) ∧ Hid (∃ R, wr.ownsRow w.heap.size tC 8 u9 acc.length R ∧ RowC wr (fun g => MdB w wr g ∧ u9.ownBlock ≠ some g) acc R) ∧ Hid (Below w.heap.size w wr))
  case atStart => exact ⟨i, [], cs, rfl, rfl, by omega, hi, by simp, ⟨HN0.out, rfl⟩, ⟨[], World.ownsRow_nil _ _ _ _, .nil⟩, Below.refl _ _⟩
  case round =>
    obtain ⟨k, acc, cs', rfl, HGK, hik, hkq, hacc, HNS, HOW, HB⟩ := hrel
    have hwz := HB.out.size
    by_cases hlt : k < q
    · obtain ⟨t, ht⟩ : ∃ t, L[k]? = some t := ⟨L[k]'(by rw [← HQ.out]; exact hlt), List.getElem?_eq_getElem _⟩
      have hLn : L ≠ [] := fun e => by rw [e] at ht; simp at ht
      obtain ⟨g, o, hA, hgl, hcell⟩ := HR.out.at_ hLn
      subst hA
      obtain ⟨d0, d1, d2, d3, d4⟩ := hcell k t ht wr (HB.out.mono HLIM.out)
      have HCELL := Lib.hid (fun w' (hb : Below wr.heap.size wr w') => hcell k t ht w' ((HB.out.trans (hb.mono hwz)).mono HLIM.out))
      have hk10 : t.k ≤ 10 := HK.out t (List.mem_of_getElem? ht)
      have hkI : (k : Int) < (q : Int) := by omega
      have hk0 : (0 : Int) ≤ (k : Int) := by omega
      have hdr : L.drop k = t :: L.drop (k + 1) := by
        obtain ⟨h1, h2⟩ := List.getElem?_eq_some_iff.1 ht
        rw [List.drop_eq_getElem_cons h1, h2]
      have HN := HNS.out.1
      rw [hdr] at HN
      have HN := Lib.hid HN
      have b10 := kdS_sg t.k hk10
      have q3 := beq_list t.t E
      have HEN := Lib.hid (fun x => c_ends t x hk10)
      by_cases hsg : e ≠ 0 ∧ sgn t e = true
      · have hs2 := hsg.2
        rw [opS_sgn hsg.1, Bool.and_eq_true, decide_eq_true_eq, decide_eq_true_eq, ← HE.out] at hs2
        rw [decide_eq_false hsg.1] at be
        rw [decide_eq_true hs2.1] at b10
        rw [decide_eq_true hs2.2] at q3
        have ben : (E.toList != []) = true := by rw [bne, be]; rfl
        have HX : Hid (cs' = [] ∧ r = L.drop (k + 1) ∧ c = true) := by
          cases HN.out with
          | endd h1 h2 => exact ⟨rfl, rfl, rfl⟩
          | opn h1 _ _ _ => exact absurd (h1 hsg.1) (by rw [hsg.2]; simp)
          | one h1 _ _ => exact absurd (h1 hsg.1) (by rw [hsg.2]; simp)
        clear hsg hs2 hdr hk10 hLn ht hcell
        go_wp2_with fail
        go_ret3
        refine ⟨u9, ?_, ?_, HB.out⟩
        · rw [HX.out.2.2, HX.out.2.1, List.length_drop, ← HQ.out, show q - (q - (k + 1)) = k + 1 by omega]; rfl
        · obtain ⟨R, h1, h2⟩ := HOW.out
          have h3 := HNS.out.2
          rw [HX.out.1, List.append_nil] at h3
          rw [← h3]
          exact RC.of_own h1 h2 (fun g h => h.1) (fun g _ h4 h5 => ⟨h4, h5⟩) rfl
      · have h3 : (E.toList == []) = true ∨ ((E.toList == []) = false ∧ ((kdS t.k).toList == [115, 105, 103, 110]) = false) ∨ ((E.toList == []) = false ∧ ((kdS t.k).toList == [115, 105, 103, 110]) = true ∧ (t.t.toList == E.toList) = false) := by
          rw [be, b10, q3]
          by_cases h1 : e = 0
          · exact .inl (decide_eq_true h1)
          · refine .inr ?_
            by_cases h2 : t.k = 10
            · refine .inr ⟨decide_eq_false h1, decide_eq_true h2, decide_eq_false fun h4 => hsg ⟨h1, ?_⟩⟩
              rw [opS_sgn h1, decide_eq_true h2, ← HE.out, decide_eq_true h4]; rfl
            · exact .inl ⟨decide_eq_false h1, decide_eq_false h2⟩
        have HNX : Hid ((clz t = 0 ∧ ∃ cs2, cs' = .mk t 0 [] false :: cs2 ∧ Nst (L.drop (k + 1)) e cs2 r c) ∨ (clz t ≠ 0 ∧ ∃ ks r1 c1 cs2, cs' = .mk t (clz t) ks c1 :: cs2 ∧ Nst (L.drop (k + 1)) (clz t) ks r1 c1 ∧ Nst r1 e cs2 r c)) := by
          cases HN.out with
          | endd h1 h2 => exact absurd ⟨h1, h2⟩ hsg
          | opn h1 h2 h3 h4 => exact .inr ⟨h2, _, _, _, _, rfl, h3, h4⟩
          | one h1 h2 h3 => exact .inl ⟨h2, _, rfl, h3⟩
        clear be b10 q3 hsg HN
        obtain ⟨K, hK⟩ : ∃ K, K = kdS t.k := ⟨_, rfl⟩
        rw [← hK] at h3 d0 HCELL HEN
        have HKK := Lib.hid hK
        clear hcell hdr hk10 ht hLn hK
        go_upto_region 3 with fail
        go_cut [33] from 11 to 66 (fun u33 wc => u33 = .bool false ∧ wr = wc)
        case first =>
          rcases h3 with h3 | ⟨h3, h4⟩ | ⟨h3, h4, h5⟩
          · have h3n : (E.toList != []) = false := by rw [bne, h3]; rfl
            go_wp2_with fail
            go_meet
            exact ⟨rfl, rfl⟩
          · have h3n : (E.toList != []) = true := by rw [bne, h3]; rfl
            go_wp2_with fail
            go_meet
            exact ⟨rfl, rfl⟩
          · have h3n : (E.toList != []) = true := by rw [bne, h3]; rfl
            go_wp2_with fail
            go_meet
            exact ⟨rfl, rfl⟩
        case rest =>
          obtain ⟨rfl, hw⟩ := hcut
          subst hw
          clear h3
          go_upto_region 5 with fail
          go_cut [10] from 11 to 66 (fun u10 wc => ∃ rr, u10 = .pointer (some ⟨rr, 0, none⟩) ∧ Hid (Bk wc rr tC #[.string K, .string t.t, .string t.u, .int .i64 (t.a : Int), .int .i64 (t.b : Int), .string (opS (clz t)), .slice none 0 0, .bool false] ∧ Below wr.heap.size wr wc ∧ wr.heap.size ≤ rr))
          case first =>
            go_region_held3 (fun w' => w'.cell? ⟨g, o + k * 5, none⟩ = some (.string K) ∧ w'.cell? ⟨g, o + k * 5 + 1, none⟩ = some (.string t.t) ∧ w'.cell? ⟨g, o + k * 5 + 2, none⟩ = some (.string t.u) ∧ w'.cell? ⟨g, o + k * 5 + 3, none⟩ = some (.int .i64 (t.a : Int)) ∧ w'.cell? ⟨g, o + k * 5 + 4, none⟩ = some (.int .i64 (t.b : Int)))
              (first | with_reducible exact HCELL.out _ HB2.out | with_reducible exact HCELL.out _ (bl_set (bl_set (bl_set (bl_set (bl_set (bl_set (bl_set (bl_set HB2.out _ _ (Nat.le_refl _) _) _ _ (Nat.le_refl _) _) _ _ (Nat.le_refl _) _) _ _ (Nat.le_refl _) _) _ _ (Nat.le_refl _) _) _ _ (Nat.le_refl _) _) _ _ (Nat.le_refl _) _) _ _ (Nat.le_refl _) _) | with_reducible exact HCELL.out _ (bl_alloc HB2.out _) | with_reducible exact HCELL.out _ (bl_drew (Below.refl _ _)) | with_reducible exact HCELL.out _ (bl_drew (bl_alloc (Below.refl _ _) _)))
              (first
                | (go_at_call 20; (with_reducible refine (HEN.out wr.drew).mono ?_); rintro e w2 ⟨rfl, hb2⟩; have HB2 : Hid (Below wr.heap.size wr w2) := (bl_drew (Below.refl _ _)).trans (hb2.mono (Nat.le_refl _)); clear hb2)
                | (go_at_call 20; (with_reducible refine (HEN.out (wr.alloc (.cells #[.string ⟨#[]⟩, .string ⟨#[]⟩, .string ⟨#[]⟩, .int .i64 0, .int .i64 0, .string ⟨#[]⟩, .slice none 0 0, .bool false] tC)).drew).mono ?_); rintro e w2 ⟨rfl, hb2⟩; have HB2 : Hid (Below wr.heap.size wr w2) := (bl_drew (bl_alloc (Below.refl _ _) _)).trans (hb2.mono (bl_drew (bl_alloc (Below.refl wr.heap.size wr) _)).size); have hb7 : Bk w2 wr.heap.size tC #[.string ⟨#[]⟩, .string ⟨#[]⟩, .string ⟨#[]⟩, .int .i64 0, .int .i64 0, .string ⟨#[]⟩, .slice none 0 0, .bool false] := (Bk.drew (Bk.new wr tC #[.string ⟨#[]⟩, .string ⟨#[]⟩, .string ⟨#[]⟩, .int .i64 0, .int .i64 0, .string ⟨#[]⟩, .slice none 0 0, .bool false])).below hb2 (Bk.drew (Bk.new wr tC #[.string ⟨#[]⟩, .string ⟨#[]⟩, .string ⟨#[]⟩, .int .i64 0, .int .i64 0, .string ⟨#[]⟩, .slice none 0 0, .bool false])).lt; have HB7 := Lib.hid hb7; have c0 := hb7.cell 0; have f0 := hb7.free 0; have c1 := hb7.cell 1; have f1 := hb7.free 1; have c2 := hb7.cell 2; have f2 := hb7.free 2; have c3 := hb7.cell 3; have f3 := hb7.free 3; have c4 := hb7.cell 4; have f4 := hb7.free 4; have c5 := hb7.cell 5; have f5 := hb7.free 5; have c6 := hb7.cell 6; have f6 := hb7.free 6; have c7 := hb7.cell 7; have f7 := hb7.free 7; have hl7 := hb7.lt; clear hb2 hb7))
            · go_wp2_with fail
              go_meet
              exact ⟨_, rfl, bk_new' _ _ _ rfl, bl_alloc HB2.out _, HB2.out.size⟩
            · go_wp2_with fail
              go_meet
              exact ⟨_, rfl, bk_set8 HB7.out _ _ _ _ _ _ _ _, bl_set8 HB2.out (Nat.le_refl _) _ _ _ _ _ _ _ _, Nat.le_refl _⟩
          case rest =>
            obtain ⟨rr, rfl, HC5⟩ := hcut
            have hb7 := HC5.out.1
            have hwcz := HC5.out.2.1.size
            have hrr := HC5.out.2.2
            have c0 := hb7.cell 0
            have c1 := hb7.cell 1
            have c2 := hb7.cell 2
            have c3 := hb7.cell 3
            have c4 := hb7.cell 4
            have c5 := hb7.cell 5
            have c6 := hb7.cell 6
            have c7 := hb7.cell 7
            have f6 := hb7.free 6
            have f7 := hb7.free 7
            have hl7 := hb7.lt
            have HB7 := Lib.hid hb7
            obtain ⟨R, hown, hrow⟩ := HOW.out
            have HOLT : Hid (∀ j, u9.ownBlock = some j → j < wr.heap.size) := fun j hj => (own_lt hown hj).2
            have HOWN : Hid (∀ W, Below wr.heap.size wr W → W.ownsRow w.heap.size tC 8 u9 acc.length R) := fun W hW => own_keep hown fun j hj => hW.block j (own_lt hown hj).2
            have HROW : Hid (∀ W, Below wr.heap.size wr W → RowC W (fun g => MdB w wr g ∧ u9.ownBlock ≠ some g) acc R) := fun W hW => hrow.blw hW (fun g h => h.1.2)
            have HC6 := Lib.hid HC5.out.2.1
            have HBC : Hid (Below w.heap.size w wc) := HB.out.trans (HC6.out.mono hwz)
            have HCS := Lib.hid HNS.out.2
            clear hb7 hown hrow d0 d1 d2 d3 d4 HOW HCELL HEN HC5
            have HBZ := Lib.hid (opS_nil (clz t))
            by_cases hz : clz t = 0
            · have hbz : ((opS (clz t)).toList == []) = true := by rw [HBZ.out]; exact decide_eq_true hz
              have hbn : ((opS (clz t)).toList != []) = false := by rw [bne, hbz]; rfl
              have HX : Hid (∃ cs2, cs' = .mk t 0 [] false :: cs2 ∧ Nst (L.drop (k + 1)) e cs2 r c) := by
                rcases HNX.out with ⟨_, h⟩ | ⟨h, _⟩
                · exact h
                · exact absurd hz h
              have HZ := Lib.hid hz
              obtain ⟨CE, hCE⟩ : ∃ CE, CE = opS (clz t) := ⟨_, rfl⟩
              rw [← hCE] at c5 hbz hbn
              have HCE := Lib.hid hCE
              have HOWC := Lib.hid (HOWN.out wc HC6.out)
              have hBW : w.heap.size ≤ wc.heap.size := HBC.out.size
              clear hz HBZ hCE HNX HNS
              go_wp2_with (at_builtin; refine wp_push rfl _ _ 30 rfl w.heap.size tC Tryd.underlying30 inf_rc rfl (by decide) wc _ acc.length R [.string K, .string t.t, .string t.u, .int .i64 (t.a : Int), .int .i64 (t.b : Int), .string CE, .slice none 0 0, .bool false] rfl rfl rfl HOWC.out rfl (by simp [Value.oneCell']) (by omega) (by omega) hBW ?_; intro v4 w4 hpush; have HPU := Lib.hid hpush; clear hpush)
              go_roundg (q - (k + 1))
              case measure => have := HGK.out; omega
              case rel =>
                obtain ⟨cs2, hx1, hx2⟩ := HX.out
                have hrcc : RowC wc (fun g => wr.heap.size ≤ g ∧ g < wc.heap.size) [.mk t 0 [] false] [.string K, .string t.t, .string t.u, .int .i64 (t.a : Int), .int .i64 (t.b : Int), .string CE, .slice none 0 0, .bool false] := by
                  rw [HKK.out, HCE.out, HZ.out]; exact RowC.one .nil (RdP.nil _ _ _)
                have hcs := HCS.out
                rw [hx1] at hcs
                refine ⟨k + 1, acc ++ [.mk t 0 [] false], cs2, by go_num, rfl, by omega, by omega, by simp; omega, ⟨hx2, by rw [List.append_assoc]; exact hcs⟩, ⟨_, by rw [List.length_append, List.length_singleton]; exact HPU.out.own, row_push HPU.out (HROW.out wc HC6.out) hrcc hwz hwcz HOLT.out⟩, HPU.out.below HBC.out (Nat.le_refl _) hBW⟩
            · have hbz : ((opS (clz t)).toList == []) = false := by rw [HBZ.out]; exact decide_eq_false hz
              have hbn : ((opS (clz t)).toList != []) = true := by rw [bne, hbz]; rfl
              obtain ⟨ks, r1, cl1, cs2, hx1, hx2, hx3⟩ : ∃ ks r1 cl1 cs2, cs' = .mk t (clz t) ks cl1 :: cs2 ∧ Nst (L.drop (k + 1)) (clz t) ks r1 cl1 ∧ Nst r1 e cs2 r c := by
                rcases HNX.out with ⟨h, _⟩ | ⟨_, h⟩
                · exact absurd h hz
                · exact h
              have HNEST := Lib.hid (IH.out (k + 1) (clz t) ks r1 cl1 wc (by omega) (by omega) HBC.out hx2)
              rw [show ((k + 1 : Nat) : Int) = (k : Int) + 1 by omega] at HNEST
              obtain ⟨m, hm⟩ : ∃ m, m = q - r1.length := ⟨_, rfl⟩
              have hsuf := Nst_suf hx2
              have hle := hsuf.length_le
              rw [List.length_drop, ← HQ.out] at hle
              have hr1 : r1 = L.drop m := by
                have h1 := List.suffix_iff_eq_drop.1 hsuf
                rw [List.drop_drop, List.length_drop, ← HQ.out] at h1
                rw [hm, show q - r1.length = k + 1 + (q - (k + 1) - r1.length) by omega]
                exact h1
              have hkm : k + 1 ≤ m := by omega
              have hmq : m ≤ q := by omega
              rw [← hm] at HNEST
              rw [hr1] at hx3
              have hcs := HCS.out
              rw [hx1] at hcs
              have HX := Lib.hid (And.intro hcs hx3)
              obtain ⟨CE, hCE⟩ : ∃ CE, CE = opS (clz t) := ⟨_, rfl⟩
              rw [← hCE] at c5 hbz hbn HNEST
              have HCE := Lib.hid hCE
              clear hz HBZ hCE HNX HNS hcs hx1 hx2 hx3 hr1 hm hsuf hle HCS
              have HB7 : Hid (Bk wc rr tC #[.string K, .string t.t, .string t.u, .int .i64 (t.a : Int), .int .i64 (t.b : Int), .string CE, .slice none 0 0, .bool false]) := by unfold Hid; rw [HCE.out]; exact HB7.out
              go_upto_region 9 with (go_at_call 10; refine (HNEST.out).mono ?_; rintro e' w6 ⟨v6, rfl, hrc, hb6⟩; obtain ⟨A6, n6, rfl, _⟩ := hrc.len; have HRC6 := Lib.hid hrc; have HB6 := Lib.hid hb6; have hb7 := HB7.out.below hb6 hl7; clear c0 c1 c2 c3 c4 c5 c6 c7 f6 f7 hl7; have c0 := hb7.cell 0; have c1 := hb7.cell 1; have c2 := hb7.cell 2; have c3 := hb7.cell 3; have c4 := hb7.cell 4; have c5 := hb7.cell 5; have c6 := hb7.cell 6; have c7 := hb7.cell 7; have f6 := hb7.free 6; have f7 := hb7.free 7; have hl7 := hb7.lt; have HB76 := Lib.hid hb7; clear hrc hb6 hb7)
              have hl7i := hl7
              obtain ⟨W, hW⟩ : ∃ W, W = (w6.setCell ⟨rr, 6, none⟩ (.slice A6 ks.length n6)).setCell ⟨rr, 7, none⟩ (.bool cl1) := ⟨_, rfl⟩
              rw [← hW]
              have h6z := HB6.out.size
              have hBW0 : Below wr.heap.size wr W := by
                rw [hW]
                exact bl_set (bl_set (HC6.out.trans (HB6.out.mono hwcz)) _ _ hrr _) _ _ hrr _
              have hb7 : Bk W rr tC #[.string K, .string t.t, .string t.u, .int .i64 (t.a : Int), .int .i64 (t.b : Int), .string CE, (.slice A6 ks.length n6), .bool cl1] := by
                rw [hW]
                have q1 : Bk (w6.setCell ⟨rr, 6, none⟩ (.slice A6 ks.length n6)) rr tC #[.string K, .string t.t, .string t.u, .int .i64 (t.a : Int), .int .i64 (t.b : Int), .string CE, (.slice A6 ks.length n6), .bool false] := HB76.out.set_ 6 (.slice A6 ks.length n6)
                exact q1.set_ 7 (.bool cl1)
              have hsz : W.heap.size = w6.heap.size := by rw [hW]; simp [World.setCell]
              have HRK : Hid (RC W (fun g => wr.heap.size ≤ g ∧ g < W.heap.size) (.slice A6 ks.length n6) ks) := by
                have hne : ∀ g, MdB wc w6 g → rr ≠ g := fun g hg => by have := hg.1; have := HB7.out.lt; omega
                have q1 := HRC6.out.keep (w' := W) (fun g o hg => by
                  rw [hW, World.cell?_setCell_far _ _ _ _ (hne g hg), World.cell?_setCell_far _ _ _ _ (hne g hg)])
                exact q1.mono fun g hg => ⟨Nat.le_trans hwcz hg.1, by rw [hsz]; exact hg.2⟩
              clear c0 c1 c2 c3 c4 c5 c6 c7 f6 f7 hl7
              have c0 := hb7.cell 0
              have c1 := hb7.cell 1
              have c2 := hb7.cell 2
              have c3 := hb7.cell 3
              have c4 := hb7.cell 4
              have c5 := hb7.cell 5
              have c6 := hb7.cell 6
              have c7 := hb7.cell 7
              have hl7 := hb7.lt
              have HBW0 := Lib.hid hBW0
              have HOWC := Lib.hid (HOWN.out W hBW0)
              have HBC2 : Hid (Below w.heap.size w W) := HB.out.trans (hBW0.mono hwz)
              have hBW : w.heap.size ≤ W.heap.size := HBC2.out.size
              have hwW : wr.heap.size ≤ W.heap.size := hBW0.size
              clear hW hb7 hBW0 hsz HB76 HB6 HRC6
              go_wp2_with (at_builtin; refine wp_push rfl _ _ 30 rfl w.heap.size tC Tryd.underlying30 inf_rc rfl (by decide) W _ acc.length R [.string K, .string t.t, .string t.u, .int .i64 (t.a : Int), .int .i64 (t.b : Int), .string CE, (.slice A6 ks.length n6), .bool cl1] rfl rfl rfl HOWC.out rfl (by simp [Value.oneCell']) (by omega) (by omega) hBW ?_; intro v4 w4 hpush; have HPU := Lib.hid hpush; clear hpush)
              go_roundg (q - m)
              case measure => have := HGK.out; omega
              case rel =>
                have hrcc : RowC W (fun g => wr.heap.size ≤ g ∧ g < W.heap.size) [.mk t (clz t) ks cl1] [.string K, .string t.t, .string t.u, .int .i64 (t.a : Int), .int .i64 (t.b : Int), .string CE, (.slice A6 ks.length n6), .bool cl1] := by
                  obtain ⟨RK, h1, h2⟩ := HRK.out
                  rw [HKK.out, HCE.out]; exact RowC.one h1 h2
                refine ⟨m, acc ++ [.mk t (clz t) ks cl1], cs2, by go_num, rfl, by omega, by omega, by simp; omega, ⟨HX.out.2, by rw [List.append_assoc]; exact HX.out.1⟩, ⟨_, by rw [List.length_append, List.length_singleton]; exact HPU.out.own, row_push HPU.out (HROW.out W HBW0.out) hrcc hwz hwW HOLT.out⟩, HPU.out.below HBC2.out (Nat.le_refl _) hBW⟩
    · have hkI : ¬ (k : Int) < (q : Int) := by omega
      have HX : Hid (cs' = [] ∧ r = [] ∧ c = false) := by
        have h := HNS.out.1
        rw [List.drop_eq_nil_of_le (by rw [← HQ.out]; omega)] at h
        exact h.nil_inv
      go_wp2_with fail
      go_ret3
      refine ⟨u9, ?_, ?_, HB.out⟩
      · rw [HX.out.2.2, HX.out.2.1, show q - ([] : List Tk).length = k by simp; omega]; rfl
      · obtain ⟨R, h1, h2⟩ := HOW.out
        have h3 := HNS.out.2
        rw [HX.out.1, List.append_nil] at h3
        rw [← h3]
        exact RC.of_own h1 h2 (fun g h => h.1) (fun g _ h4 h5 => ⟨h4, h5⟩) rfl
end Go.Proofs.YtmhejppfjngbhaaDoor
