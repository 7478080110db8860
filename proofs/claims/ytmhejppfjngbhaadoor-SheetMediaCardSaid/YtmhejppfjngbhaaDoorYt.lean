/- sheets: what closes: the program's -/
import Derived.Test.YtmhejppfjngbhaaDoorYs
namespace Go.Proofs.YtmhejppfjngbhaaDoor
set_option linter.unusedVariables false
set_option linter.unusedSimpArgs false
open Go.RowKit Go.Cas

theorem inf_str : (Tryd.prog.info? 9).map (fun i => (i.zero, i.size, i.bytes)) = some (some (.string ⟨#[]⟩), 1, 16) := by kernel_rfl
def opV (st : List Nat) : List Value := st.reverse.map fun c => .string (opS c)
theorem opV_len (st : List Nat) : (opV st).length = st.length := by simp [opV]
theorem opV_cons (c : Nat) (st : List Nat) : opV (c :: st) = opV st ++ [.string (opS c)] := by simp [opV]
theorem clo_nil (st : List Nat) (i : Nat) : clo st [] i = i := by unfold clo; rfl
theorem clo_op {st : List Nat} {t : Tk} {l : List Tk} {i : Nat} (h : clz t ≠ 0) : clo st (t :: l) i = clo (clz t :: st) l (i + 1) := by
  conv => lhs; unfold clo
  simp [h]
theorem clo_no {t : Tk} {l : List Tk} {i : Nat} (h : clz t = 0) : clo [] (t :: l) i = i := by
  conv => lhs; unfold clo
  simp [h]
theorem clo_in {o : Nat} {r : List Nat} {t : Tk} {l : List Tk} {i : Nat} (h : clz t = 0) (hs : sgn t o = false) : clo (o :: r) (t :: l) i = clo (o :: r) l (i + 1) := by
  conv => lhs; unfold clo
  simp [h, hs]
theorem clo_out {o : Nat} {r : List Nat} {t : Tk} {l : List Tk} {i : Nat} (h : clz t = 0) (hs : sgn t o = true) : clo (o :: r) (t :: l) i = if r = [] then i else clo r l (i + 1) := by
  conv => lhs; unfold clo
  simp [h, hs]
theorem isS_op {t : Tk} {c : Nat} (h : c ≠ 0) : isS t (opS c) = sgn t c := by
  unfold isS opS sgn; rw [if_neg h]
theorem drop_at {l : List Tk} {i : Nat} {t : Tk} (h : l[i]? = some t) : l.drop i = t :: l.drop (i + 1) := by
  obtain ⟨hi, he⟩ := List.getElem?_eq_some_iff.1 h
  rw [List.drop_eq_getElem_cons hi, he]
set_option maxHeartbeats 8000000 in
set_option maxRecDepth 100000 in
theorem c_Close (l : List Tk) (v : Value) (lim : Nat) (w : World) (h : RT w lim v l) (hlim : lim ≤ w.heap.size) (hl : l.length ≤ 1000000000) (hne : l ≠ []) : Calls Tryd.prog 34 #[v, .int .i64 0] w fun e w' => e = .returned (.int .i64 (clo [] l 0 : Int)) ∧ Below w.heap.size w w' := by
  obtain ⟨t0, l0, rfl⟩ := List.exists_cons_of_ne_nil hne
  obtain ⟨g, o, c, rfl, hc, hg, hcell⟩ := h.cons
  obtain ⟨l, hle⟩ : ∃ l, l = t0 :: l0 := ⟨_, rfl⟩
  have hn : l0.length + 1 = l.length := by rw [hle]; rfl
  rw [← hle] at hcell hl ⊢
  have HG : Hid (∀ i t, l[i]? = some t → ∀ w', Below w.heap.size w w' → w'.cell? ⟨g, o + i * 5, none⟩ = some (.int .i64 (t.k : Int)) ∧ w'.cell? ⟨g, o + i * 5 + 1, none⟩ = some (.string t.t) ∧ w'.cell? ⟨g, o + i * 5 + 2, none⟩ = some (.string t.u) ∧ w'.cell? ⟨g, o + i * 5 + 3, none⟩ = some (.int .i64 (t.a : Int)) ∧ w'.cell? ⟨g, o + i * 5 + 4, none⟩ = some (.int .i64 (t.b : Int))) := by
    intro i t hi w' hb
    have hgz : g < w.heap.size := by omega
    have k := fun j hj => (hb.cell (p := ⟨g, o + (i * 5 + j), none⟩) hgz).trans (hcell i t j hi hj)
    exact ⟨k 0 (by decide), k 1 (by decide), k 2 (by decide), k 3 (by decide), k 4 (by decide)⟩
  have HZ := Lib.hid (Nat.lt_of_lt_of_le hg hlim)
  rw [hn] at hc
  rw [hn]
  have hl1 : 1 ≤ l.length := by omega
  clear h hcell hle hn hg hlim hne
  obtain ⟨n, hnn⟩ : ∃ n, n = l.length := ⟨_, rfl⟩
  rw [← hnn] at hl hc hl1 ⊢
  have HN := Lib.hid hnn
  clear hnn
  go_enter Tryd.func34, Tryd.ntmps34
  go_wp2_with fail
  go_loopw [1, 5] (fun x u wr => ∃ (i : Nat) (st : List Nat), x = .int .i64 (i : Int) ∧ i ≤ n ∧ st.length ≤ i ∧ (st = [] → i < n) ∧ Hid (clo [] l 0 = clo st (l.drop i) i ∧ ∀ c ∈ st, c ≠ 0) ∧ (st = [] → u = .slice none 0 0) ∧ Hid (wr.ownsRow w.heap.size 9 1 u st.length (opV st) ∧ Below w.heap.size w wr)) (fun x _ _ => n - (intOf x).toNat)
  case atStart => exact ⟨0, [], rfl, by omega, by simp, fun _ => by omega, ⟨by rw [List.drop_zero], by simp⟩, fun _ => rfl, World.ownsRow_nil _ _ _ _, Below.refl _ _⟩
  case round =>
    obtain ⟨i, st, rfl, hi, hst, hs0, HC, hu, HOW⟩ := hrel
    have hwz := HOW.out.2.size
    by_cases hlt : i < n
    · have hiI : (i : Int) < (n : Int) := by omega
      have hi0 : 0 ≤ (i : Int) := by omega
      obtain ⟨t, ht⟩ : ∃ t, l[i]? = some t := ⟨l[i]'(by rw [← HN.out]; exact hlt), List.getElem?_eq_getElem _⟩
      obtain ⟨d0, d1, d2, d3, d4⟩ := HG.out i t ht wr HOW.out.2
      have hdr := drop_at ht
      have HCL := Lib.hid (c_closer t wr)
      have HTI := Lib.hid ht
      by_cases hz : clz t = 0
      · have hop : opS (clz t) = ⟨#[]⟩ := by rw [hz]; rfl
        rw [hop] at HCL
        cases st with
        | nil =>
          have hu0 := hu rfl
          subst hu0
          have HR : Hid (clo [] l 0 = i) := by unfold Hid; rw [HC.out.1, hdr, clo_no hz]
          clear hop hz hdr ht
          go_upto_region 5 with (go_at_call 53; refine (HCL.out).mono ?_; rintro e w2 ⟨rfl, hb2⟩; have HB2 := Lib.hid (HOW.out.2.trans (hb2.mono hwz)); clear hb2)
          go_wp2_with fail
          go_quiet (fail)
          go_wp2_with fail
          go_ret
          exact ⟨ret_int (by rw [HR.out]), bl_drewN HB2.out _⟩
        | cons oo r =>
          have hown := HOW.out.1
          obtain ⟨g5, c5, he, hg50, hg5l⟩ := hown.form (by simp)
          subst he
          have hooz : oo ≠ 0 := HC.out.2 oo (by simp)
          have HS5 : Hid (∀ w', Below wr.heap.size wr w' → w'.cell? ⟨g, o + i * 5, none⟩ = some (.int .i64 (t.k : Int)) ∧ w'.cell? ⟨g, o + i * 5 + 1, none⟩ = some (.string t.t) ∧ w'.cell? ⟨g, o + i * 5 + 2, none⟩ = some (.string t.u) ∧ w'.cell? ⟨g, o + i * 5 + 3, none⟩ = some (.int .i64 (t.a : Int)) ∧ w'.cell? ⟨g, o + i * 5 + 4, none⟩ = some (.int .i64 (t.b : Int)) ∧ w'.cell? ⟨g5, r.length, none⟩ = some (.string (opS oo))) := by
            intro w' hb
            obtain ⟨e0, e1, e2, e3, e4⟩ := HG.out i t ht w' (HOW.out.2.trans (hb.mono hwz))
            refine ⟨e0, e1, e2, e3, e4, ?_⟩
            have h1 : (opV (oo :: r))[r.length]? = some (.string (opS oo)) := by
              rw [opV_cons, List.getElem?_append_right (by rw [opV_len]; exact Nat.le_refl _), opV_len]; simp
            have h2 := hown.cells (g := g5) rfl _ _ h1
            have e : (⟨g5, 0, none⟩ : Addr).add r.length = ⟨g5, r.length, none⟩ := by
              unfold Addr.add; split
              · rename_i h; rw [h]
              · simp
            rw [e] at h2
            exact (hb.cell (p := ⟨g5, r.length, none⟩) hg5l).trans h2
          have HIS := Lib.hid (fun x => c_Is t (opS oo) x)
          rw [isS_op hooz] at HIS
          have HOWN := Lib.hid hown
          have hrI : (r.length : Int) + 1 - 1 = (r.length : Int) := by omega
          have hrn : r.length + 1 ≤ i := hst
          rw [List.length_cons]
          obtain ⟨q, hq⟩ : ∃ q, q = r.length := ⟨_, rfl⟩
          rw [← hq] at HS5 hrI hrn ⊢
          have v1 : IntKind.i64.wrap ((q : Int) + 1 - 1) = (q : Int) := by rw [hrI]; exact IntWalk.i64_in _ (by omega)
          have v2 : IntKind.i64.wrap (q : Int) = (q : Int) := IntWalk.i64_in _ (by omega)
          have hq1 : (q : Int) < (q : Int) + 1 := by omega
          have hq0 : 0 ≤ (q : Int) := by omega
          have HQ := Lib.hid hq
          clear hop hown hu hq
          have hqc : q + 1 ≤ c5 := by
            obtain ⟨_, A, c', e, hnc, _⟩ := RdS.of_own HOWN.out
            injection e with _ _ e
            rw [e, HQ.out]; exact hnc
          by_cases hsg : sgn t oo = true
          · rw [hsg] at HIS
            by_cases hr0 : r = []
            · have HR : Hid (clo [] l 0 = i) := by unfold Hid; rw [HC.out.1, hdr, clo_out hz hsg, if_pos hr0]
              have HQ0 : Hid (q = 0) := by unfold Hid; rw [HQ.out, hr0]; rfl
              clear hr0 hz hsg hdr ht
              go_upto_region 5 with (go_at_call 53; refine (HCL.out).mono ?_; rintro e w2 ⟨rfl, hb2⟩; have HB2 := Lib.hid hb2; clear hb2)
              go_upto_region 8 with fail
              go_region_held3 (fun w' => w'.cell? ⟨g, o + i * 5, none⟩ = some (.int .i64 (t.k : Int)) ∧ w'.cell? ⟨g, o + i * 5 + 1, none⟩ = some (.string t.t) ∧ w'.cell? ⟨g, o + i * 5 + 2, none⟩ = some (.string t.u) ∧ w'.cell? ⟨g, o + i * 5 + 3, none⟩ = some (.int .i64 (t.a : Int)) ∧ w'.cell? ⟨g, o + i * 5 + 4, none⟩ = some (.int .i64 (t.b : Int)) ∧ w'.cell? ⟨g5, q, none⟩ = some (.string (opS oo)))
                (first | exact HS5.out _ HB2.out | exact HS5.out _ (bl_drew HB2.out) | exact HS5.out _ HB3.out)
                (first | (go_at_call 8; refine (HIS.out _).mono ?_; rintro e w3 ⟨rfl, hb3⟩; have HB3 : Hid (Below wr.heap.size wr w3) := (bl_drew HB2.out).trans (hb3.mono (bl_drew HB2.out).size); clear hb3))
              have hq00 : q = 0 := HQ0.out
              subst hq00
              go_wp2_with fail
              go_ret
              exact ⟨ret_int (by rw [HR.out]), HOW.out.2.trans (HB3.out.mono hwz)⟩
            · have HR : Hid (clo [] l 0 = clo r (l.drop (i + 1)) (i + 1)) := by unfold Hid; rw [HC.out.1, hdr, clo_out hz hsg, if_neg hr0]
              have hq00 : ¬ (q : Int) = 0 := by
                have : r.length ≠ 0 := fun e => hr0 (List.eq_nil_of_length_eq_zero e)
                rw [HQ.out]; omega
              have hqb : ((q : Int) == 0) = false := beq_eq_false_iff_ne.2 hq00
              have HNE := Lib.hid hr0
              clear hr0 hz hsg hdr ht
              go_upto_region 5 with (go_at_call 53; refine (HCL.out).mono ?_; rintro e w2 ⟨rfl, hb2⟩; have HB2 := Lib.hid hb2; clear hb2)
              go_upto_region 8 with fail
              go_region_held3 (fun w' => w'.cell? ⟨g, o + i * 5, none⟩ = some (.int .i64 (t.k : Int)) ∧ w'.cell? ⟨g, o + i * 5 + 1, none⟩ = some (.string t.t) ∧ w'.cell? ⟨g, o + i * 5 + 2, none⟩ = some (.string t.u) ∧ w'.cell? ⟨g, o + i * 5 + 3, none⟩ = some (.int .i64 (t.a : Int)) ∧ w'.cell? ⟨g, o + i * 5 + 4, none⟩ = some (.int .i64 (t.b : Int)) ∧ w'.cell? ⟨g5, q, none⟩ = some (.string (opS oo)))
                (first | exact HS5.out _ HB2.out | exact HS5.out _ (bl_drew HB2.out) | exact HS5.out _ HB3.out)
                (first | (go_at_call 8; refine (HIS.out _).mono ?_; rintro e w3 ⟨rfl, hb3⟩; have HB3 : Hid (Below wr.heap.size wr w3) := (bl_drew HB2.out).trans (hb3.mono (bl_drew HB2.out).size); clear hb3))
              go_wp2_with fail
              go_roundw
              case rel =>
                have h1 := own_keep HOWN.out fun j hj => HB3.out.block j (own_lt HOWN.out hj).2
                rw [opV_cons, List.length_cons] at h1
                exact ⟨i + 1, r, by go_num, by omega, by rw [← HQ.out]; omega, fun e => absurd e HNE.out, ⟨HR.out, fun c hc => HC.out.2 c (List.mem_cons_of_mem _ hc)⟩, fun e => absurd e HNE.out, by rw [HQ.out]; exact own_less h1 (by rw [opV_len]; omega), HOW.out.2.trans (HB3.out.mono hwz)⟩
              case measure => simp [intOf]; omega
          · rw [Bool.not_eq_true] at hsg
            rw [hsg] at HIS
            have HR : Hid (clo [] l 0 = clo (oo :: r) (l.drop (i + 1)) (i + 1)) := by unfold Hid; rw [HC.out.1, hdr, clo_in hz hsg]
            have hq00 : ¬ (q : Int) + 1 = 0 := by omega
            have hqb : ((q : Int) + 1 == 0) = false := beq_eq_false_iff_ne.2 hq00
            clear hz hsg hdr ht
            go_upto_region 5 with (go_at_call 53; refine (HCL.out).mono ?_; rintro e w2 ⟨rfl, hb2⟩; have HB2 := Lib.hid hb2; clear hb2)
            go_upto_region 8 with fail
            go_region_held3 (fun w' => w'.cell? ⟨g, o + i * 5, none⟩ = some (.int .i64 (t.k : Int)) ∧ w'.cell? ⟨g, o + i * 5 + 1, none⟩ = some (.string t.t) ∧ w'.cell? ⟨g, o + i * 5 + 2, none⟩ = some (.string t.u) ∧ w'.cell? ⟨g, o + i * 5 + 3, none⟩ = some (.int .i64 (t.a : Int)) ∧ w'.cell? ⟨g, o + i * 5 + 4, none⟩ = some (.int .i64 (t.b : Int)) ∧ w'.cell? ⟨g5, q, none⟩ = some (.string (opS oo)))
              (first | exact HS5.out _ HB2.out | exact HS5.out _ (bl_drew HB2.out) | exact HS5.out _ HB3.out)
              (first | (go_at_call 8; refine (HIS.out _).mono ?_; rintro e w3 ⟨rfl, hb3⟩; have HB3 : Hid (Below wr.heap.size wr w3) := (bl_drew HB2.out).trans (hb3.mono (bl_drew HB2.out).size); clear hb3))
            go_wp2_with fail
            go_roundw
            case rel =>
              have h1 := own_keep HOWN.out fun j hj => HB3.out.block j (own_lt HOWN.out hj).2
              exact ⟨i + 1, oo :: r, by go_num, by omega, by rw [List.length_cons, ← HQ.out]; omega, fun e => absurd e (by simp), ⟨HR.out, HC.out.2⟩, fun e => absurd e (by simp), by rw [HQ.out]; exact h1, HOW.out.2.trans (HB3.out.mono hwz)⟩
            case measure => simp [intOf]; omega
      · have HC2 : Hid (clo [] l 0 = clo (clz t :: st) (l.drop (i + 1)) (i + 1)) := by unfold Hid; rw [HC.out.1, hdr, clo_op hz]
        obtain ⟨cl, hcl⟩ : ∃ cl, cl = opS (clz t) := ⟨_, rfl⟩
        rw [← hcl] at HCL
        have HCS := Lib.hid hcl
        have hcne : (cl.toList == []) = false := by rw [hcl]; unfold opS; rw [if_neg hz, ByteArray.toList_eq]; rfl
        have HZ1 := Lib.hid hz
        clear hcl hz hdr ht
        go_upto_region 5 with (go_at_call 53; refine (HCL.out).mono ?_; rintro e w2 ⟨rfl, hb2⟩; have HB2 := Lib.hid (HOW.out.2.trans (hb2.mono hwz)); have HOW2 := Lib.hid (own_keep HOW.out.1 fun j hj => hb2.block j (own_lt HOW.out.1 hj).2); clear hb2)
        have hBW := HB2.out.size
        have hlst : st.length ≤ 1000000000 := by omega
        go_wp2_with (at_builtin; refine wp_push rfl _ _ 73 rfl w.heap.size 9 Tryd.underlying73 inf_str rfl (by decide) w2 _ st.length (opV st) [.string cl] rfl rfl rfl HOW2.out rfl (by simp [Value.oneCell']) (by omega) (by omega) hBW ?_; intro v4 w4 hpush; obtain ⟨g4, c4, rfl, _, _⟩ := hpush.own.form (by omega); have HPU := Lib.hid hpush; clear hpush)
        go_roundw
        case rel => exact ⟨i + 1, clz t :: st, by go_num, by omega, by simp; omega, fun e => absurd e (by simp), ⟨HC2.out, fun c hc => by
          rcases List.mem_cons.1 hc with rfl | hc
          · exact HZ1.out
          · exact HC.out.2 c hc⟩, fun e => absurd e (by simp), by rw [opV_cons, ← HCS.out, List.length_cons]; exact HPU.out.own, HPU.out.below HB2.out (Nat.le_refl _) hBW⟩
        case measure => simp [intOf]; omega
    · have hiI : ¬ (i : Int) < (n : Int) := by omega
      have HR : Hid (clo [] l 0 = i) := by unfold Hid; rw [HC.out.1, List.drop_eq_nil_of_le (by rw [← HN.out]; omega), clo_nil]
      go_wp2_with fail
      go_ret
      exact ⟨ret_int (by rw [HR.out]), HOW.out.2⟩
end Go.Proofs.YtmhejppfjngbhaaDoor
