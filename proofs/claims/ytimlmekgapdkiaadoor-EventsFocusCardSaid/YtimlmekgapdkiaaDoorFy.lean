/- who comes next, and over whom something points: the document's -/
import Derived.Test.YtimlmekgapdkiaaDoorFu
namespace Go.Proofs.YtimlmekgapdkiaaDoor
set_option linter.unusedVariables false
set_option linter.unusedSimpArgs false
open Go.RowKit Go.Cas

set_option maxRecDepth 100000 in
set_option maxHeartbeats 16000000 in
theorem c_FocusNext {w : World} {B R L cap : Nat} {τ : Nat → Nat} {M : List NV} {T : List Nod} {u : List Nat} {z : Int} (q : Int) (back : Bool) (h : RT B R L cap 0 (.slice none 0 0) [] τ M w) (hM : M.map NV.x = T) (hT : T.length ≤ 400) (hB : IxB T) (hu : ∀ x ∈ u, x < T.length) (hul : u.length ≤ 400) (hun : u.Nodup)
    (hU : ∀ (B R n : Nat) (τ : Nat → Nat) (w : World), RS B R T n τ w → Calls Tryd.prog 62 #[.pointer (some ⟨R, 0, none⟩), .int .i64 z] w (WyRet w u)) :
    Calls Tryd.prog 37 #[rAg L M.length cap, .int .i64 z, .int .i64 q, .bool back] w (NxRet (ordL T u) q back w) := by
  obtain ⟨w0, hw0⟩ : ∃ w0, w0 = w.alloc (.cells #[.slice (some ⟨L, 0, none⟩) M.length cap, .slice none 0 0] 36) := ⟨_, rfl⟩
  have hb0 : Below w.heap.size w w0 := by rw [hw0]; exact bl_alloc (Below.refl _ _) _
  have HFO := Lib.hid (c_FocusOrder (h.below hb0) hM hT hB hu hul hU)
  have HB0 := Lib.hid hb0
  have HW0 := Lib.hid hw0
  have hlen := ordL_len T u
  have HND := Lib.hid (ordL_nd T hun)
  obtain ⟨O, hO⟩ : ∃ O, O = ordL T u := ⟨_, rfl⟩
  rw [← hO] at HFO HND hlen ⊢
  have hO8 : O.length ≤ 800 := by omega
  obtain ⟨m0, hm0⟩ : ∃ m0, m0 = M.length := ⟨_, rfl⟩
  rw [← hm0] at HFO HW0 ⊢
  clear h hM hT hB hu hul hun hU hw0 hb0 hO hm0 hlen
  go_enter Tryd.func37, Tryd.ntmps37
  go_upto_region 1 with fail
  rw [← HW0.out]
  have HK0 : Hid (Bk w0 w.heap.size 36 #[.slice (some ⟨L, 0, none⟩) m0 cap, .slice none 0 0]) := by rw [HW0.out]; exact bk_new' _ _ _ rfl
  have k0 := HK0.out.cell 0
  have k1 := HK0.out.cell 1
  have kl := HK0.out.lt
  go_upto_region 2 with (go_at_call 36; refine (HFO.out).mono ?_; rintro e w1 ⟨v, rfl, ho, hb⟩; have HO := Lib.hid ho; have HB1 : Hid (Below w.heap.size w w1) := bl_trans HB0.out hb; clear ho hb)
  obtain ⟨_, A, c, rfl, hcap, hcell⟩ := RdS.of_own HO.out
  obtain ⟨n, hn⟩ : ∃ n, n = O.length := ⟨_, rfl⟩
  have HN := Lib.hid hn
  rw [← hn] at hcap hcell hO8 ⊢
  clear k0 k1 kl HK0 HW0 hn
  by_cases hn0 : n = 0
  · have hO0 : O = [] := List.eq_nil_of_length_eq_zero (by rw [← HN.out]; exact hn0)
    have HX : Hid (nxB O q back = -1) := by unfold Hid; rw [hO0]; unfold nxB nxL; cases back <;> rfl
    subst hn0
    clear hcell hO0
    go_wp2_with fail
    go_ret
    exact ⟨ret_int HX.out.symm, HB1.out⟩
  have hni : ¬ (n : Int) = 0 := by omega
  have nb : ((n : Int) == 0) = false := beq_eq_false_iff_ne.2 hni
  obtain ⟨g, o, rfl, hg, hc⟩ := hcell (by omega)
  have HC : Hid (∀ (k x : Nat), O[k]? = some x → w1.cell? ⟨g, o + k, none⟩ = some (.int .i64 (x : Int))) := fun k x hx => hc k _ (kic_get hx)
  clear hc
  go_wp2_with fail
  try rw [nb]
  go_loopw [11] (fun a wr => ∃ (i : Nat), a = .int .i64 (i : Int) ∧ i ≤ n ∧ wr = w1 ∧ Hid (∀ j y, j < i → O[j]? = some y → (y : Int) ≠ q)) (fun a _ => n - (intOf a).toNat)
  case atStart => exact ⟨0, rfl, by omega, rfl, fun j y hj => by omega⟩
  case round =>
    obtain ⟨i, rfl, hi, rfl, HA⟩ := hrel
    by_cases hlt : i < n
    · have hii : (i : Int) < (n : Int) := by omega
      obtain ⟨x, hx⟩ : ∃ x, O[i]? = some x := ⟨_, List.getElem?_eq_getElem (by rw [← HN.out]; exact hlt)⟩
      have HX := Lib.hid hx
      have c1 := HC.out i x hx
      by_cases he : (x : Int) = q
      · cases back
        · obtain ⟨k, hk⟩ : ∃ k, k = (i + 1) % n := ⟨_, rfl⟩
          have hkn : k < n := by rw [hk]; exact Nat.mod_lt _ (by omega)
          obtain ⟨y, hy⟩ : ∃ y, O[k]? = some y := ⟨_, List.getElem?_eq_getElem (by rw [← HN.out]; exact hkn)⟩
          have HF : Hid (nxB O q false = (y : Int)) := by unfold Hid; rw [← he]; exact nx_on HND.out HX.out (by rw [← HN.out, ← hk]; exact hy)
          have c2 := HC.out k y hy
          have htm : ((i : Int) + 1).tmod (n : Int) = (k : Int) := by
            rw [Int.tmod_eq_emod_of_nonneg (by omega), hk, Int.natCast_emod]; rfl
          have hki : (k : Int) < (n : Int) := by omega
          have v1 : IntKind.i64.wrap ((i : Int) + 1) = (i : Int) + 1 := IntWalk.i64_in _ (by omega)
          have v2 : IntKind.i64.wrap (k : Int) = (k : Int) := IntWalk.i64_in _ (by omega)
          have e2 : ((x : Int) == q) = true := by rw [beq_iff_eq]; exact he
          clear hx hk hy HX HC
          go_wp2_with fail
          go_ret
          exact ⟨ret_int HF.out.symm, HB1.out⟩
        · obtain ⟨k, hk⟩ : ∃ k, k = (i + n - 1) % n := ⟨_, rfl⟩
          have hkn : k < n := by rw [hk]; exact Nat.mod_lt _ (by omega)
          obtain ⟨y, hy⟩ : ∃ y, O[k]? = some y := ⟨_, List.getElem?_eq_getElem (by rw [← HN.out]; exact hkn)⟩
          have HF : Hid (nxB O q true = (y : Int)) := by unfold Hid; rw [← he]; exact nx_bwd HND.out HX.out (by rw [← HN.out, ← hk]; exact hy)
          have c2 := HC.out k y hy
          have v0 : IntKind.i64.wrap ((i : Int) + (n : Int)) = (i : Int) + (n : Int) := IntWalk.i64_in _ (by omega)
          have v1 : IntKind.i64.wrap ((i : Int) + (n : Int) - 1) = (i : Int) + (n : Int) - 1 := IntWalk.i64_in _ (by omega)
          have htm : ((i : Int) + (n : Int) - 1).tmod (n : Int) = (k : Int) := by
            rw [Int.tmod_eq_emod_of_nonneg (by omega), hk, Int.natCast_emod]
            congr 1; omega
          have hki : (k : Int) < (n : Int) := by omega
          have v2 : IntKind.i64.wrap (k : Int) = (k : Int) := IntWalk.i64_in _ (by omega)
          have e2 : ((x : Int) == q) = true := by rw [beq_iff_eq]; exact he
          clear hx hk hy HX HC
          go_wp2_with fail
          go_ret
          exact ⟨ret_int HF.out.symm, HB1.out⟩
      · have e2 : ((x : Int) == q) = false := by rw [beq_eq_false_iff_ne]; exact he
        have HE := Lib.hid he
        clear hx HC
        go_wp2_with fail
        go_roundw
        case rel =>
          refine ⟨i + 1, by go_num, by omega, (by first | rfl | trivial), fun j y hj hy => ?_⟩
          by_cases hji : j = i
          · subst hji
            have := HX.out
            rw [hy] at this
            rw [Option.some.inj this]; exact HE.out
          · exact HA.out j y (by omega) hy
        case measure => simp [intOf]; omega
    · obtain rfl : i = n := by omega
      have HNO : Hid (∀ (j y : Nat), O[j]? = some y → (y : Int) ≠ q) := fun j y hy => HA.out j y (by have := (List.getElem?_eq_some_iff.1 hy).1; rw [HN.out]; exact this) hy
      cases back
      · obtain ⟨x, hx⟩ : ∃ x, O[0]? = some x := ⟨_, List.getElem?_eq_getElem (by rw [← HN.out]; omega)⟩
        have HF : Hid (nxB O q false = (x : Int)) := nx_no HNO.out hx
        have c1 := HC.out 0 x hx
        rw [Nat.add_zero] at c1
        have h0n : 0 < i := by omega
        have h0i : (0 : Int) < (i : Int) := by omega
        clear hx HC
        go_wp2_with fail
        go_ret
        exact ⟨ret_int HF.out.symm, HB1.out⟩
      · obtain ⟨k, hk⟩ : ∃ k, i = k + 1 := ⟨i - 1, by omega⟩
        obtain ⟨x, hx⟩ : ∃ x, O[k]? = some x := ⟨_, List.getElem?_eq_getElem (by rw [← HN.out]; omega)⟩
        have HF : Hid (nxB O q true = (x : Int)) := nx_nob HNO.out (by rw [← HN.out, hk]; exact hx)
        have c1 := HC.out k x hx
        have v1 : IntKind.i64.wrap ((i : Int) - 1) = (k : Int) := by rw [IntWalk.i64_in _ (by omega)]; omega
        have hki : (k : Int) < (i : Int) := by omega
        have hk0 : ¬ (k : Int) < 0 := by omega
        clear hx HC hk
        go_wp2_with fail
        go_ret
        exact ⟨ret_int HF.out.symm, HB1.out⟩
/-- over whom something points -/
def hovL (T : List Nod) (l : List Nat) : List Nat := l.filter (fun k => decide ((ndA T k).k = 2))
theorem hovL_len (T : List Nod) (l : List Nat) : (hovL T l).length ≤ l.length := List.length_filter_le _ _
theorem hovL_snoc (T : List Nod) (l : List Nat) (x : Nat) : hovL T (l ++ [x]) = hovL T l ++ (if (ndA T x).k = 2 then [x] else []) := by
  unfold hovL
  rw [List.filter_append]
  congr 1
  by_cases e : (ndA T x).k = 2 <;> simp [e]
/-- where a climb stands -/
def Clm (T : List Nod) (l acc : List Nat) (a : Int) : Prop := (a < 0 ∧ l = acc.reverse) ∨ (∃ (q : Nat) (r : List Nat), a = (q : Int) ∧ q < T.length ∧ Go.Cas.Way T q r ∧ l = r ++ acc.reverse)
theorem Clm.up {T : List Nod} {d : Nat → Nat} {l acc : List Nat} {q : Nat} (hW : WF T d) (h : Clm T l acc (q : Int)) : q < T.length ∧ acc.length + 1 ≤ l.length ∧ Clm T l (acc ++ [q]) (ndA T q).pa ∧ wm d (ndA T q).pa < wm d (q : Int) := by
  rcases h with ⟨e, _⟩ | ⟨q', r, e, hq, hw, hl⟩
  · omega
  obtain rfl : q = q' := by omega
  have hrl : 0 < r.length := List.length_pos_iff.2 hw.ne
  refine ⟨hq, by rw [hl]; simp; omega, ?_, ?_⟩
  · cases hw with
    | root h => exact .inl ⟨h, by rw [hl]; simp⟩
    | @step _ p r' e hw =>
      have hpT : p < T.length := by
        rcases hW.pa q hq with e2 | ⟨_, e2⟩
        · omega
        · rw [e] at e2; exact e2
      exact .inr ⟨p, r', e, hpT, hw, by rw [hl]; simp⟩
  · unfold wm
    rw [if_neg (by omega : ¬ (q : Int) < 0)]
    by_cases h0 : (ndA T q).pa < 0
    · rw [if_pos h0]; omega
    · rw [if_neg h0]
      have := hW.ac q hq (by omega)
      have e : ((q : Int)).toNat = q := rfl
      rw [e]; omega
theorem Clm.done {T : List Nod} {l acc : List Nat} {a : Int} (h : Clm T l acc a) (ha : a < 0) : acc = l.reverse := by
  rcases h with ⟨_, e⟩ | ⟨q, _, e, _⟩
  · rw [e]; simp
  · omega
theorem Clm.nat {T : List Nod} {l acc : List Nat} {a : Int} (h : Clm T l acc a) (ha : ¬ a < 0) : ∃ q : Nat, a = (q : Int) ∧ q < T.length := by
  rcases h with ⟨e, _⟩ | ⟨q, _, e, hq, _⟩
  · omega
  · exact ⟨q, e, hq⟩
/-- what pointing at a number tells -/
def hvA (T : List Nod) (z : Int) (l : List Nat) : List Nat := if 0 ≤ z ∧ z < (T.length : Int) ∧ ((ndA T z.toNat).k = 2 ∨ (ndA T z.toNat).k = 3) then hovL T l.reverse else []
set_option maxRecDepth 100000 in
set_option maxHeartbeats 8000000 in
theorem c_Hover {w : World} {B R i : Nat} {F : Nat → Prop} {T : List Nod} {d : Nat → Nat} {D : List (Value × List Nod)} {l : List Nat} (h : TS B R T D F w) (hW : WF T d) (hT : T.length ≤ 400) (hi : i < T.length) (hl : Go.Cas.Way T i l) (hll : l.length ≤ 1000) :
    Calls Tryd.prog 38 #[.pointer (some ⟨R, 0, none⟩), .int .i64 (i : Int)] w (WyRet w (if (ndA T i).k = 2 ∨ (ndA T i).k = 3 then hovL T l.reverse else [])) := by
  have H := Lib.hid h
  have HW := Lib.hid hW
  have HT := Lib.hid hT
  have HLL := Lib.hid hll
  have HC0 : Hid (Clm T l [] (i : Int)) := .inr ⟨i, l, rfl, hi, hl, by simp⟩
  have HKI : Hid (∀ (k : Nat) (W' : World), k < T.length → TS B R T D F W' → Calls Tryd.prog 55 #[.pointer (some ⟨R, 0, none⟩), .int .i64 (k : Int)] W' fun e w' => e = .returned (.int .i64 (ndA T k).k) ∧ W' = w') := fun k W' hk ht => c_Kind ht hT (ndA_get hk)
  have HPA : Hid (∀ (k : Nat) (W' : World), k < T.length → TS B R T D F W' → Calls Tryd.prog 44 #[.pointer (some ⟨R, 0, none⟩), .int .i64 (k : Int)] W' fun e w' => e = .returned (.int .i64 (ndA T k).pa) ∧ W' = w') := fun k W' hk ht => c_Parent ht hT (ndA_get hk)
  have HK0 := Lib.hid (HKI.out i w hi h)
  obtain ⟨xk, hxk⟩ : ∃ xk, xk = (ndA T i).k := ⟨_, rfl⟩
  rw [← hxk] at HK0 ⊢
  clear h hW hT hi hl hxk
  by_cases hk : xk = 2 ∨ xk = 3
  case neg =>
    have k2 : ¬ xk = 2 := fun e => hk (.inl e)
    have k3 : ¬ xk = 3 := fun e => hk (.inr e)
    have b2 : (xk != 2) = true := by rw [bne_iff_ne]; exact k2
    have b3 : (xk != 3) = true := by rw [bne_iff_ne]; exact k3
    rw [if_neg hk]
    clear hk
    go_enter Tryd.func38, Tryd.ntmps38
    go_wp2_with (go_at_call 55; refine (HK0.out).mono ?_; rintro e w' ⟨rfl, rfl⟩)
    go_ret
    exact ⟨_, rfl, World.ownsRow_nil _ _ _ _, Below.refl _ _⟩
  case pos =>
    rw [if_pos hk]
    go_enter Tryd.func38, Tryd.ntmps38
    go_upto_region 1 with fail
    go_cut [19] (fun v19 wx => v19 = .bool false ∧ wx = w)
    case first =>
      rcases hk with rfl | rfl
      · go_wp2_with (go_at_call 55; refine (HK0.out).mono ?_; rintro e w' ⟨rfl, rfl⟩)
        go_meet
        exact ⟨rfl, rfl⟩
      · go_wp2_with (go_at_call 55; refine (HK0.out).mono ?_; rintro e w' ⟨rfl, rfl⟩)
        go_meet
        exact ⟨rfl, rfl⟩
    case rest =>
      obtain ⟨rfl, hwc⟩ := hcut
      obtain rfl : w = wc := hwc.symm
      clear hk HK0
      go_wp2_with fail
      go_loopw [1, 5] (fun c v wr => ∃ (a : Int) (acc : List Nat), c = .int .i64 a ∧ acc.length ≤ l.length ∧ Hid (Clm T l acc a) ∧ Hid (wr.ownsRow w.heap.size 3 1 v (hovL T acc).length (kic (hovL T acc))) ∧ Hid (Below w.heap.size w wr)) (fun c _ _ => wm d (intOf c))
      case atStart => exact ⟨(i : Int), [], rfl, by simp, HC0.out, World.ownsRow_nil _ _ _ _, Below.refl _ _⟩
      case round =>
        obtain ⟨a, acc, rfl, hal, HR, HO, HB⟩ := hrel
        by_cases ha : a < 0
        · have ha2 : ¬ 0 ≤ a := by omega
          have HE : Hid (acc = l.reverse) := HR.out.done ha
          clear ha
          go_wp2_with fail
          go_ret
          exact ⟨_, rfl, by rw [← HE.out]; exact HO.out, HB.out⟩
        · obtain ⟨q, rfl, hq⟩ := HR.out.nat ha
          obtain ⟨_, hal2, hup, hms⟩ := Clm.up HW.out HR.out
          have HUP := Lib.hid hup
          have HMS := Lib.hid hms
          have HSN := Lib.hid (hovL_snoc T acc q)
          have HVL := Lib.hid (hovL_len T acc)
          have HQ := Lib.hid hq
          have ht := H.out.below HB.out
          have HTr := Lib.hid ht
          have HKQ := Lib.hid (HKI.out q wr hq ht)
          have hbz : w.heap.size ≤ wr.heap.size := HB.out.size
          have hb1 : (hovL T acc).length ≤ 1000 := by have := HLL.out; have := HVL.out; omega
          have ha3 : 0 ≤ (q : Int) := by omega
          obtain ⟨A, hA⟩ : ∃ A, A = hovL T acc := ⟨_, rfl⟩
          rw [← hA] at HO HSN hb1
          obtain ⟨qk, hqk⟩ : ∃ qk, qk = (ndA T q).k := ⟨_, rfl⟩
          rw [← hqk] at HKQ HSN
          obtain ⟨qp, hqp⟩ : ∃ qp, qp = (ndA T q).pa := ⟨_, rfl⟩
          have HPQ : Hid (∀ W', TS B R T D F W' → Calls Tryd.prog 44 #[.pointer (some ⟨R, 0, none⟩), .int .i64 (q : Int)] W' fun e w' => e = .returned (.int .i64 qp) ∧ W' = w') := fun W' ht => by rw [hqp]; exact HPA.out q W' HQ.out ht
          rw [← hqp] at HUP HMS
          clear ha hq hup hms ht hA hqk hqp HVL
          by_cases he : qk = 2
          · have HS2 : Hid (hovL T (acc ++ [q]) = A ++ [q]) := by unfold Hid; rw [HSN.out, if_pos he]
            have he2 : (qk == 2) = true := by rw [beq_iff_eq]; exact he
            go_wp2_with (first
              | (go_at_call 55; refine (HKQ.out).mono ?_; rintro e w' ⟨rfl, rfl⟩)
              | (at_builtin; refine wp_push rfl _ _ 75 rfl w.heap.size 3 Tryd.underlying75 inf_I rfl (by decide) wr u5 A.length (kic A) [.int .i64 (q : Int)] rfl rfl rfl HO.out rfl (by simp [Value.oneCell']) (by omega) (by omega) hbz ?_; intro v5 w5 hpush; have HPU := Lib.hid hpush; have HT5 : Hid (TS B R T D F w5) := HTr.out.kept (Kept.grown hpush.grown (fun k => u5.ownBlock = some k) (fun k e => e)) (fun k e => H.out.new_ (own_lt HO.out e).1); clear hpush)
              | (go_at_call 44; refine (HPQ.out _ HT5.out).mono ?_; rintro e w' ⟨rfl, rfl⟩))
            go_roundw
            case rel =>
              refine ⟨qp, acc ++ [q], rfl, by simp; omega, HUP.out, ?_, HPU.out.below HB.out (Nat.le_refl _) hbz⟩
              rw [HS2.out, List.length_append, kic_app]
              exact HPU.out.own
            case measure => exact HMS.out
          · have HS2 : Hid (hovL T (acc ++ [q]) = A) := by unfold Hid; rw [HSN.out, if_neg he]; simp
            have he2 : (qk == 2) = false := by rw [beq_eq_false_iff_ne]; exact he
            go_wp2_with (first
              | (go_at_call 55; refine (HKQ.out).mono ?_; rintro e w' ⟨rfl, rfl⟩)
              | (go_at_call 44; refine (HPQ.out _ HTr.out).mono ?_; rintro e w' ⟨rfl, rfl⟩))
            go_roundw
            case rel =>
              refine ⟨qp, acc ++ [q], rfl, by simp; omega, HUP.out, ?_, HB.out⟩
              rw [HS2.out]
              exact HO.out
            case measure => exact HMS.out
end Go.Proofs.YtimlmekgapdkiaaDoor
