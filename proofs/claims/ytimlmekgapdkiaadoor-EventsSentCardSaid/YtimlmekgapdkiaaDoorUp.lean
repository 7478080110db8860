/- the document's tree: plain facts of Put; the document's tree: a node without a parent is put -/
import Derived.Test.YtimlmekgapdkiaaDoorUn
import Derived.Test.YtimlmekgapdkiaaDoorbase
namespace Go.Proofs.YtimlmekgapdkiaaDoor
set_option linter.unusedVariables false
set_option linter.unusedSimpArgs false
open Go.RowKit Go.Cas

theorem nd_ext {T T' : List Nod} (hl : T.length = T'.length) (h : ∀ k, k < T.length → ndA T k = ndA T' k) : T = T' := by
  refine List.ext_getElem hl fun k h1 h2 => ?_
  have := h k h1
  unfold ndA at this
  rw [List.getD_eq_getElem?_getD, List.getD_eq_getElem?_getD, List.getElem?_eq_getElem h1, List.getElem?_eq_getElem h2] at this
  exact this
theorem wo_self {l : List Nat} {x : Nat} (h : x ∉ l) : wo l x = l := by
  unfold wo
  rw [List.filter_eq_self]
  intro a ha
  exact decide_eq_true (fun e => h (e ▸ ha))
theorem wo_erase {l : List Nat} {x : Nat} (h : l.Nodup) : wo l x = l.erase x := by
  rw [h.erase_eq_filter]
  unfold wo
  congr 1
  funext k
  by_cases e : k = x <;> simp [e]
theorem wo_le (l : List Nat) (x : Nat) : (wo l x).length ≤ l.length := List.length_filter_le _ _
/-- the kids of a node, of which another one was cut -/
theorem cut_ki {T : List Nod} {d : Nat → Nat} (h : WF T d) {i p : Nat} (hi : i < T.length) (hp : p < T.length) (hne : p ≠ i) : (ndA (cutE T i) p).ki = wo (ndA T p).ki i := by
  by_cases h0 : 0 ≤ (ndA T i).pa
  · obtain ⟨q, hq⟩ := Int.eq_ofNat_of_zero_le h0
    rw [cutE_nd h hi hq, if_neg hne]
    by_cases e : p = q
    · subst e
      rw [if_pos rfl]
      exact (wo_erase (h.nd p hp)).symm
    · rw [if_neg e]
      refine (wo_self fun hm => ?_).symm
      have := (h.ki p hp i hm).2
      omega
  · rw [cutE_none (by omega)]
    refine (wo_self fun hm => ?_).symm
    have := (h.ki p hp i hm).2
    omega
def kiN (x : Nod) (l : List Nat) : Nod := { x with ki := l }
def paN (x : Nod) (p : Int) : Nod := { x with pa := p }
theorem rput_free {T : List Nod} {p i n : Nat} (h : (ndA T i).pa < 0) (hno : i ∉ (ndA T p).ki) : (T.set p (kiN (ndA T p) (insA (wo (ndA T p).ki i) n i))).set i (paN (ndA (T.set p (kiN (ndA T p) (insA (wo (ndA T p).ki i) n i))) i) p) = putG T p i n := by
  rw [putG_none h, wo_self hno]; rfl
theorem rput_held {T : List Nod} {d : Nat → Nat} (h : WF T d) {p i q n : Nat} (hi : i < T.length) (hp : p < T.length) (hne : p ≠ i) (hq : (ndA T i).pa = (q : Int)) :
    ((T.set q (kiN (ndA T q) (wo (ndA T q).ki i))).set p (kiN (ndA (T.set q (kiN (ndA T q) (wo (ndA T q).ki i))) p) (insA (wo (ndA T p).ki i) n i))).set i
      (paN (ndA ((T.set q (kiN (ndA T q) (wo (ndA T q).ki i))).set p (kiN (ndA (T.set q (kiN (ndA T q) (wo (ndA T q).ki i))) p) (insA (wo (ndA T p).ki i) n i))) i) p) = putG T p i n := by
  have hql : q < T.length := by rcases h.pa i hi with e | ⟨_, e⟩ <;> omega
  have hac := h.ac i hi (by omega)
  rw [hq] at hac
  have ep : ((q : Int)).toNat = q := rfl
  rw [ep] at hac
  have hqi : q ≠ i := fun e => by subst e; omega
  obtain ⟨T1, hT1⟩ : ∃ T1, T1 = T.set q (kiN (ndA T q) (wo (ndA T q).ki i)) := ⟨_, rfl⟩
  rw [← hT1]
  obtain ⟨T2, hT2⟩ : ∃ T2, T2 = T1.set p (kiN (ndA T1 p) (insA (wo (ndA T p).ki i) n i)) := ⟨_, rfl⟩
  rw [← hT2]
  have e1 : T1.length = T.length := by rw [hT1]; simp
  have e2 : T2.length = T.length := by rw [hT2]; simp [e1]
  have l1 : ∀ k, ndA T1 k = if k = q then kiN (ndA T q) (wo (ndA T q).ki i) else ndA T k := fun k => by rw [hT1]; exact ndA_set hql k
  have l2 : ∀ k, ndA T2 k = if k = p then kiN (ndA T1 p) (insA (wo (ndA T p).ki i) n i) else ndA T1 k := fun k => by rw [hT2]; exact ndA_set (by omega) k
  have l3 : ∀ k, ndA (T2.set i (paN (ndA T2 i) p)) k = if k = i then paN (ndA T2 i) p else ndA T2 k := fun k => ndA_set (by omega) k
  have c := cutE_nd h hi hq
  have ck := cut_ki h hi hp hne
  have r : ∀ k, ndA (putG T p i n) k = if k = i then paN (ndA (cutE T i) i) p else if k = p then kiN (ndA (cutE T i) p) (insA (ndA (cutE T i) p).ki n i) else ndA (cutE T i) k := fun k => putE_nd (by rw [cutE_len]; exact hp) (by rw [cutE_len]; exact hi) hne k
  refine nd_ext (by rw [putG_len]; simp [e2]) fun k hk => ?_
  rw [l3, r]
  by_cases h1 : k = i
  · rw [if_pos h1, if_pos h1, l2, if_neg (Ne.symm hne), l1, if_neg (Ne.symm hqi), c, if_pos rfl]; rfl
  · rw [if_neg h1, if_neg h1, l2, ck]
    by_cases h2 : k = p
    · rw [if_pos h2, if_pos h2, l1, c, if_neg hne]
      by_cases h3 : p = q
      · rw [if_pos h3, if_pos h3, h3]; rfl
      · rw [if_neg h3, if_neg h3]
    · rw [if_neg h2, if_neg h2, l1, c, if_neg h1]
      by_cases h3 : k = q
      · rw [if_pos h3, if_pos h3]
        unfold kiN
        rw [wo_erase (h.nd q hql)]
      · rw [if_neg h3, if_neg h3]
end Go.Proofs.YtimlmekgapdkiaaDoor
namespace Go.Proofs.YtimlmekgapdkiaaDoor
set_option linter.unusedVariables false
set_option linter.unusedSimpArgs false
open Go.RowKit Go.Cas

theorem kic_take (l : List Nat) (m : Nat) : (kic l).take (m * 1) = kic (l.take m) := by simp [kic, List.map_take]
theorem kic_drop (l : List Nat) (m : Nat) : (kic l).drop (m * 1) = kic (l.drop m) := by simp [kic, List.map_drop]
theorem ins_kic (l : List Nat) (m i : Nat) : ([] ++ kic (l.take m)) ++ [Value.int .i64 (i : Int)] ++ kic (l.drop m) = kic (insA l m i) := by simp [kic, insA]
theorem ins_len (l : List Nat) (m i : Nat) : (insA l m i).length = l.length + 1 := by unfold insA; simp; omega
def RPtRet (B R : Nat) (T : List Nod) (n : Nat) (τ : Nat → Nat) (w : World) (e : Ending) (w' : World) : Prop := e = .returned (.int .i64 0) ∧ ROp B R T (n + 1) τ w w'
set_option maxRecDepth 100000 in
set_option maxHeartbeats 8000000 in
theorem c_rPutFree {w : World} {B R n i p m : Nat} {τ : Nat → Nat} {T : List Nod} {d : Nat → Nat} (h : RS B R T n τ w) (hW : WF T d) (hT : T.length ≤ 400) (hF : FewT T) (hn : n ≤ 1000000) (hp : p < T.length) (hi : i < T.length) (hi0 : i ≠ 0) (hk3 : (ndA T p).k ≠ 3) (hk4 : (ndA T p).k ≠ 4) (hna : ¬ Anc T i p) (hpa : (ndA T i).pa < 0) (hm : m ≤ (ndA T p).ki.length) :
    Calls Tryd.prog 54 #[.pointer (some ⟨R, 0, none⟩), .int .i64 (p : Int), .int .i64 (i : Int), .int .i64 (m : Int)] w (RPtRet B R (putG T p i m) n τ w) := by
  have HH1 := Lib.hid (c_rHas h p hp hT)
  have HH2 := Lib.hid (c_rHas h i hi hT)
  have hin := c_rin (i := i) h hW hT hp
  rw [ancB_false.2 hna] at hin
  have HIN := Lib.hid hin
  have hni : i ∉ (ndA T p).ki := fun hm => by have := (hW.ki p hp i hm).2; omega
  have hne : p ≠ i := fun e => hna (e ▸ .refl)
  have hkl : (ndA T p).ki.length ≤ 400 := by
    have := nodup_lt _ _ (hW.nd p hp) (fun x hx => (hW.ki p hp x hx).1)
    omega
  obtain ⟨L, cap, tv, xs, M, h1, hM⟩ := h
  have hlM : M.length = T.length := by rw [← hM]; simp
  obtain ⟨y, hy, hyx⟩ := nv_get hM (ndA_get hp)
  obtain ⟨z, hz, hzx⟩ := nv_get hM (ndA_get hi)
  have hrd := (h1.ki p y hy).toS (lim := w.heap.size) (fun k hz => (h1.tB k (by rw [show τ k = 4 from hz]; omega)).2)
  obtain ⟨_, A, c, hvk, _, _⟩ := id hrd
  obtain ⟨N, hN⟩ : ∃ N, N = y.x.ki.length := ⟨_, rfl⟩
  rw [hvk, ← hN] at hrd
  have hcw := c_without (x := i) hrd (by rw [hN, hyx]; omega) (Nat.le_refl _)
  rw [hyx, wo_self hni] at hcw
  have HCW := Lib.hid hcw
  have HKP : Hid (∀ W', Below w.heap.size w W' → Calls Tryd.prog 91 #[.pointer (some ⟨R, 0, none⟩)] W' (KpRet B R L cap n τ M W')) := fun W' hb => c_keep (h1.below hb) (by omega) (hF.few hM) hn
  obtain ⟨g0, _⟩ := h1.heads
  have hr := h1.ltR
  have hrL := h1.ltL
  obtain ⟨⟨a0, _, _⟩, _, _, a5⟩ := h1.cell hy
  rw [hvk, ← hN] at a5
  obtain ⟨xk, hxk⟩ : ∃ xk, xk = y.x.k := ⟨_, rfl⟩
  rw [← hxk] at a0
  have b3 : (xk == 3) = false := by rw [beq_eq_false_iff_ne, hxk, hyx]; exact hk3
  have b4 : (xk == 4) = false := by rw [beq_eq_false_iff_ne, hxk, hyx]; exact hk4
  have bi0 : ((i : Int) == 0) = false := by rw [beq_eq_false_iff_ne]; omega
  have hpi : (p : Int) < (M.length : Int) := by omega
  have hii : (i : Int) < (M.length : Int) := by omega
  have h0p : 0 ≤ (p : Int) := by omega
  have h0i : 0 ≤ (i : Int) := by omega
  have hl4 : M.length ≤ 400 := by omega
  obtain ⟨K, hK⟩ : ∃ K, K = (ndA T p).ki := ⟨_, rfl⟩
  rw [← hK] at HCW hm hkl
  have hNK : N = K.length := by rw [hN, hyx, hK]
  have hmN : ¬ (N : Int) < (m : Int) := by omega
  have h0m : ¬ (m : Int) < 0 := by omega
  have hN4 : N ≤ 400 := by omega
  have HH := Lib.hid h1
  have HM := Lib.hid hM
  have HY := Lib.hid hy
  have HZ := Lib.hid hz
  have HYX := Lib.hid hyx
  have HZX := Lib.hid hzx
  have HK := Lib.hid hK
  have HNK := Lib.hid hNK
  have HPA := Lib.hid hpa
  have HNE := Lib.hid hne
  have HPL := Lib.hid hp
  have HNI := Lib.hid hni
  have HWF := Lib.hid hW
  have hmN2 : m ≤ N := by omega
  clear h1 hM hlM hy hz hyx hzx hrd hvk hN hK hNK hW hF hT hi hp hi0 hk3 hk4 hna hpa hin hcw hne hni hxk hm hkl
  go_enter Tryd.func54, Tryd.ntmps54
  go_upto_region 14 with (first
    | (go_at_call 73; first | ((with_reducible refine (HH1.out).mono ?_); rintro e w' ⟨rfl, rfl⟩) | ((with_reducible refine (HH2.out).mono ?_); rintro e w' ⟨rfl, rfl⟩))
    | (go_at_call 93; refine (HIN.out).mono ?_; rintro e w' ⟨rfl, rfl⟩)
    | (go_at_call 94; refine (HCW.out).mono ?_; rintro e w1 ⟨v, rfl, ho1, hb1⟩; have HO1 := Lib.hid ho1; have HB1 := Lib.hid hb1; obtain ⟨_, A1, c1, e1, hc1, _⟩ := RdS.of_own ho1; rw [← HNK.out] at e1; obtain rfl := e1; clear ho1 hb1 hc1))
  go_upto_region 15 with (go_at_call 91; refine (HKP.out _ HB1.out).mono ?_; rintro e w2 ⟨⟨u, rfl⟩, tv2, xs2, τ2, h2, ht2, hk2⟩; have H2 := Lib.hid h2; have HT2 := Lib.hid ht2; have HK2 := Lib.hid hk2; clear h2 ht2 hk2)
  have hτ0 : ∀ k, w.heap.size ≤ k → ¬ τ k ≠ 0 := fun k hk e => by have := (HH.out.tB k e).2; omega
  have ho2 : w2.ownsRow w.heap.size 3 1 (.slice A1 N c1) K.length (kic K) := own_keep HO1.out (fun k hk => HK2.out.block k (own_lt HO1.out hk).2 (hτ0 k (own_lt HO1.out hk).1))
  rw [← HNK.out] at ho2
  have hr2 := RdS.of_own ho2
  obtain ⟨U1, hU1, hR1⟩ := rd_to Tryd.underlying75 inf_I hr2 m hmN2
  obtain ⟨U2, hU2, hR2⟩ := rd_from Tryd.underlying75 inf_I hr2 m hmN2
  rw [kic_take] at hR1
  rw [kic_drop] at hR2
  have HU1 := Lib.hid hU1
  have HU2 := Lib.hid hU2
  have HR1 := Lib.hid hR1
  have HR2 := Lib.hid hR2
  obtain ⟨p0, _⟩ := H2.out.heads
  have pr := H2.out.ltR
  have prL := H2.out.ltL
  obtain ⟨_, _, q4, _⟩ := H2.out.cell HZ.out
  obtain ⟨pz, hpz⟩ : ∃ pz, pz = z.x.pa := ⟨_, rfl⟩
  rw [← hpz] at q4
  have hpz0 : ¬ 0 ≤ pz := by have := HPA.out; rw [hpz, HZX.out]; omega
  have HF2 : Hid (∀ W', Below w2.heap.size w2 W' → (W'.cell? ⟨R, 0, none⟩ = some (.slice (some ⟨L, 0, none⟩) M.length cap) ∧ R < W'.heap.size ∧ L < W'.heap.size ∧ (∀ j, W'.frozen? ⟨L, j, none⟩ = false) ∧ (∀ k y, M[k]? = some y → W'.cell? ⟨L, k * 6 + 5, none⟩ = some y.vk ∧ W'.cell? ⟨L, k * 6 + 4, none⟩ = some (.int .i64 y.x.pa)))) := fun W' hb => by
    have h' := H2.out.below hb
    exact ⟨h'.heads.1, h'.ltR, h'.ltL, h'.free, fun k y hy => ⟨(h'.cell hy).2.2.2, (h'.cell hy).2.2.1⟩⟩
  clear g0 hr hrL a0 a5 ho2 hr2 hU1 hU2 hR1 hR2 hpz hτ0
  go_upto_region 20 with (first
    | (refine wp_sliceEq (o := ⟨some 108, _, _, _, _, _⟩) rfl 75 _ _ _ rfl Tryd.underlying75 (.slice A1 N c1) none (some (.int .i64 (m : Int))) rfl rfl rfl U1 HU1.out ?_)
    | (at_builtin; refine wp_spread rfl _ _ 75 rfl w2.heap.size 3 Tryd.underlying75 inf_I rfl (by decide) (.slice none 0 0) 0 [] rfl (World.ownsRow_nil _ _ _ _) w2.heap.size U1 m (kic (K.take m)) rfl HR1.out (one_kic _) (by unfold maxLen; omega) (by omega) (Nat.le_refl _) ?_; intro v3 w3 ho3 hg3 hat3; have HO3 := Lib.hid ho3; have HB3 : Hid (Below w2.heap.size w2 w3) := (Below.refl _ _).grown hg3 (Nat.le_refl _) (fun k hk => by simp [Value.ownBlock] at hk); clear ho3 hg3 hat3))
  have hz3 : w2.heap.size ≤ w3.heap.size := HB3.out.size
  go_upto_region 21 with (at_builtin; refine wp_push rfl _ _ 75 rfl w2.heap.size 3 Tryd.underlying75 inf_I rfl (by decide) w3 v3 (0 + m) ([] ++ kic (K.take m)) [.int .i64 (i : Int)] rfl rfl rfl HO3.out rfl (by simp [Value.oneCell']) (by omega) (by omega) hz3 ?_; intro v4 w4 hpush; have HPU := Lib.hid hpush; have HB4 : Hid (Below w2.heap.size w2 w4) := hpush.below HB3.out (Nat.le_refl _) hz3; clear hpush)
  have hz4 : w2.heap.size ≤ w4.heap.size := HB4.out.size
  go_upto_region 22 with (first
    | (refine wp_sliceEq (o := ⟨some 117, _, _, _, _, _⟩) rfl 75 _ _ _ rfl Tryd.underlying75 (.slice A1 N c1) (some (.int .i64 (m : Int))) none rfl rfl rfl U2 HU2.out ?_)
    | (at_builtin; refine wp_spread rfl _ _ 75 rfl w2.heap.size 3 Tryd.underlying75 inf_I rfl (by decide) v4 (0 + m + 1) (([] ++ kic (K.take m)) ++ [.int .i64 (i : Int)]) rfl HPU.out.own w2.heap.size U2 (N - m) (kic (K.drop m)) rfl (HR2.out.below HB4.out) (one_kic _) (by unfold maxLen; omega) (by omega) hz4 ?_; intro v5 w5 ho5 hg5 hat5; have ho6 : w5.ownsRow w2.heap.size 3 1 v5 (N + 1) (kic (insA K m i)) := (by have := ho5; rw [show 0 + m + 1 + (N - m) = N + 1 by omega, ins_kic] at this; exact this); obtain ⟨g5, q5, e5, _, _⟩ := ho6.form (by omega); subst e5; have HO5 := Lib.hid ho6; have HB5 : Hid (Below w2.heap.size w2 w5) := HB4.out.grown hg5 hz4 (fun k hk => (own_lt HPU.out.own hk).1); clear ho5 hg5 hat5 ho6))
  obtain ⟨s0, s1, s2, s3, s4⟩ := HF2.out w5 HB5.out
  have s5 := (s4 p y HY.out).1
  have s6 := (s4 i z HZ.out).2
  have s7 := s3 (p * 6 + 5)
  have s8 := s3 (i * 6 + 4)
  clear s3 s4 p0 pr prL q4
  go_wp2_with fail
  go_ret
  have hgl := own_lt HO5.out (k := g5) rfl
  have hτg : τ2 g5 = 0 := by
    rcases Nat.eq_zero_or_pos (τ2 g5) with e | e
    · exact e
    · have := (H2.out.tB g5 (by omega)).2; omega
  have hBB : B ≤ g5 := by have := H2.out.hB; omega
  have h6 := (H2.out.below HB5.out).tag (fun k => k = g5) 4 (fun k e => by subst e; exact ⟨hBB, hgl.2, hτg⟩)
  have h7 := h6.setN (y' := ⟨kiN y.x (insA K m i), y.va, .slice (some ⟨g5, 0, none⟩) (N + 1) q5⟩) HY.out 5 (by omega) (.slice (some ⟨g5, 0, none⟩) (N + 1) q5) rfl ⟨rfl, rfl⟩ (by
    have hl : (insA K m i).length = N + 1 := by rw [ins_len, HNK.out]
    show RdZ w5 _ 1 (.slice (some ⟨g5, 0, none⟩) (N + 1) q5) (insA K m i).length (kic (insA K m i))
    rw [hl]
    exact RdZ.of_own HO5.out (fun g e => by injection e with e; subst e; exact if_pos rfl))
  have hz' : (M.set p ⟨kiN y.x (insA K m i), y.va, .slice (some ⟨g5, 0, none⟩) (N + 1) q5⟩)[i]? = some z := by
    rw [List.getElem?_set, if_neg HNE.out]; exact HZ.out
  have h8 := h7.setN (y' := ⟨paN z.x (p : Int), z.va, z.vk⟩) hz' 4 (by omega) (.int .i64 (p : Int)) rfl ⟨rfl, rfl⟩ (h7.ki i z hz')
  have hsz : w.heap.size ≤ w1.heap.size := HB1.out.size
  have hsz2 : w1.heap.size ≤ w2.heap.size := HK2.out.size
  refine ⟨rfl, _, ⟨L, cap, tv2, xs2, _, h8, ?_⟩, fun k hk hf => ?_, ?_⟩
  · have := rput_free (p := p) (n := m) HPA.out HNI.out
    rw [wo_self HNI.out, ndA_set HPL.out, if_neg (Ne.symm HNE.out)] at this
    rw [← this, List.map_set, List.map_set, HM.out]
    show (T.set p (kiN y.x (insA K m i))).set i (paN z.x (p : Int)) = _
    rw [HYX.out, HZX.out, HK.out]
  · have hf : (if k = g5 then 4 else τ2 k) ≠ 0 := hf
    rw [if_neg (by omega)] at hf
    exact HT2.out k (by omega) hf
  · have k1 : Kept w w5 (fun k => τ k ≠ 0) := ((Kept.of_below HB1.out (fun k => τ k ≠ 0)).trans HK2.out).then_ (Kept.of_below HB5.out (fun _ => False)) (fun _ _ e => e.elim)
    exact (k1.set_ L _ (fun _ => by rw [HH.out.tL]; omega) _).set_ L _ (fun _ => by rw [HH.out.tL]; omega) _
end Go.Proofs.YtimlmekgapdkiaaDoor
