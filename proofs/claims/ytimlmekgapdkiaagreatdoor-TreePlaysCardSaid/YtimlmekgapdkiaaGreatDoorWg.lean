/- plainly: a node is put, taken out; the document's Say and Take; the document's Put -/
import Derived.Test.YtimlmekgapdkiaaGreatDoorWe
import Derived.Test.YtimlmekgapdkiaaGreatDoorKh
import Derived.Test.YtimlmekgapdkiaaGreatDoorVd
import Derived.Deep.CutBlock
namespace Go.Proofs.YtimlmekgapdkiaaGreatDoor
set_option linter.unusedVariables false
set_option linter.unusedSimpArgs false
open Go.RowKit Go.Cas

theorem nd_ext {T T' : List Nod} (hl : T.length = T'.length) (h : ∀ k, k < T.length → ndA T k = ndA T' k) : T = T' := by
  refine List.ext_getElem hl fun k h1 h2 => ?_
  have := h k h1
  unfold ndA at this
  rw [List.getD_eq_getElem?_getD, List.getD_eq_getElem?_getD, List.getElem?_eq_getElem h1, List.getElem?_eq_getElem h2] at this
  exact this
theorem wo_self {l : List Nat} {x : Nat} (h : x ∉ l) : wo l x = l := by
  unfold wo
  rw [List.filter_eq_self]
  intro a ha
  exact decide_eq_true (fun e => h (e ▸ ha))
theorem wo_erase {l : List Nat} {x : Nat} (h : l.Nodup) : wo l x = l.erase x := by
  rw [h.erase_eq_filter]
  unfold wo
  congr 1
  funext k
  by_cases e : k = x <;> simp [e]
theorem wo_le (l : List Nat) (x : Nat) : (wo l x).length ≤ l.length := List.length_filter_le _ _
/-- the kids of a node, of which another one was cut -/
theorem cut_ki {T : List Nod} {d : Nat → Nat} (h : WF T d) {i p : Nat} (hi : i < T.length) (hp : p < T.length) (hne : p ≠ i) : (ndA (cutE T i) p).ki = wo (ndA T p).ki i := by
  by_cases h0 : 0 ≤ (ndA T i).pa
  · obtain ⟨q, hq⟩ := Int.eq_ofNat_of_zero_le h0
    rw [cutE_nd h hi hq, if_neg hne]
    by_cases e : p = q
    · subst e
      rw [if_pos rfl]
      exact (wo_erase (h.nd p hp)).symm
    · rw [if_neg e]
      refine (wo_self fun hm => ?_).symm
      have := (h.ki p hp i hm).2
      omega
  · rw [cutE_none (by omega)]
    refine (wo_self fun hm => ?_).symm
    have := (h.ki p hp i hm).2
    omega
def kiN (x : Nod) (l : List Nat) : Nod := { x with ki := l }
def paN (x : Nod) (p : Int) : Nod := { x with pa := p }
theorem rput_free {T : List Nod} {p i n : Nat} (h : (ndA T i).pa < 0) (hno : i ∉ (ndA T p).ki) : (T.set p (kiN (ndA T p) (insA (wo (ndA T p).ki i) n i))).set i (paN (ndA (T.set p (kiN (ndA T p) (insA (wo (ndA T p).ki i) n i))) i) p) = putG T p i n := by
  rw [putG_none h, wo_self hno]; rfl
theorem rput_held {T : List Nod} {d : Nat → Nat} (h : WF T d) {p i q n : Nat} (hi : i < T.length) (hp : p < T.length) (hne : p ≠ i) (hq : (ndA T i).pa = (q : Int)) :
    ((T.set q (kiN (ndA T q) (wo (ndA T q).ki i))).set p (kiN (ndA (T.set q (kiN (ndA T q) (wo (ndA T q).ki i))) p) (insA (wo (ndA T p).ki i) n i))).set i
      (paN (ndA ((T.set q (kiN (ndA T q) (wo (ndA T q).ki i))).set p (kiN (ndA (T.set q (kiN (ndA T q) (wo (ndA T q).ki i))) p) (insA (wo (ndA T p).ki i) n i))) i) p) = putG T p i n := by
  have hql : q < T.length := by rcases h.pa i hi with e | ⟨_, e⟩ <;> omega
  have hac := h.ac i hi (by omega)
  rw [hq] at hac
  have ep : ((q : Int)).toNat = q := rfl
  rw [ep] at hac
  have hqi : q ≠ i := fun e => by subst e; omega
  obtain ⟨T1, hT1⟩ : ∃ T1, T1 = T.set q (kiN (ndA T q) (wo (ndA T q).ki i)) := ⟨_, rfl⟩
  rw [← hT1]
  obtain ⟨T2, hT2⟩ : ∃ T2, T2 = T1.set p (kiN (ndA T1 p) (insA (wo (ndA T p).ki i) n i)) := ⟨_, rfl⟩
  rw [← hT2]
  have e1 : T1.length = T.length := by rw [hT1]; simp
  have e2 : T2.length = T.length := by rw [hT2]; simp [e1]
  have l1 : ∀ k, ndA T1 k = if k = q then kiN (ndA T q) (wo (ndA T q).ki i) else ndA T k := fun k => by rw [hT1]; exact ndA_set hql k
  have l2 : ∀ k, ndA T2 k = if k = p then kiN (ndA T1 p) (insA (wo (ndA T p).ki i) n i) else ndA T1 k := fun k => by rw [hT2]; exact ndA_set (by omega) k
  have l3 : ∀ k, ndA (T2.set i (paN (ndA T2 i) p)) k = if k = i then paN (ndA T2 i) p else ndA T2 k := fun k => ndA_set (by omega) k
  have c := cutE_nd h hi hq
  have ck := cut_ki h hi hp hne
  have r : ∀ k, ndA (putG T p i n) k = if k = i then paN (ndA (cutE T i) i) p else if k = p then kiN (ndA (cutE T i) p) (insA (ndA (cutE T i) p).ki n i) else ndA (cutE T i) k := fun k => putE_nd (by rw [cutE_len]; exact hp) (by rw [cutE_len]; exact hi) hne k
  refine nd_ext (by rw [putG_len]; simp [e2]) fun k hk => ?_
  rw [l3, r]
  by_cases h1 : k = i
  · rw [if_pos h1, if_pos h1, l2, if_neg (Ne.symm hne), l1, if_neg (Ne.symm hqi), c, if_pos rfl]; rfl
  · rw [if_neg h1, if_neg h1, l2, ck]
    by_cases h2 : k = p
    · rw [if_pos h2, if_pos h2, l1, c, if_neg hne]
      by_cases h3 : p = q
      · rw [if_pos h3, if_pos h3, h3]; rfl
      · rw [if_neg h3, if_neg h3]
    · rw [if_neg h2, if_neg h2, l1, c, if_neg h1]
      by_cases h3 : k = q
      · rw [if_pos h3, if_pos h3]
        unfold kiN
        rw [wo_erase (h.nd q hql)]
      · rw [if_neg h3, if_neg h3]

theorem kic_take (l : List Nat) (m : Nat) : (kic l).take (m * 1) = kic (l.take m) := by simp [kic, List.map_take]
theorem kic_drop (l : List Nat) (m : Nat) : (kic l).drop (m * 1) = kic (l.drop m) := by simp [kic, List.map_drop]
theorem ins_kic (l : List Nat) (m i : Nat) : ([] ++ kic (l.take m)) ++ [Value.int .i64 (i : Int)] ++ kic (l.drop m) = kic (insA l m i) := by simp [kic, insA]
theorem ins_len (l : List Nat) (m i : Nat) : (insA l m i).length = l.length + 1 := by unfold insA; simp; omega
theorem cut_wo {T : List Nod} {d : Nat → Nat} (h : WF T d) {i q : Nat} (hi : i < T.length) (hq : (ndA T i).pa = (q : Int)) : (T.set q (kiN (ndA T q) (wo (ndA T q).ki i))).set i (paN (ndA T i) (-1)) = cutE T i := by
  have hql : q < T.length := by rcases h.pa i hi with e | ⟨_, e⟩ <;> omega
  unfold cutE
  rw [if_pos (by omega), hq]
  show _ = (T.set q { ndA T q with ki := (ndA T q).ki.erase i }).set i _
  rw [wo_erase (h.nd q hql)]
  rfl
end Go.Proofs.YtimlmekgapdkiaaGreatDoor
namespace Go.Proofs.YtimlmekgapdkiaaGreatDoor
set_option linter.unusedVariables false
set_option linter.unusedSimpArgs false
open Go.RowKit Go.Cas

set_option maxRecDepth 100000 in
set_option maxHeartbeats 8000000 in
theorem c_rSay {w : World} {B R n i : Nat} {τ : Nat → Nat} {xs : List Value} {T : List Nod} (h : RSx B R T n xs τ w) (hT : T.length ≤ 400) (hF : FewT T) (hn : n ≤ 1000000) (hi : i < T.length) (s : ByteArray) (hk : (ndA T i).k = 3 ∨ (ndA T i).k = 4) (hs : s.size ≤ 20000) :
    Calls Tryz.prog 34 #[.pointer (some ⟨R, 0, none⟩), .int .i64 (i : Int), .string s] w (RStRet B R (T.set i (txN (ndA T i) s)) T n xs τ w) := by
  have HH := Lib.hid (c_rHas h.rs i hi hT)
  obtain ⟨L, cap, tv, M, h1, hM⟩ := h
  have hlM : M.length = T.length := by rw [← hM]; simp
  obtain ⟨y, hy, hyx⟩ := nv_get hM (ndA_get hi)
  have HKP := Lib.hid (c_rKeep h1 (by omega) (hF.few hM) hn)
  obtain ⟨g0, _⟩ := h1.heads
  have hr := h1.ltR
  have hrL := h1.ltL
  obtain ⟨⟨a0, _, _⟩, _⟩ := h1.cell hy
  have hii : (i : Int) < (M.length : Int) := by omega
  have hl4 : M.length ≤ 400 := by omega
  have hsz : ¬ (20000 : Int) < (s.size : Int) := by omega
  have HMM := Lib.hid hM
  have HY := Lib.hid hy
  have HYX := Lib.hid hyx
  obtain ⟨xk, hxk⟩ : ∃ xk, xk = y.x.k := ⟨_, rfl⟩
  rw [← hxk] at a0
  have hkk : xk = 3 ∨ xk = 4 := by rw [hxk, hyx]; exact hk
  clear h1 hM hlM hy hyx hF hT hi hk hs hxk
  rcases hkk with rfl | rfl
  all_goals
    go_enter Tryz.func34, Tryz.ntmps34
    go_upto_region 9 with (first
      | (go_at_call 43; refine (HH.out).mono ?_; rintro e w' ⟨rfl, rfl⟩)
      | (go_at_call 51; refine (HKP.out).mono ?_; rintro e w2 ⟨⟨u, rfl⟩, tv2, v2, τ2, hi2, hkd⟩; have HKD := Lib.hid hkd; have H2 := Lib.hid hkd.rt; clear hkd))
    obtain ⟨p0, _⟩ := H2.out.heads
    have pr := H2.out.ltR
    have prL := H2.out.ltL
    obtain ⟨⟨_, _, p2⟩, _⟩ := H2.out.cell HY.out
    have f2 := H2.out.free (i * 6 + 2)
    clear g0 hr hrL a0
    go_wp2_with fail
    go_ret
    refine ⟨rfl, HKD.out.then_ HMM.out ⟨_, _, _, _, H2.out.setN (y' := ⟨txN y.x s, y.va, y.vk⟩) HY.out 2 (by omega) (.string s) rfl ⟨rfl, rfl⟩ (H2.out.ki i y HY.out), ?_⟩ (fun _ _ e => e) ?_⟩
    · rw [List.map_set, HMM.out, HYX.out]
    · exact (Kept.refl _ _).set_ L _ (fun _ => by rw [H2.out.tL]; omega) _
theorem Kpd.pre {B R L cap n hi : Nat} {xs : List Value} {τ τ2 : Nat → Nat} {M : List NV} {w w1 w2 : World} {tv v : Value} (K : Kpd B R L cap n xs τ M w1 tv v τ2 hi w2) (hb : Below w.heap.size w w1) (hB : ∀ k, τ k ≠ 0 → k < w.heap.size) : Kpd B R L cap n xs τ M w tv v τ2 hi w2 := by
  have hs := hb.size
  refine ⟨K.rt, fun k h1 h2 => K.lt k (Nat.lt_of_lt_of_le h1 hs) h2, (Kept.of_below hb _).trans K.kp, ?_, fun k h1 h2 => ?_, ⟨Nat.le_trans hs K.hi.1, K.hi.2⟩⟩
  · obtain ⟨θ, Q, h1, h2⟩ := K.sn
    exact ⟨θ, Q, ⟨own_mono h1.row hs, fun i y hy => own_mono (h1.at_ i y hy) hs, fun i y hy => own_mono (h1.ki i y hy) hs, h1.tL, h1.tA, h1.tK, fun k e => ⟨Nat.le_trans hs (h1.tB k e).1, (h1.tB k e).2⟩, h1.hw⟩, h2⟩
  · by_cases hk : k < w1.heap.size
    · exact Decidable.byContradiction (fun e => by have := hB k (K.lt k hk e); omega)
    · exact K.fr k (by omega) h2
set_option maxRecDepth 100000 in
set_option maxHeartbeats 8000000 in
theorem c_rTake {w : World} {B R n i q : Nat} {τ : Nat → Nat} {xs : List Value} {T : List Nod} {d : Nat → Nat} (h : RSx B R T n xs τ w) (hW : WF T d) (hT : T.length ≤ 400) (hF : FewT T) (hn : n ≤ 1000000) (hi : i < T.length) (hq : (ndA T i).pa = (q : Int)) :
    Calls Tryz.prog 29 #[.pointer (some ⟨R, 0, none⟩), .int .i64 (i : Int)] w (RStRet B R (cutE T i) T n xs τ w) := by
  have HH := Lib.hid (c_rHas h.rs i hi hT)
  have hqT : q < T.length := by
    rcases hW.pa i hi with e | ⟨_, e⟩
    · omega
    · rw [hq] at e; simpa using e
  have hqi : q ≠ i := fun e => by
    have := hW.ac i hi (by omega)
    rw [hq, ← e] at this
    simp at this
  have hkl : (ndA T q).ki.length ≤ 400 := by
    have := nodup_lt _ _ (hW.nd q hqT) (fun x hx => (hW.ki q hqT x hx).1)
    omega
  have hcut := cut_wo hW hi hq
  obtain ⟨L, cap, tv, M, h1, hM⟩ := h
  have hlM : M.length = T.length := by rw [← hM]; simp
  obtain ⟨y, hy, hyx⟩ := nv_get hM (ndA_get hqT)
  obtain ⟨z, hz, hzx⟩ := nv_get hM (ndA_get hi)
  have HKP := Lib.hid (c_rKeep h1 (by omega) (hF.few hM) hn)
  obtain ⟨g0, _⟩ := h1.heads
  have hr := h1.ltR
  have hrL := h1.ltL
  obtain ⟨_, _, a4, _⟩ := h1.cell hz
  rw [hzx, hq] at a4
  have hii : (i : Int) < (M.length : Int) := by omega
  have hqq : (q : Int) < (M.length : Int) := by omega
  have h0q : 0 ≤ (q : Int) := by omega
  have hq0 : ¬ (q : Int) < 0 := by omega
  have hl4 : M.length ≤ 400 := by omega
  have HMM := Lib.hid hM
  have HY := Lib.hid hy
  have HYX := Lib.hid hyx
  have HZ := Lib.hid hz
  have HZX := Lib.hid hzx
  have HCUT := Lib.hid hcut
  have HNE := Lib.hid hqi
  have HKL := Lib.hid hkl
  clear h1 hM hlM hy hyx hz hzx hF hT hi hW hq hqT hqi hkl hcut
  go_enter Tryz.func29, Tryz.ntmps29
  go_upto_region 8 with (first
    | (go_at_call 43; refine (HH.out).mono ?_; rintro e w' ⟨rfl, rfl⟩)
    | (go_at_call 51; refine (HKP.out).mono ?_; rintro e w2 ⟨⟨u, rfl⟩, tv2, v2, τ2, hi2, hkd⟩; have HKD := Lib.hid hkd; have H2 := Lib.hid hkd.rt; clear hkd))
  obtain ⟨p0, _⟩ := H2.out.heads
  have pr := H2.out.ltR
  have prL := H2.out.ltL
  obtain ⟨_, _, _, p5⟩ := H2.out.cell HY.out
  have hrd := (H2.out.ki q y HY.out).toS (lim := w2.heap.size) (fun k hz => (H2.out.tB k (by rw [show τ2 k = 4 from hz]; omega)).2)
  obtain ⟨_, A, c, hvk, _, _⟩ := id hrd
  obtain ⟨N, hN⟩ : ∃ N, N = y.x.ki.length := ⟨_, rfl⟩
  rw [hvk, ← hN] at hrd p5
  obtain ⟨K, hK⟩ : ∃ K, K = y.x.ki := ⟨_, rfl⟩
  rw [← hK] at hrd hN
  have hN1 : N ≤ 400 := by rw [hN, hK, HYX.out]; exact HKL.out
  obtain ⟨N3, hN3⟩ : ∃ N3, N3 = (wo K i).length := ⟨_, rfl⟩
  have HCW : Hid (∀ W', Below w2.heap.size w2 W' → Calls Tryz.prog 59 #[.slice A N c, .int .i64 (i : Int)] W' fun e w' => ∃ A3 c3, e = .returned (.slice A3 N3 c3) ∧ w'.ownsRow W'.heap.size 3 1 (.slice A3 N3 c3) N3 (kic (wo K i)) ∧ Below W'.heap.size W' w') := fun W' hb => (c_without (x := i) (hrd.below hb) (by omega) hb.size).mono fun e w' hh => by
    obtain ⟨v, he, ho, hb⟩ := hh
    rw [← hN3] at ho
    obtain ⟨_, A3, c3, rfl, _, _⟩ := RdS.of_own ho
    exact ⟨A3, c3, he, ho, hb⟩
  have HK := Lib.hid hK
  have HN3 := Lib.hid hN3
  have HVK := Lib.hid hvk
  have HKS : Hid (∀ W', Below w2.heap.size w2 W' → W'.cell? ⟨R, 0, none⟩ = some (.slice (some ⟨L, 0, none⟩) M.length cap) ∧ W'.cell? ⟨L, q * 6 + 5, none⟩ = some (.slice A N c)) := fun W' hb => ⟨(hb.cell (p := ⟨R, 0, none⟩) H2.out.ltR).trans p0, (hb.cell (p := ⟨L, q * 6 + 5, none⟩) H2.out.ltL).trans p5⟩
  have f5 := H2.out.free (q * 6 + 5)
  clear g0 hr hrL a4 hrd hvk hN hK hN3
  refine wp_regionE (S := (fun W' => W'.cell? ⟨R, 0, none⟩ = some (.slice (some ⟨L, 0, none⟩) M.length cap) ∧ W'.cell? ⟨L, q * 6 + 5, none⟩ = some (.slice A N c))) [17] (by kernel_rfl) ?_ (fun hHeld => ?_)
  · (try dsimp only)
    (first | with_reducible exact HKS.out _ (Below.refl _ _) | with_reducible exact HKS.out _ (bl_drew (Below.refl _ _)) | with_reducible exact HKS.out _ HB3.out)
  refine wpAnyE_take0 (i := 0) (v := ?_) rfl (by kernel_rfl) (by kernel_rfl) (by kernel_rfl) (by kernel_rfl) (fun _ _ _ h => h) (Or.inl ⟨by rfl, ?_⟩) (fun _ => by assumption) ?_
  rotate_left
  · ((intro w hSw; clear hSw; go_simp); (try with_reducible rfl))
  try simp only [Act.put, List.setIfInBounds_toArray, List.set_cons_zero, List.set_cons_succ]
  refine wpAnyE_take0 (i := 1) (v := ?_) rfl (by kernel_rfl) (by kernel_rfl) (by kernel_rfl) (by kernel_rfl) (fun _ _ _ h => h) (Or.inl ⟨by rfl, ?_⟩) (fun _ => by assumption) ?_
  rotate_left
  · ((intro w hSw; clear hSw; go_simp); (try with_reducible rfl))
  try simp only [Act.put, List.setIfInBounds_toArray, List.set_cons_zero, List.set_cons_succ]
  refine wpAnyE_take0 (i := 2) (v := ?_) rfl (by kernel_rfl) (by kernel_rfl) (by kernel_rfl) (by kernel_rfl) (fun _ _ _ h => h) (Or.inl ⟨by rfl, ?_⟩) (fun _ => by assumption) ?_
  rotate_left
  · ((intro w hSw; clear hSw; go_simp); (try with_reducible rfl))
  try simp only [Act.put, List.setIfInBounds_toArray, List.set_cons_zero, List.set_cons_succ]
  refine wpAnyE_take (i := 3) (v := ?_) rfl (by kernel_rfl) (by kernel_rfl) (by kernel_rfl) (by kernel_rfl) (fun _ _ _ h => h) (Or.inl ⟨by rfl, ?_⟩) (by assumption) ?_
  rotate_left
  · ((intro w hSw; (try dsimp only at hSw); go_simp); (try with_reducible rfl))
  try simp only [Act.put, List.setIfInBounds_toArray, List.set_cons_zero, List.set_cons_succ]
  refine wpAnyE_take0 (i := 4) (v := ?_) rfl (by kernel_rfl) (by kernel_rfl) (by kernel_rfl) (by kernel_rfl) (fun _ _ _ h => h) (Or.inl ⟨by rfl, ?_⟩) (fun _ => by assumption) ?_
  rotate_left
  · ((intro w hSw; clear hSw; go_simp); (try with_reducible rfl))
  try simp only [Act.put, List.setIfInBounds_toArray, List.set_cons_zero, List.set_cons_succ]
  refine wpAnyE_take0 (i := 5) (v := ?_) rfl (by kernel_rfl) (by kernel_rfl) (by kernel_rfl) (by kernel_rfl) (fun _ _ _ h => h) (Or.inl ⟨by rfl, ?_⟩) (fun _ => by assumption) ?_
  rotate_left
  · ((intro w hSw; clear hSw; go_simp); (try with_reducible rfl))
  try simp only [Act.put, List.setIfInBounds_toArray, List.set_cons_zero, List.set_cons_succ]
  refine wpAnyE_take0 (i := 6) (v := ?_) rfl (by kernel_rfl) (by kernel_rfl) (by kernel_rfl) (by kernel_rfl) (fun _ _ _ h => h) (Or.inl ⟨by rfl, ?_⟩) (fun _ => by assumption) ?_
  rotate_left
  · ((intro w hSw; clear hSw; go_simp); (try with_reducible rfl))
  try simp only [Act.put, List.setIfInBounds_toArray, List.set_cons_zero, List.set_cons_succ]
  refine wpAnyE_take0 (i := 7) (v := ?_) rfl (by kernel_rfl) (by kernel_rfl) (by kernel_rfl) (by kernel_rfl) (fun _ _ _ h => h) (Or.inl ⟨by rfl, ?_⟩) (fun _ => by assumption) ?_
  rotate_left
  · ((intro w hSw; clear hSw; go_simp); (try with_reducible rfl))
  try simp only [Act.put, List.setIfInBounds_toArray, List.set_cons_zero, List.set_cons_succ]
  refine wpAnyE_take (i := 8) (v := ?_) rfl (by kernel_rfl) (by kernel_rfl) (by kernel_rfl) (by kernel_rfl) (fun _ _ _ h => h) (Or.inl ⟨by rfl, ?_⟩) (by assumption) ?_
  rotate_left
  · ((intro w hSw; (try dsimp only at hSw); go_simp); (try with_reducible rfl))
  try simp only [Act.put, List.setIfInBounds_toArray, List.set_cons_zero, List.set_cons_succ]
  refine wpAnyE_take0 (i := 9) (v := ?_) rfl (by kernel_rfl) (by kernel_rfl) (by kernel_rfl) (by kernel_rfl) (fun _ _ _ h => h) (Or.inl ⟨by rfl, ?_⟩) (fun _ => by assumption) ?_
  rotate_left
  · ((intro w hSw; clear hSw; go_simp); (try with_reducible rfl))
  try simp only [Act.put, List.setIfInBounds_toArray, List.set_cons_zero, List.set_cons_succ]
  refine wpAnyE_take0 (i := 10) (v := ?_) rfl (by kernel_rfl) (by kernel_rfl) (by kernel_rfl) (by kernel_rfl) (fun _ _ _ h => h) (Or.inl ⟨by rfl, ?_⟩) (fun _ => by assumption) ?_
  rotate_left
  · ((intro w hSw; clear hSw; go_simp); (try with_reducible rfl))
  try simp only [Act.put, List.setIfInBounds_toArray, List.set_cons_zero, List.set_cons_succ]
  refine wpAnyE_take0 (i := 11) (v := ?_) rfl (by kernel_rfl) (by kernel_rfl) (by kernel_rfl) (by kernel_rfl) (fun _ _ _ h => h) (Or.inl ⟨by rfl, ?_⟩) (fun _ => by assumption) ?_
  rotate_left
  · ((intro w hSw; clear hSw; go_simp); (try with_reducible rfl))
  try simp only [Act.put, List.setIfInBounds_toArray, List.set_cons_zero, List.set_cons_succ]
  refine wpAnyE_take (i := 12) (v := ?_) rfl (by kernel_rfl) (by kernel_rfl) (by kernel_rfl) (by kernel_rfl) (fun _ _ _ h => h) (Or.inl ⟨by rfl, ?_⟩) (by assumption) ?_
  rotate_left
  · ((intro w hSw; (try dsimp only at hSw); go_simp); (try with_reducible rfl))
  try simp only [Act.put, List.setIfInBounds_toArray, List.set_cons_zero, List.set_cons_succ]
  refine wpAnyE_take0 (i := 13) (v := ?_) rfl (by kernel_rfl) (by kernel_rfl) (by kernel_rfl) (by kernel_rfl) (fun _ _ _ h => h) (Or.inl ⟨by rfl, ?_⟩) (fun _ => by assumption) ?_
  rotate_left
  · ((intro w hSw; clear hSw; go_simp); (try with_reducible rfl))
  try simp only [Act.put, List.setIfInBounds_toArray, List.set_cons_zero, List.set_cons_succ]
  refine wpAnyE_ready (rs := [14]) (by kernel_rfl) (by simp) ?_
  refine AllE.cons rfl (fun K hK => ?_) ?_
  · (go_simp; go_at_call 59; (with_reducible refine (HCW.out _ (bl_drew (Below.refl _ _))).mono ?_); rintro e w3 ⟨A3, c3, rfl, ho3, hb3⟩; have HO3 := Lib.hid ho3; have HB3 : Hid (Below w2.heap.size w2 w3) := bl_trans (bl_drew (Below.refl _ _)) hb3; have l3 : L < w3.heap.size := Nat.lt_of_lt_of_le H2.out.ltL HB3.out.size; have f6 : w3.frozen? ⟨L, q * 6 + 5, none⟩ = false := (H2.out.below HB3.out).free _; clear ho3 hb3)
    refine hK.out _ _ ?_ (fun hHeld => ?_)
    · (try dsimp only)
      (first | with_reducible exact HKS.out _ (Below.refl _ _) | with_reducible exact HKS.out _ (bl_drew (Below.refl _ _)) | with_reducible exact HKS.out _ HB3.out)
    clear hK K
    try simp only [Act.put, List.setIfInBounds_toArray, List.set_cons_zero, List.set_cons_succ]
    refine wpAnyE_take0 (i := 15) (v := ?_) rfl (by kernel_rfl) (by kernel_rfl) (by kernel_rfl) (by kernel_rfl) (fun _ _ _ h => h) (Or.inl ⟨by rfl, ?_⟩) (fun _ => by assumption) ?_
    rotate_left
    · ((intro w hSw; clear hSw; go_simp); (try with_reducible rfl))
    try simp only [Act.put, List.setIfInBounds_toArray, List.set_cons_zero, List.set_cons_succ]
    refine wpAnyE_take0 (i := 16) (v := ?_) rfl (by kernel_rfl) (by kernel_rfl) (by kernel_rfl) (by kernel_rfl) (fun _ _ _ h => h) (Or.inl ⟨by rfl, ?_⟩) (fun _ => by assumption) ?_
    rotate_left
    · ((intro w hSw; clear hSw; go_simp); (try with_reducible rfl))
    try simp only [Act.put, List.setIfInBounds_toArray, List.set_cons_zero, List.set_cons_succ]
    refine wpAnyE_ready (rs := [17]) (by kernel_rfl) (by simp) ?_
    refine AllE.last rfl (by kernel_rfl) (fun K hK => ?_) ?_
    · go_simp
      refine hK.out _ _ ?_
      clear hK K
      try simp only [Act.put, List.setIfInBounds_toArray, List.set_cons_zero, List.set_cons_succ]
      refine wpAnyE_done (by kernel_rfl) ?_ _
      have h6 := (H2.out.below HB3.out).tag (fun k => (Value.slice A3 N3 c3).ownBlock = some k) 4 (fun k e => by
        have h1 := own_lt HO3.out e
        have h2 : w2.heap.size ≤ k := h1.1
        refine ⟨Nat.le_trans H2.out.hB h2, h1.2, Decidable.byContradiction fun e => ?_⟩
        have := (H2.out.tB k e).2
        omega)
      have h7 := h6.setN (y' := ⟨kiN y.x (wo K i), y.va, .slice A3 N3 c3⟩) HY.out 5 (by omega) (.slice A3 N3 c3) rfl ⟨rfl, rfl⟩ (by
        show RdZ w3 _ 1 (.slice A3 N3 c3) (wo K i).length (kic (wo K i))
        rw [← HN3.out]
        exact RdZ.of_own HO3.out (fun g e => if_pos e))
      have H7 := Lib.hid h7
      have hz' : (M.set q ⟨kiN y.x (wo K i), y.va, .slice A3 N3 c3⟩)[i]? = some z := by
        rw [List.getElem?_set, if_neg HNE.out]; exact HZ.out
      have HZ2 := Lib.hid hz'
      obtain ⟨w4, hw4⟩ : ∃ w4, w4 = w3.setCell ⟨L, q * 6 + 5, none⟩ (.slice A3 N3 c3) := ⟨_, rfl⟩
      have HW4 := Lib.hid hw4
      rw [← hw4]
      rw [← hw4] at H7
      obtain ⟨r0, _⟩ := H7.out.heads
      rw [List.length_set] at r0
      have r1 := H7.out.ltR
      have r2 := H7.out.ltL
      have r3 := H7.out.free (i * 6 + 4)
      obtain ⟨_, _, r4, _⟩ := H7.out.cell HZ2.out
      clear h6 h7 hz' hw4 p0 pr prL p5 f5 f6 l3 hHeld
      go_wp2_with fail
      go_ret
      have h8 := H7.out.setN (y' := ⟨paN z.x (-1), z.va, z.vk⟩) HZ2.out 4 (by omega) (.int .i64 (-1)) rfl ⟨rfl, rfl⟩ (H7.out.ki i z HZ2.out)
      refine ⟨rfl, HKD.out.then_ HMM.out ⟨_, _, _, _, h8, ?_⟩ (fun k hk hf => ?_) ?_⟩
      · rw [List.map_set, List.map_set, HMM.out, ← HCUT.out]
        show (T.set q (kiN y.x (wo K i))).set i (paN z.x (-1)) = _
        rw [HYX.out, HZX.out, HK.out, HYX.out]
      · have hf : (if (Value.slice A3 N3 c3).ownBlock = some k then 4 else τ2 k) ≠ 0 := hf
        rw [if_neg (fun e => by have h1 : w2.heap.size ≤ k := (own_lt HO3.out e).1; omega)] at hf
        exact hf
      · rw [HW4.out]
        exact ((Kept.of_below HB3.out (fun k => τ2 k ≠ 0)).set_ L _ (fun _ => by rw [H2.out.tL]; omega) _).set_ L _ (fun _ => by rw [H2.out.tL]; omega) _
    exact AllE.nil
  exact AllE.nil
end Go.Proofs.YtimlmekgapdkiaaGreatDoor
namespace Go.Proofs.YtimlmekgapdkiaaGreatDoor
set_option linter.unusedVariables false
set_option linter.unusedSimpArgs false
open Go.RowKit Go.Cas

/-- taken out of its parent's kids alone -/
def putT1 (T : List Nod) (i : Nat) : List Nod := if 0 ≤ (ndA T i).pa then T.set (ndA T i).pa.toNat (kiN (ndA T (ndA T i).pa.toNat) (wo (ndA T (ndA T i).pa.toNat).ki i)) else T
theorem put_T1 {T : List Nod} {d : Nat → Nat} (h : WF T d) {p i n : Nat} (hi : i < T.length) (hp : p < T.length) (hne : p ≠ i) :
    ((putT1 T i).set p (kiN (ndA (putT1 T i) p) (insA (wo (ndA T p).ki i) n i))).set i (paN (ndA ((putT1 T i).set p (kiN (ndA (putT1 T i) p) (insA (wo (ndA T p).ki i) n i))) i) p) = putG T p i n := by
  by_cases h0 : 0 ≤ (ndA T i).pa
  · obtain ⟨q, hq⟩ := Int.eq_ofNat_of_zero_le h0
    have e : putT1 T i = T.set q (kiN (ndA T q) (wo (ndA T q).ki i)) := by unfold putT1; rw [if_pos h0, hq]; rfl
    rw [e]
    exact rput_held h hi hp hne hq
  · have e : putT1 T i = T := by unfold putT1; rw [if_neg h0]
    rw [e]
    exact rput_free (by omega) (fun hm => by have := (h.ki p hp i hm).2; omega)
theorem putT1_len (T : List Nod) (i : Nat) : (putT1 T i).length = T.length := by unfold putT1; split <;> simp
set_option maxRecDepth 100000 in
set_option maxHeartbeats 16000000 in
theorem c_rPut {w : World} {B R n i p m : Nat} {τ : Nat → Nat} {xs : List Value} {T : List Nod} {d : Nat → Nat} (h : RSx B R T n xs τ w) (hW : WF T d) (hT : T.length ≤ 400) (hF : FewT T) (hn : n ≤ 1000000) (hp : p < T.length) (hi : i < T.length) (hi0 : i ≠ 0) (hk3 : (ndA T p).k ≠ 3) (hk4 : (ndA T p).k ≠ 4) (hna : ¬ Anc T i p) (hm : m ≤ (wo (ndA T p).ki i).length) :
    Calls Tryz.prog 27 #[.pointer (some ⟨R, 0, none⟩), .int .i64 (p : Int), .int .i64 (i : Int), .int .i64 (m : Int)] w (RStRet B R (putG T p i m) T n xs τ w) := by
  have HH1 := Lib.hid (c_rHas h.rs p hp hT)
  have HH2 := Lib.hid (c_rHas h.rs i hi hT)
  have hin := c_rin (i := i) h.rs hW hT hp
  rw [ancB_false.2 hna] at hin
  have HIN := Lib.hid hin
  have hne : p ≠ i := fun e => hna (e ▸ .refl)
  have hkl : (ndA T p).ki.length ≤ 400 := by
    have := nodup_lt _ _ (hW.nd p hp) (fun x hx => (hW.ki p hp x hx).1)
    omega
  have hkq : ∀ q, q < T.length → (ndA T q).ki.length ≤ 400 := fun q hq => by
    have := nodup_lt _ _ (hW.nd q hq) (fun x hx => (hW.ki q hq x hx).1)
    omega
  have hpq : ∀ q : Nat, (ndA T i).pa = (q : Int) → q < T.length := fun q hq => by
    rcases hW.pa i hi with e | ⟨_, e⟩
    · omega
    · rw [hq] at e; simpa using e
  have hput := put_T1 hW (n := m) hi hp hne
  obtain ⟨L, cap, tv, M, h1, hM⟩ := h
  have hlM : M.length = T.length := by rw [← hM]; simp
  obtain ⟨y, hy, hyx⟩ := nv_get hM (ndA_get hp)
  obtain ⟨z, hz, hzx⟩ := nv_get hM (ndA_get hi)
  have hrd := (h1.ki p y hy).toS (lim := w.heap.size) (fun k hz => (h1.tB k (by rw [show τ k = 4 from hz]; omega)).2)
  obtain ⟨_, A, c, hvk, _, _⟩ := id hrd
  obtain ⟨N0, hN0⟩ : ∃ N0, N0 = y.x.ki.length := ⟨_, rfl⟩
  rw [hvk, ← hN0] at hrd
  have hcw := c_without (x := i) hrd (by rw [hN0, hyx]; omega) (Nat.le_refl _)
  rw [hyx] at hcw
  have HCW := Lib.hid hcw
  have HKP : Hid (∀ W', Below w.heap.size w W' → Calls Tryz.prog 51 #[.pointer (some ⟨R, 0, none⟩)] W' (KpRet B R L cap n xs τ M W')) := fun W' hb => c_rKeep (h1.below hb) (by omega) (hF.few hM) hn
  obtain ⟨g0, _⟩ := h1.heads
  have hr := h1.ltR
  have hrL := h1.ltL
  obtain ⟨⟨a0, _, _⟩, _, _, a5⟩ := h1.cell hy
  rw [hvk, ← hN0] at a5
  obtain ⟨xk, hxk⟩ : ∃ xk, xk = y.x.k := ⟨_, rfl⟩
  rw [← hxk] at a0
  have b3 : (xk == 3) = false := by rw [beq_eq_false_iff_ne, hxk, hyx]; exact hk3
  have b4 : (xk == 4) = false := by rw [beq_eq_false_iff_ne, hxk, hyx]; exact hk4
  have bi0 : ((i : Int) == 0) = false := by rw [beq_eq_false_iff_ne]; omega
  have hpi : (p : Int) < (M.length : Int) := by omega
  have hii : (i : Int) < (M.length : Int) := by omega
  have h0p : 0 ≤ (p : Int) := by omega
  have h0i : 0 ≤ (i : Int) := by omega
  have hl4 : M.length ≤ 400 := by omega
  obtain ⟨K, hK⟩ : ∃ K, K = wo (ndA T p).ki i := ⟨_, rfl⟩
  rw [← hK] at HCW hm hput
  have hKl : K.length ≤ 400 := by rw [hK]; exact Nat.le_trans (wo_le _ _) hkl
  obtain ⟨N, hNK⟩ : ∃ N, N = K.length := ⟨_, rfl⟩
  have hmN : ¬ (N : Int) < (m : Int) := by omega
  have h0m : ¬ (m : Int) < 0 := by omega
  have hN4 : N ≤ 400 := by omega
  have hmN2 : m ≤ N := by omega
  have HH := Lib.hid h1
  have HM := Lib.hid hM
  have HY := Lib.hid hy
  have HZ := Lib.hid hz
  have HYX := Lib.hid hyx
  have HZX := Lib.hid hzx
  have HK := Lib.hid hK
  have HNK := Lib.hid hNK
  have HNE := Lib.hid hne
  have HPL := Lib.hid hp
  have HIL := Lib.hid hi
  have HWF := Lib.hid hW
  have HPQ := Lib.hid hpq
  have HKQ := Lib.hid hkq
  have HPUT := Lib.hid hput
  have HTL := Lib.hid hlM
  clear h1 hM hlM hy hz hyx hzx hrd hvk hN0 hK hNK hW hF hT hi hp hi0 hk3 hk4 hna hin hcw hne hxk hm hkl hkq hpq hput hKl
  go_enter Tryz.func27, Tryz.ntmps27
  go_upto_region 14 with (first
    | (go_at_call 43; first | ((with_reducible refine (HH1.out).mono ?_); rintro e w' ⟨rfl, rfl⟩) | ((with_reducible refine (HH2.out).mono ?_); rintro e w' ⟨rfl, rfl⟩))
    | (go_at_call 58; refine (HIN.out).mono ?_; rintro e w' ⟨rfl, rfl⟩)
    | (go_at_call 59; refine (HCW.out).mono ?_; rintro e w1 ⟨v, rfl, ho1, hb1⟩; have HO1 := Lib.hid ho1; have HB1 := Lib.hid hb1; obtain ⟨_, A1, c1, e1, hc1, _⟩ := RdS.of_own ho1; rw [← HNK.out] at e1; obtain rfl := e1; clear ho1 hb1 hc1))
  go_upto_region 15 with (go_at_call 51; refine (HKP.out _ HB1.out).mono ?_; rintro e w2 ⟨⟨u, rfl⟩, tv2, v2, τ2, hi2, hkd⟩; have HKD := Lib.hid (hkd.pre HB1.out (fun k hk => (HH.out.tB k hk).2)); have H2 := Lib.hid hkd.rt; have HKW := Lib.hid hkd.kp; have HLT1 := Lib.hid hkd.lt; clear hkd)
  have hτ0 : ∀ k, w.heap.size ≤ k → ¬ τ k ≠ 0 := fun k hk e => by have := (HH.out.tB k e).2; omega
  have ho2 : w2.ownsRow w.heap.size 3 1 (.slice A1 N c1) K.length (kic K) := own_keep HO1.out (fun k hk => HKW.out.block k (own_lt HO1.out hk).2 (hτ0 k (own_lt HO1.out hk).1))
  rw [← HNK.out] at ho2
  have HO2 := Lib.hid ho2
  have HT1 : Hid (∀ k, (Value.slice A1 N c1).ownBlock = some k → τ2 k = 0) := fun k hk => Decidable.byContradiction fun e => by
    have h1 := own_lt HO1.out hk
    exact hτ0 k h1.1 (HLT1.out k h1.2 e)
  obtain ⟨p0, _⟩ := H2.out.heads
  have pr := H2.out.ltR
  have prL := H2.out.ltL
  obtain ⟨_, _, q4, _⟩ := H2.out.cell HZ.out
  obtain ⟨pz, hpz⟩ : ∃ pz, pz = z.x.pa := ⟨_, rfl⟩
  rw [← hpz] at q4
  have HPZ : Hid (pz = (ndA T i).pa) := by unfold Hid; rw [hpz, HZX.out]
  clear g0 hr hrL a0 a5 ho2 hpz hτ0
  go_upto_if 79 with fail
  go_cut [14] (fun _ wx => Hid (∃ (τ3 : Nat → Nat) (M1 : List NV), RT B R L cap (n + 1) tv2 (xs ++ [v2]) τ3 M1 wx ∧ M1.map NV.x = putT1 T i ∧ (∀ k, k < w2.heap.size → τ3 k ≠ 0 → τ2 k ≠ 0) ∧ Kept w2 wx (fun k => τ2 k ≠ 0)))
  case first =>
    by_cases hpz0 : 0 ≤ pz
    case neg =>
      have HP1 : Hid (putT1 T i = T) := by unfold Hid putT1; rw [if_neg (by rw [← HPZ.out]; exact hpz0)]
      go_wp2_with fail
      go_meet
      exact ⟨τ2, M, H2.out, by rw [HP1.out]; exact HM.out, fun _ _ e => e, Kept.refl _ _⟩
    case pos =>
      obtain ⟨q, rfl⟩ := Int.eq_ofNat_of_zero_le hpz0
      have HQL := Lib.hid (HPQ.out q HPZ.out.symm)
      have HP1 : Hid (putT1 T i = T.set q (kiN (ndA T q) (wo (ndA T q).ki i))) := by unfold Hid putT1; rw [← HPZ.out, if_pos hpz0]; rfl
      obtain ⟨yq, hyq, hyqx⟩ := nv_get HM.out (ndA_get HQL.out)
      have hqq : (q : Int) < (M.length : Int) := by have := HQL.out; have := HTL.out; omega
      obtain ⟨_, _, _, p5⟩ := H2.out.cell hyq
      have hrd := (H2.out.ki q yq hyq).toS (lim := w2.heap.size) (fun k hz => (H2.out.tB k (by rw [show τ2 k = 4 from hz]; omega)).2)
      obtain ⟨_, A, c, hvk, _, _⟩ := id hrd
      obtain ⟨Nq, hNq⟩ : ∃ Nq, Nq = yq.x.ki.length := ⟨_, rfl⟩
      rw [hvk, ← hNq] at hrd p5
      obtain ⟨Q, hQ⟩ : ∃ Q, Q = yq.x.ki := ⟨_, rfl⟩
      rw [← hQ] at hrd hNq
      have hN1 : Nq ≤ 400 := by rw [hNq, hQ, hyqx]; exact HKQ.out q HQL.out
      obtain ⟨N3, hN3⟩ : ∃ N3, N3 = (wo Q i).length := ⟨_, rfl⟩
      have HCW2 : Hid (∀ W', Below w2.heap.size w2 W' → Calls Tryz.prog 59 #[.slice A Nq c, .int .i64 (i : Int)] W' fun e w' => ∃ A3 c3, e = .returned (.slice A3 N3 c3) ∧ w'.ownsRow W'.heap.size 3 1 (.slice A3 N3 c3) N3 (kic (wo Q i)) ∧ Below W'.heap.size W' w') := fun W' hb => (c_without (x := i) (hrd.below hb) (by omega) hb.size).mono fun e w' hh => by
        obtain ⟨v, he, ho, hb⟩ := hh
        rw [← hN3] at ho
        obtain ⟨_, A3, c3, rfl, _, _⟩ := RdS.of_own ho
        exact ⟨A3, c3, he, ho, hb⟩
      have HQ := Lib.hid hQ
      have HN3 := Lib.hid hN3
      have HYQ := Lib.hid hyq
      have HYQX := Lib.hid hyqx
      have HKS : Hid (∀ W', Below w2.heap.size w2 W' → W'.cell? ⟨R, 0, none⟩ = some (.slice (some ⟨L, 0, none⟩) M.length cap) ∧ W'.cell? ⟨L, q * 6 + 5, none⟩ = some (.slice A Nq c)) := fun W' hb => ⟨(hb.cell (p := ⟨R, 0, none⟩) H2.out.ltR).trans p0, (hb.cell (p := ⟨L, q * 6 + 5, none⟩) H2.out.ltL).trans p5⟩
      have f5 := H2.out.free (q * 6 + 5)
      clear hrd hvk hNq hQ hN3 hyq hyqx
      go_upto_region 17 with fail
      refine wp_regionE (S := (fun W' => W'.cell? ⟨R, 0, none⟩ = some (.slice (some ⟨L, 0, none⟩) M.length cap) ∧ W'.cell? ⟨L, q * 6 + 5, none⟩ = some (.slice A Nq c))) [17] (by kernel_rfl) ?_ (fun hHeld => ?_)
      · (try dsimp only)
        (first | with_reducible exact HKS.out _ (Below.refl _ _) | with_reducible exact HKS.out _ (bl_drew (Below.refl _ _)) | with_reducible exact HKS.out _ HB3.out)
      refine wpAnyE_take0 (i := 0) (v := ?_) rfl (by kernel_rfl) (by kernel_rfl) (by kernel_rfl) (by kernel_rfl) (fun _ _ _ h => h) (Or.inl ⟨by rfl, ?_⟩) (fun _ => by assumption) ?_
      rotate_left
      · ((intro w hSw; clear hSw; go_simp); (try with_reducible rfl))
      try simp only [Act.put, List.setIfInBounds_toArray, List.set_cons_zero, List.set_cons_succ]
      refine wpAnyE_take0 (i := 1) (v := ?_) rfl (by kernel_rfl) (by kernel_rfl) (by kernel_rfl) (by kernel_rfl) (fun _ _ _ h => h) (Or.inl ⟨by rfl, ?_⟩) (fun _ => by assumption) ?_
      rotate_left
      · ((intro w hSw; clear hSw; go_simp); (try with_reducible rfl))
      try simp only [Act.put, List.setIfInBounds_toArray, List.set_cons_zero, List.set_cons_succ]
      refine wpAnyE_take0 (i := 2) (v := ?_) rfl (by kernel_rfl) (by kernel_rfl) (by kernel_rfl) (by kernel_rfl) (fun _ _ _ h => h) (Or.inl ⟨by rfl, ?_⟩) (fun _ => by assumption) ?_
      rotate_left
      · ((intro w hSw; clear hSw; go_simp); (try with_reducible rfl))
      try simp only [Act.put, List.setIfInBounds_toArray, List.set_cons_zero, List.set_cons_succ]
      refine wpAnyE_take (i := 3) (v := ?_) rfl (by kernel_rfl) (by kernel_rfl) (by kernel_rfl) (by kernel_rfl) (fun _ _ _ h => h) (Or.inl ⟨by rfl, ?_⟩) (by assumption) ?_
      rotate_left
      · ((intro w hSw; (try dsimp only at hSw); go_simp); (try with_reducible rfl))
      try simp only [Act.put, List.setIfInBounds_toArray, List.set_cons_zero, List.set_cons_succ]
      refine wpAnyE_take0 (i := 4) (v := ?_) rfl (by kernel_rfl) (by kernel_rfl) (by kernel_rfl) (by kernel_rfl) (fun _ _ _ h => h) (Or.inl ⟨by rfl, ?_⟩) (fun _ => by assumption) ?_
      rotate_left
      · ((intro w hSw; clear hSw; go_simp); (try with_reducible rfl))
      try simp only [Act.put, List.setIfInBounds_toArray, List.set_cons_zero, List.set_cons_succ]
      refine wpAnyE_take0 (i := 5) (v := ?_) rfl (by kernel_rfl) (by kernel_rfl) (by kernel_rfl) (by kernel_rfl) (fun _ _ _ h => h) (Or.inl ⟨by rfl, ?_⟩) (fun _ => by assumption) ?_
      rotate_left
      · ((intro w hSw; clear hSw; go_simp); (try with_reducible rfl))
      try simp only [Act.put, List.setIfInBounds_toArray, List.set_cons_zero, List.set_cons_succ]
      refine wpAnyE_take0 (i := 6) (v := ?_) rfl (by kernel_rfl) (by kernel_rfl) (by kernel_rfl) (by kernel_rfl) (fun _ _ _ h => h) (Or.inl ⟨by rfl, ?_⟩) (fun _ => by assumption) ?_
      rotate_left
      · ((intro w hSw; clear hSw; go_simp); (try with_reducible rfl))
      try simp only [Act.put, List.setIfInBounds_toArray, List.set_cons_zero, List.set_cons_succ]
      refine wpAnyE_take0 (i := 7) (v := ?_) rfl (by kernel_rfl) (by kernel_rfl) (by kernel_rfl) (by kernel_rfl) (fun _ _ _ h => h) (Or.inl ⟨by rfl, ?_⟩) (fun _ => by assumption) ?_
      rotate_left
      · ((intro w hSw; clear hSw; go_simp); (try with_reducible rfl))
      try simp only [Act.put, List.setIfInBounds_toArray, List.set_cons_zero, List.set_cons_succ]
      refine wpAnyE_take (i := 8) (v := ?_) rfl (by kernel_rfl) (by kernel_rfl) (by kernel_rfl) (by kernel_rfl) (fun _ _ _ h => h) (Or.inl ⟨by rfl, ?_⟩) (by assumption) ?_
      rotate_left
      · ((intro w hSw; (try dsimp only at hSw); go_simp); (try with_reducible rfl))
      try simp only [Act.put, List.setIfInBounds_toArray, List.set_cons_zero, List.set_cons_succ]
      refine wpAnyE_take0 (i := 9) (v := ?_) rfl (by kernel_rfl) (by kernel_rfl) (by kernel_rfl) (by kernel_rfl) (fun _ _ _ h => h) (Or.inl ⟨by rfl, ?_⟩) (fun _ => by assumption) ?_
      rotate_left
      · ((intro w hSw; clear hSw; go_simp); (try with_reducible rfl))
      try simp only [Act.put, List.setIfInBounds_toArray, List.set_cons_zero, List.set_cons_succ]
      refine wpAnyE_take0 (i := 10) (v := ?_) rfl (by kernel_rfl) (by kernel_rfl) (by kernel_rfl) (by kernel_rfl) (fun _ _ _ h => h) (Or.inl ⟨by rfl, ?_⟩) (fun _ => by assumption) ?_
      rotate_left
      · ((intro w hSw; clear hSw; go_simp); (try with_reducible rfl))
      try simp only [Act.put, List.setIfInBounds_toArray, List.set_cons_zero, List.set_cons_succ]
      refine wpAnyE_take0 (i := 11) (v := ?_) rfl (by kernel_rfl) (by kernel_rfl) (by kernel_rfl) (by kernel_rfl) (fun _ _ _ h => h) (Or.inl ⟨by rfl, ?_⟩) (fun _ => by assumption) ?_
      rotate_left
      · ((intro w hSw; clear hSw; go_simp); (try with_reducible rfl))
      try simp only [Act.put, List.setIfInBounds_toArray, List.set_cons_zero, List.set_cons_succ]
      refine wpAnyE_take (i := 12) (v := ?_) rfl (by kernel_rfl) (by kernel_rfl) (by kernel_rfl) (by kernel_rfl) (fun _ _ _ h => h) (Or.inl ⟨by rfl, ?_⟩) (by assumption) ?_
      rotate_left
      · ((intro w hSw; (try dsimp only at hSw); go_simp); (try with_reducible rfl))
      try simp only [Act.put, List.setIfInBounds_toArray, List.set_cons_zero, List.set_cons_succ]
      refine wpAnyE_take0 (i := 13) (v := ?_) rfl (by kernel_rfl) (by kernel_rfl) (by kernel_rfl) (by kernel_rfl) (fun _ _ _ h => h) (Or.inl ⟨by rfl, ?_⟩) (fun _ => by assumption) ?_
      rotate_left
      · ((intro w hSw; clear hSw; go_simp); (try with_reducible rfl))
      try simp only [Act.put, List.setIfInBounds_toArray, List.set_cons_zero, List.set_cons_succ]
      refine wpAnyE_ready (rs := [14]) (by kernel_rfl) (by simp) ?_
      refine AllE.cons rfl (fun K hK => ?_) ?_
      · (go_simp; go_at_call 59; (with_reducible refine (HCW2.out _ (bl_drew (Below.refl _ _))).mono ?_); rintro e w3 ⟨A3, c3, rfl, ho3, hb3⟩; have HO3 := Lib.hid ho3; have HB3 : Hid (Below w2.heap.size w2 w3) := bl_trans (bl_drew (Below.refl _ _)) hb3; have l3 : L < w3.heap.size := Nat.lt_of_lt_of_le H2.out.ltL HB3.out.size; have f6 : w3.frozen? ⟨L, q * 6 + 5, none⟩ = false := (H2.out.below HB3.out).free _; clear ho3 hb3)
        refine hK.out _ _ ?_ (fun hHeld => ?_)
        · (try dsimp only)
          (first | with_reducible exact HKS.out _ (Below.refl _ _) | with_reducible exact HKS.out _ (bl_drew (Below.refl _ _)) | with_reducible exact HKS.out _ HB3.out)
        clear hK K
        try simp only [Act.put, List.setIfInBounds_toArray, List.set_cons_zero, List.set_cons_succ]
        refine wpAnyE_take0 (i := 15) (v := ?_) rfl (by kernel_rfl) (by kernel_rfl) (by kernel_rfl) (by kernel_rfl) (fun _ _ _ h => h) (Or.inl ⟨by rfl, ?_⟩) (fun _ => by assumption) ?_
        rotate_left
        · ((intro w hSw; clear hSw; go_simp); (try with_reducible rfl))
        try simp only [Act.put, List.setIfInBounds_toArray, List.set_cons_zero, List.set_cons_succ]
        refine wpAnyE_take0 (i := 16) (v := ?_) rfl (by kernel_rfl) (by kernel_rfl) (by kernel_rfl) (by kernel_rfl) (fun _ _ _ h => h) (Or.inl ⟨by rfl, ?_⟩) (fun _ => by assumption) ?_
        rotate_left
        · ((intro w hSw; clear hSw; go_simp); (try with_reducible rfl))
        try simp only [Act.put, List.setIfInBounds_toArray, List.set_cons_zero, List.set_cons_succ]
        refine wpAnyE_ready (rs := [17]) (by kernel_rfl) (by simp) ?_
        refine AllE.last rfl (by kernel_rfl) (fun K hK => ?_) ?_
        · go_simp
          refine hK.out _ _ ?_
          clear hK K
          try simp only [Act.put, List.setIfInBounds_toArray, List.set_cons_zero, List.set_cons_succ]
          refine wpAnyE_done (by kernel_rfl) ?_ _
          go_wp2_with fail
          go_meet
          have h6 := (H2.out.below HB3.out).tag (fun k => (Value.slice A3 N3 c3).ownBlock = some k) 4 (fun k e => by
            have h1 := own_lt HO3.out e
            have h2 : w2.heap.size ≤ k := h1.1
            refine ⟨Nat.le_trans H2.out.hB h2, h1.2, Decidable.byContradiction fun e => ?_⟩
            have := (H2.out.tB k e).2
            omega)
          have h7 := h6.setN (y' := ⟨kiN yq.x (wo Q i), yq.va, .slice A3 N3 c3⟩) HYQ.out 5 (by omega) (.slice A3 N3 c3) rfl ⟨rfl, rfl⟩ (by
            show RdZ w3 _ 1 (.slice A3 N3 c3) (wo Q i).length (kic (wo Q i))
            rw [← HN3.out]
            exact RdZ.of_own HO3.out (fun g e => if_pos e))
          refine ⟨_, _, h7, ?_, fun k hk hf => ?_, (Kept.of_below HB3.out (fun k => τ2 k ≠ 0)).set_ L _ (fun _ => by rw [H2.out.tL]; omega) _⟩
          · rw [List.map_set, HM.out, HP1.out]
            show T.set q (kiN yq.x (wo Q i)) = _
            rw [HYQX.out, HQ.out, HYQX.out]
          · have hf : (if (Value.slice A3 N3 c3).ownBlock = some k then 4 else τ2 k) ≠ 0 := hf
            rw [if_neg (fun e => by have h1 : w2.heap.size ≤ k := (own_lt HO3.out e).1; omega)] at hf
            exact hf
        exact AllE.nil
      exact AllE.nil
  case rest =>
    obtain ⟨τ3, M1, h3, hm3, hlt3, hk3⟩ := hcut.out
    obtain ⟨w9, rfl⟩ : ∃ w9 : World, w9 = wc := ⟨_, rfl⟩
    have H3 := Lib.hid h3
    have HM3 := Lib.hid hm3
    have HLT3 := Lib.hid hlt3
    have HK3 := Lib.hid hk3
    have hl3 : M1.length = M.length := by
      have := congrArg List.length hm3
      rw [putT1_len, List.length_map] at this
      rw [this, HTL.out]
    have HL3 := Lib.hid hl3
    obtain ⟨y1, hy1, hy1x⟩ := nv_get hm3 (ndA_get (i := p) (by rw [putT1_len]; exact HPL.out))
    obtain ⟨z1, hz1, hz1x⟩ := nv_get hm3 (ndA_get (i := i) (by rw [putT1_len]; exact HIL.out))
    have HY1 := Lib.hid hy1
    have HZ1 := Lib.hid hz1
    have HY1X := Lib.hid hy1x
    have HZ1X := Lib.hid hz1x
    have ho9 : w9.ownsRow w.heap.size 3 1 (.slice A1 N c1) N (kic K) := own_keep HO2.out (fun k hk => HK3.out.block k (own_lt HO2.out hk).2 (fun e => e (HT1.out k hk)))
    have hr2 := RdS.of_own ho9
    obtain ⟨U1, hU1, hR1⟩ := rd_to Tryz.underlying38 inf_I hr2 m hmN2
    obtain ⟨U2, hU2, hR2⟩ := rd_from Tryz.underlying38 inf_I hr2 m hmN2
    rw [kic_take] at hR1
    rw [kic_drop] at hR2
    have HU1 := Lib.hid hU1
    have HU2 := Lib.hid hU2
    have HR1 := Lib.hid hR1
    have HR2 := Lib.hid hR2
    have HF2 : Hid (∀ W', Below w9.heap.size w9 W' → (W'.cell? ⟨R, 0, none⟩ = some (.slice (some ⟨L, 0, none⟩) M.length cap) ∧ R < W'.heap.size ∧ L < W'.heap.size ∧ (∀ j, W'.frozen? ⟨L, j, none⟩ = false) ∧ (∀ k y, M1[k]? = some y → W'.cell? ⟨L, k * 6 + 5, none⟩ = some y.vk ∧ W'.cell? ⟨L, k * 6 + 4, none⟩ = some (.int .i64 y.x.pa)))) := fun W' hb => by
      have h' := H3.out.below hb
      exact ⟨by rw [h'.heads.1, HL3.out], h'.ltR, h'.ltL, h'.free, fun k y hy => ⟨(h'.cell hy).2.2.2, (h'.cell hy).2.2.1⟩⟩
    clear hcut h3 hm3 hlt3 hk3 hl3 hy1 hz1 hy1x hz1x ho9 hr2 hU1 hU2 hR1 hR2 p0 pr prL q4
    go_upto_region 20 with (first
      | (refine wp_sliceEq (o := ⟨some 108, _, _, _, _, _⟩) rfl 38 _ _ _ rfl Tryz.underlying38 (.slice A1 N c1) none (some (.int .i64 (m : Int))) rfl rfl rfl U1 HU1.out ?_)
      | (at_builtin; refine wp_spread rfl _ _ 38 rfl w9.heap.size 3 Tryz.underlying38 inf_I rfl (by decide) (.slice none 0 0) 0 [] rfl (World.ownsRow_nil _ _ _ _) w9.heap.size U1 m (kic (K.take m)) rfl HR1.out (one_kic _) (by unfold maxLen; omega) (by omega) (Nat.le_refl _) ?_; intro v3 w3 ho3 hg3 hat3; have HO3 := Lib.hid ho3; have HB3 : Hid (Below w9.heap.size w9 w3) := (Below.refl _ _).grown hg3 (Nat.le_refl _) (fun k hk => by simp [Value.ownBlock] at hk); clear ho3 hg3 hat3))
    have hz3 : w9.heap.size ≤ w3.heap.size := HB3.out.size
    go_upto_region 21 with (at_builtin; refine wp_push rfl _ _ 38 rfl w9.heap.size 3 Tryz.underlying38 inf_I rfl (by decide) w3 v3 (0 + m) ([] ++ kic (K.take m)) [.int .i64 (i : Int)] rfl rfl rfl HO3.out rfl (by simp [Value.oneCell']) (by omega) (by omega) hz3 ?_; intro v4 w4 hpush; have HPU := Lib.hid hpush; have HB4 : Hid (Below w9.heap.size w9 w4) := hpush.below HB3.out (Nat.le_refl _) hz3; clear hpush)
    have hz4 : w9.heap.size ≤ w4.heap.size := HB4.out.size
    go_upto_region 22 with (first
      | (refine wp_sliceEq (o := ⟨some 117, _, _, _, _, _⟩) rfl 38 _ _ _ rfl Tryz.underlying38 (.slice A1 N c1) (some (.int .i64 (m : Int))) none rfl rfl rfl U2 HU2.out ?_)
      | (at_builtin; refine wp_spread rfl _ _ 38 rfl w9.heap.size 3 Tryz.underlying38 inf_I rfl (by decide) v4 (0 + m + 1) (([] ++ kic (K.take m)) ++ [.int .i64 (i : Int)]) rfl HPU.out.own w9.heap.size U2 (N - m) (kic (K.drop m)) rfl (HR2.out.below HB4.out) (one_kic _) (by unfold maxLen; omega) (by omega) hz4 ?_; intro v5 w5 ho5 hg5 hat5; have ho6 : w5.ownsRow w9.heap.size 3 1 v5 (N + 1) (kic (insA K m i)) := (by have := ho5; rw [show 0 + m + 1 + (N - m) = N + 1 by omega, ins_kic] at this; exact this); obtain ⟨g5, q5, e5, _, _⟩ := ho6.form (by omega); subst e5; have HO5 := Lib.hid ho6; have HB5 : Hid (Below w9.heap.size w9 w5) := HB4.out.grown hg5 hz4 (fun k hk => (own_lt HPU.out.own hk).1); clear ho5 hg5 hat5 ho6))
    obtain ⟨s0, s1, s2, s3, s4⟩ := HF2.out w5 HB5.out
    have s5 := (s4 p y1 HY1.out).1
    have s6 := (s4 i z1 HZ1.out).2
    have s7 := s3 (p * 6 + 5)
    have s8 := s3 (i * 6 + 4)
    clear s3 s4
    go_wp2_with fail
    go_ret
    have hgl := own_lt HO5.out (k := g5) rfl
    have hτg : τ3 g5 = 0 := by
      rcases Nat.eq_zero_or_pos (τ3 g5) with e | e
      · exact e
      · have := (H3.out.tB g5 (by omega)).2; omega
    have hBB : B ≤ g5 := by have := H3.out.hB; omega
    have h6 := (H3.out.below HB5.out).tag (fun k => k = g5) 4 (fun k e => by subst e; exact ⟨hBB, hgl.2, hτg⟩)
    have h7 := h6.setN (y' := ⟨kiN y1.x (insA K m i), y1.va, .slice (some ⟨g5, 0, none⟩) (N + 1) q5⟩) HY1.out 5 (by omega) (.slice (some ⟨g5, 0, none⟩) (N + 1) q5) rfl ⟨rfl, rfl⟩ (by
      have hl : (insA K m i).length = N + 1 := by rw [ins_len, HNK.out]
      show RdZ w5 _ 1 (.slice (some ⟨g5, 0, none⟩) (N + 1) q5) (insA K m i).length (kic (insA K m i))
      rw [hl]
      exact RdZ.of_own HO5.out (fun g e => by injection e with e; subst e; exact if_pos rfl))
    have hz' : (M1.set p ⟨kiN y1.x (insA K m i), y1.va, .slice (some ⟨g5, 0, none⟩) (N + 1) q5⟩)[i]? = some z1 := by
      rw [List.getElem?_set, if_neg HNE.out]; exact HZ1.out
    have h8 := h7.setN (y' := ⟨paN z1.x (p : Int), z1.va, z1.vk⟩) hz' 4 (by omega) (.int .i64 (p : Int)) rfl ⟨rfl, rfl⟩ (h7.ki i z1 hz')
    refine ⟨rfl, HKD.out.then_ HM.out ⟨_, _, _, _, h8, ?_⟩ (fun k hk hf => ?_) ?_⟩
    · rw [← HPUT.out, List.map_set, List.map_set, HM3.out]
      rw [ndA_set (by rw [putT1_len]; exact HPL.out), if_neg (Ne.symm HNE.out)]
      show ((putT1 T i).set p (kiN y1.x (insA K m i))).set i (paN z1.x (p : Int)) = _
      rw [HY1X.out, HZ1X.out]
    · have hf : (if k = g5 then 4 else τ3 k) ≠ 0 := hf
      have h92 := HK3.out.size
      rw [if_neg (by omega)] at hf
      exact HLT3.out k hk hf
    · have k1 : Kept w2 w5 (fun k => τ2 k ≠ 0) := HK3.out.then_ (Kept.of_below HB5.out (fun _ => False)) (fun _ _ e => e.elim)
      exact (k1.set_ L _ (fun hk => HLT3.out L hk (by rw [H3.out.tL]; omega)) _).set_ L _ (fun hk => HLT3.out L hk (by rw [H3.out.tL]; omega)) _
end Go.Proofs.YtimlmekgapdkiaaGreatDoor
