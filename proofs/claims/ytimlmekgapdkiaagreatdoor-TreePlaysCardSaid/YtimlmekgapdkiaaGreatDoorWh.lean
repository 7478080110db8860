/- the document's Set that drops an attribute -/
import Derived.Test.YtimlmekgapdkiaaGreatDoorWg
import Derived.Test.YtimlmekgapdkiaaGreatDoorVg
namespace Go.Proofs.YtimlmekgapdkiaaGreatDoor
set_option linter.unusedVariables false
set_option linter.unusedSimpArgs false
open Go.RowKit Go.Cas

theorem step_sliceEq {P : Program} {w : World} {ops : Array Oper} {o : Oper} {a : Act} {K : Act → World → Prop} {Q : Exit → Act → World → Prop} {E : Prop} (hgd : o.guard = none) (t : TypeId) {e : TypeId} (x : Operand) (lo hi : Option Operand) (ho : o.op = .slice t x lo hi none) (ht : P.underlying t = some (.slice e))
    (v : Value) (L H : Option Value) (hs : a.eval x = v) (hL : lo.map a.eval = L) (hH : hi.map a.eval = H) (U : Value) (hrun : ∀ w' : World, (Instr.slice t v L H none).run P w' = .ok U w') (h : K (a.put o.dst U) w) :
    if Region.wanted o (yielded ops a.tmps) = true then Oper.wp P o a w K Q else E := by
  have hw : Region.wanted o (yielded ops a.tmps) = true := by simp [Region.wanted, hgd]
  rw [if_pos hw]
  unfold Oper.wp execOp
  have h1 : (Instr.sliceAt t v L H none).run P w = .ok U w := by
    rw [run_sliceAt_slice w t v L H none (elem_of ht)]; exact hrun w
  simp only [ho, Option.map_none, hs, hL, hH, Sem.run_bind, Sem.run_pure, Result.andThen_ok, h1]
  exact h
theorem erase_eq {α : Type} (l : List α) (k : Nat) : l.take k ++ l.drop (k + 1) = l.eraseIdx k := (List.eraseIdx_eq_take_drop_succ l k).symm
theorem atc_take2 (l : List (ByteArray × ByteArray)) (m : Nat) : (atc l).take (m * 2) = atc (l.take m) := by
  unfold atc
  induction l generalizing m with
  | nil => simp
  | cons a l ih =>
    cases m with
    | zero => simp
    | succ m =>
      rw [List.flatMap_cons, List.take_succ_cons, List.flatMap_cons, ← ih m, show (m + 1) * 2 = m * 2 + 1 + 1 by omega]
      rfl
theorem atc_drop2 (l : List (ByteArray × ByteArray)) (m : Nat) : (atc l).drop (m * 2) = atc (l.drop m) := by
  unfold atc
  induction l generalizing m with
  | nil => simp
  | cons a l ih =>
    cases m with
    | zero => simp
    | succ m =>
      rw [List.flatMap_cons, List.drop_succ_cons, ← ih m, show (m + 1) * 2 = m * 2 + 1 + 1 by omega]
      rfl
theorem atc_app2 (l r : List (ByteArray × ByteArray)) : atc l ++ atc r = atc (l ++ r) := by unfold atc; rw [List.flatMap_append]
set_option maxRecDepth 100000 in
set_option maxHeartbeats 16000000 in
theorem c_rDrop {w : World} {B R n i k : Nat} {τ : Nat → Nat} {xs : List Value} {T : List Nod} (h : RSx B R T n xs τ w) (hT : T.length ≤ 400) (hF : FewT T) (hn : n ≤ 1000000) (hi : i < T.length) (nm v : ByteArray) (hk2 : (ndA T i).k = 2) (hf : fnd (ndA T i).at_ nm = (k : Int)) (hkl : k < (ndA T i).at_.length) :
    Calls Tryz.prog 31 #[.pointer (some ⟨R, 0, none⟩), .int .i64 (i : Int), .string nm, .string v, .bool true] w (RStRet B R (T.set i (atN (ndA T i) ((ndA T i).at_.eraseIdx k))) T n xs τ w) := by
  have HH := Lib.hid (c_rHas h.rs i hi hT)
  obtain ⟨L, cap, tv, M, h1, hM⟩ := h
  have hlM : M.length = T.length := by rw [← hM]; simp
  obtain ⟨y, hy, hyx⟩ := nv_get hM (ndA_get hi)
  have hfy := hF.few hM y (List.mem_of_getElem? hy)
  have hat := c_rAt (s := nm) (RdS.of_own (h1.at_ i y hy)) (by omega) (Nat.le_refl _)
  rw [hyx, hf] at hat
  have HAT := Lib.hid hat
  have HKP := Lib.hid (c_rKeep h1 (by omega) (hF.few hM) hn)
  obtain ⟨g0, _⟩ := h1.heads
  have hr := h1.ltR
  have hrL := h1.ltL
  obtain ⟨⟨a0, _, _⟩, a3, _⟩ := h1.cell hy
  rw [hyx, hk2] at a0
  have hii : (i : Int) < (M.length : Int) := by omega
  have hl4 : M.length ≤ 400 := by omega
  obtain ⟨m, hm⟩ : ∃ m, m = y.x.at_.length := ⟨_, rfl⟩
  have hkm : k < m := by rw [hm, hyx]; exact hkl
  have hkmi : (k : Int) < (m : Int) := by omega
  have hm6 : m ≤ 1000000 := by rw [hm]; exact hfy.1
  have ho := h1.at_ i y hy
  obtain ⟨_, A, c, hva, _, _⟩ := RdS.of_own ho
  rw [hva, ← hm] at a3 HAT
  have HVA := Lib.hid hva
  have HMM := Lib.hid hM
  have HM0 := Lib.hid hm
  have HY := Lib.hid hy
  have HYX := Lib.hid hyx
  have hk0 : ¬ (k : Int) < 0 := by omega
  clear h1 hM hlM hy hyx hfy hF hT hi hat ho hva hm hf hkl hk2
  go_enter Tryz.func31, Tryz.ntmps31
  go_upto_region 11 with (first
    | (go_at_call 43; refine (HH.out).mono ?_; rintro e w' ⟨rfl, rfl⟩)
    | (go_at_call 44; refine (HAT.out).mono ?_; rintro e w' ⟨rfl, rfl⟩)
    | (go_at_call 51; refine (HKP.out).mono ?_; rintro e w2 ⟨⟨u, rfl⟩, tv2, v2, τ2, hi2, hkd⟩; have HKD := Lib.hid hkd; have H2 := Lib.hid hkd.rt; clear hkd))
  obtain ⟨p0, _⟩ := H2.out.heads
  have pr := H2.out.ltR
  have prL := H2.out.ltL
  obtain ⟨_, p3, _⟩ := H2.out.cell HY.out
  have ho2 := H2.out.at_ i y HY.out
  rw [HVA.out, ← HM0.out] at p3 ho2
  have hrd := RdS.of_own ho2
  obtain ⟨U1, hU1, hR1⟩ := rd_to Tryz.underlying37 inf_A hrd k (by omega)
  obtain ⟨U2, hU2, hR2⟩ := rd_from Tryz.underlying37 inf_A hrd (k + 1) (by omega)
  rw [atc_take2] at hR1
  rw [atc_drop2] at hR2
  obtain ⟨l1, hl1⟩ : ∃ l1, l1 = y.x.at_.take k := ⟨_, rfl⟩
  obtain ⟨l2, hl2⟩ : ∃ l2, l2 = y.x.at_.drop (k + 1) := ⟨_, rfl⟩
  rw [← hl1] at hR1
  rw [← hl2] at hR2
  have HU1 := Lib.hid hU1
  have HU2 := Lib.hid hU2
  have HR1 := Lib.hid hR1
  have HR2 := Lib.hid hR2
  have HL12 : Hid (l1 ++ l2 = y.x.at_.eraseIdx k) := by unfold Hid; rw [hl1, hl2, erase_eq]
  have hw1 : IntKind.i64.wrap ((k : Int) + 1) = ((k + 1 : Nat) : Int) := by rw [IntWalk.i64_in _ (by omega)]; rfl
  have HKS : Hid (∀ W', Below w2.heap.size w2 W' → W'.cell? ⟨R, 0, none⟩ = some (.slice (some ⟨L, 0, none⟩) M.length cap) ∧ W'.cell? ⟨L, i * 6 + 3, none⟩ = some (.slice A m c)) := fun W' hb => ⟨(hb.cell (p := ⟨R, 0, none⟩) H2.out.ltR).trans p0, (hb.cell (p := ⟨L, i * 6 + 3, none⟩) H2.out.ltL).trans p3⟩
  clear g0 hr hrL a0 a3 ho2 hrd hU1 hU2 hR1 hR2 hl1 hl2
  go_upto_region 13 with (first
    | (refine wp_sliceEq (o := ⟨some 54, _, _, _, _, _⟩) rfl 37 _ _ _ rfl Tryz.underlying37 (.slice A m c) none (some (.int .i64 (k : Int))) rfl rfl rfl U1 HU1.out ?_)
    | (at_builtin; refine wp_spread rfl _ _ 37 rfl w2.heap.size 79 Tryz.underlying37 inf_A rfl (by decide) (.slice none 0 0) 0 [] rfl (World.ownsRow_nil _ _ _ _) w2.heap.size U1 k (atc l1) rfl HR1.out (one_atc _) (by unfold maxLen; omega) (by omega) (Nat.le_refl _) ?_; intro v3 w3 ho3 hg3 hat3; rw [Nat.zero_add, List.nil_append] at ho3; have HO3 := Lib.hid ho3; have HB3 : Hid (Below w2.heap.size w2 w3) := (Below.refl _ _).grown hg3 (Nat.le_refl _) (fun k hk => by simp [Value.ownBlock] at hk); clear ho3 hg3 hat3))
  have hz3 : w2.heap.size ≤ w3.heap.size := HB3.out.size
  have l3 : L < w3.heap.size := Nat.lt_of_lt_of_le H2.out.ltL HB3.out.size
  obtain ⟨p0, p3⟩ := HKS.out w3 HB3.out
  have pr3 : R < w3.heap.size := Nat.lt_of_lt_of_le pr hz3
  have HKS3 : Hid (∀ W', Below w3.heap.size w3 W' → W'.cell? ⟨R, 0, none⟩ = some (.slice (some ⟨L, 0, none⟩) M.length cap) ∧ W'.cell? ⟨L, i * 6 + 3, none⟩ = some (.slice A m c)) := fun W' hb => HKS.out W' (bl_trans HB3.out hb)
  have f5 : w3.frozen? ⟨L, i * 6 + 3, none⟩ = false := (H2.out.below HB3.out).free _
  refine wp_regionE (S := (fun W' => W'.cell? ⟨R, 0, none⟩ = some (.slice (some ⟨L, 0, none⟩) M.length cap) ∧ W'.cell? ⟨L, i * 6 + 3, none⟩ = some (.slice A m c))) [20] (by kernel_rfl) ?_ (fun hHeld => ?_)
  · (try dsimp only)
    (first | with_reducible exact HKS3.out _ (Below.refl _ _) | with_reducible exact HKS3.out _ (bl_drew (Below.refl _ _)) | with_reducible exact HKS.out _ HB5.out)
  refine wpAnyE_take0 (i := 0) (v := ?_) rfl (by kernel_rfl) (by kernel_rfl) (by kernel_rfl) (by kernel_rfl) (fun _ _ _ h => h) (Or.inl ⟨by rfl, ?_⟩) (fun _ => by assumption) ?_
  rotate_left
  · ((intro w hSw; clear hSw; go_simp); (try with_reducible rfl))
  try simp only [Act.put, List.getElem_toArray, List.getElem_cons_zero, List.getElem_cons_succ, List.setIfInBounds_toArray, List.set_cons_zero, List.set_cons_succ]
  refine wpAnyE_take0 (i := 1) (v := ?_) rfl (by kernel_rfl) (by kernel_rfl) (by kernel_rfl) (by kernel_rfl) (fun _ _ _ h => h) (Or.inl ⟨by rfl, ?_⟩) (fun _ => by assumption) ?_
  rotate_left
  · ((intro w hSw; clear hSw; go_simp); (try with_reducible rfl))
  try simp only [Act.put, List.getElem_toArray, List.getElem_cons_zero, List.getElem_cons_succ, List.setIfInBounds_toArray, List.set_cons_zero, List.set_cons_succ]
  refine wpAnyE_take0 (i := 2) (v := ?_) rfl (by kernel_rfl) (by kernel_rfl) (by kernel_rfl) (by kernel_rfl) (fun _ _ _ h => h) (Or.inl ⟨by rfl, ?_⟩) (fun _ => by assumption) ?_
  rotate_left
  · ((intro w hSw; clear hSw; go_simp); (try with_reducible rfl))
  try simp only [Act.put, List.getElem_toArray, List.getElem_cons_zero, List.getElem_cons_succ, List.setIfInBounds_toArray, List.set_cons_zero, List.set_cons_succ]
  refine wpAnyE_take (i := 3) (v := ?_) rfl (by kernel_rfl) (by kernel_rfl) (by kernel_rfl) (by kernel_rfl) (fun _ _ _ h => h) (Or.inl ⟨by rfl, ?_⟩) (by assumption) ?_
  rotate_left
  · ((intro w hSw; (try dsimp only at hSw); go_simp); (try with_reducible rfl))
  try simp only [Act.put, List.getElem_toArray, List.getElem_cons_zero, List.getElem_cons_succ, List.setIfInBounds_toArray, List.set_cons_zero, List.set_cons_succ]
  refine wpAnyE_take0 (i := 4) (v := ?_) rfl (by kernel_rfl) (by kernel_rfl) (by kernel_rfl) (by kernel_rfl) (fun _ _ _ h => h) (Or.inl ⟨by rfl, ?_⟩) (fun _ => by assumption) ?_
  rotate_left
  · ((intro w hSw; clear hSw; go_simp); (try with_reducible rfl))
  try simp only [Act.put, List.getElem_toArray, List.getElem_cons_zero, List.getElem_cons_succ, List.setIfInBounds_toArray, List.set_cons_zero, List.set_cons_succ]
  refine wpAnyE_take0 (i := 5) (v := ?_) rfl (by kernel_rfl) (by kernel_rfl) (by kernel_rfl) (by kernel_rfl) (fun _ _ _ h => h) (Or.inl ⟨by rfl, ?_⟩) (fun _ => by assumption) ?_
  rotate_left
  · ((intro w hSw; clear hSw; go_simp); (try with_reducible rfl))
  try simp only [Act.put, List.getElem_toArray, List.getElem_cons_zero, List.getElem_cons_succ, List.setIfInBounds_toArray, List.set_cons_zero, List.set_cons_succ]
  refine wpAnyE_take0 (i := 6) (v := ?_) rfl (by kernel_rfl) (by kernel_rfl) (by kernel_rfl) (by kernel_rfl) (fun _ _ _ h => h) (Or.inl ⟨by rfl, ?_⟩) (fun _ => by assumption) ?_
  rotate_left
  · ((intro w hSw; clear hSw; go_simp); (try with_reducible rfl))
  try simp only [Act.put, List.getElem_toArray, List.getElem_cons_zero, List.getElem_cons_succ, List.setIfInBounds_toArray, List.set_cons_zero, List.set_cons_succ]
  refine wpAnyE_take0 (i := 7) (v := ?_) rfl (by kernel_rfl) (by kernel_rfl) (by kernel_rfl) (by kernel_rfl) (fun _ _ _ h => h) (Or.inl ⟨by rfl, ?_⟩) (fun _ => by assumption) ?_
  rotate_left
  · ((intro w hSw; clear hSw; go_simp); (try with_reducible rfl))
  try simp only [Act.put, List.getElem_toArray, List.getElem_cons_zero, List.getElem_cons_succ, List.setIfInBounds_toArray, List.set_cons_zero, List.set_cons_succ]
  refine wpAnyE_take0 (i := 8) (v := ?_) rfl (by kernel_rfl) (by kernel_rfl) (by kernel_rfl) (by kernel_rfl) (fun _ _ _ h => h) (Or.inl ⟨by rfl, ?_⟩) (fun _ => by assumption) ?_
  rotate_left
  · ((intro w hSw; clear hSw; go_simp); (try with_reducible rfl))
  try simp only [Act.put, List.getElem_toArray, List.getElem_cons_zero, List.getElem_cons_succ, List.setIfInBounds_toArray, List.set_cons_zero, List.set_cons_succ]
  refine wpAnyE_take (i := 9) (v := ?_) rfl (by kernel_rfl) (by kernel_rfl) (by kernel_rfl) (by kernel_rfl) (fun _ _ _ h => h) (Or.inl ⟨by rfl, ?_⟩) (by assumption) ?_
  rotate_left
  · ((intro w hSw; (try dsimp only at hSw); go_simp); (try with_reducible rfl))
  try simp only [Act.put, List.getElem_toArray, List.getElem_cons_zero, List.getElem_cons_succ, List.setIfInBounds_toArray, List.set_cons_zero, List.set_cons_succ]
  refine wpAnyE_take0 (i := 10) (v := ?_) rfl (by kernel_rfl) (by kernel_rfl) (by kernel_rfl) (by kernel_rfl) (fun _ _ _ h => h) (Or.inl ⟨by rfl, ?_⟩) (fun _ => by assumption) ?_
  rotate_left
  · ((intro w hSw; clear hSw; go_simp); (try with_reducible rfl))
  try simp only [Act.put, List.getElem_toArray, List.getElem_cons_zero, List.getElem_cons_succ, List.setIfInBounds_toArray, List.set_cons_zero, List.set_cons_succ]
  refine wpAnyE_take0 (i := 11) (v := ?_) rfl (by kernel_rfl) (by kernel_rfl) (by kernel_rfl) (by kernel_rfl) (fun _ _ _ h => h) (Or.inl ⟨by rfl, ?_⟩) (fun _ => by assumption) ?_
  rotate_left
  · ((intro w hSw; clear hSw; go_simp); (try with_reducible rfl))
  try simp only [Act.put, List.getElem_toArray, List.getElem_cons_zero, List.getElem_cons_succ, List.setIfInBounds_toArray, List.set_cons_zero, List.set_cons_succ]
  refine wpAnyE_take0 (i := 12) (v := ?_) rfl (by kernel_rfl) (by kernel_rfl) (by kernel_rfl) (by kernel_rfl) (fun _ _ _ h => h) (Or.inl ⟨by rfl, ?_⟩) (fun _ => by assumption) ?_
  rotate_left
  · ((intro w hSw; clear hSw; go_simp); (try with_reducible rfl))
  try simp only [Act.put, List.getElem_toArray, List.getElem_cons_zero, List.getElem_cons_succ, List.setIfInBounds_toArray, List.set_cons_zero, List.set_cons_succ]
  refine wpAnyE_take (i := 13) (v := ?_) rfl (by kernel_rfl) (by kernel_rfl) (by kernel_rfl) (by kernel_rfl) (fun _ _ _ h => h) (Or.inl ⟨by rfl, ?_⟩) (by assumption) ?_
  rotate_left
  · ((intro w hSw; (try dsimp only at hSw); go_simp); (try with_reducible rfl))
  try simp only [Act.put, List.getElem_toArray, List.getElem_cons_zero, List.getElem_cons_succ, List.setIfInBounds_toArray, List.set_cons_zero, List.set_cons_succ]
  refine wpAnyE_take0 (i := 14) (v := ?_) rfl (by kernel_rfl) (by kernel_rfl) (by kernel_rfl) (by kernel_rfl) (fun _ _ _ h => h) (Or.inl ⟨by rfl, ?_⟩) (fun _ => by assumption) ?_
  rotate_left
  · ((intro w hSw; clear hSw; go_simp); (try with_reducible rfl))
  try simp only [Act.put, List.getElem_toArray, List.getElem_cons_zero, List.getElem_cons_succ, List.setIfInBounds_toArray, List.set_cons_zero, List.set_cons_succ]
  refine wpAnyE_take0 (i := 15) (v := (.int .i64 ((k + 1 : Nat) : Int))) rfl (by kernel_rfl) (by kernel_rfl) (by kernel_rfl) (by kernel_rfl) (fun _ _ _ h => h) (Or.inl ⟨by rfl, ?_⟩) (fun _ => by assumption) ?_
  skip
  · ((intro w hSw; clear hSw; go_simp); skip)
  try simp only [Act.put, List.getElem_toArray, List.getElem_cons_zero, List.getElem_cons_succ, List.setIfInBounds_toArray, List.set_cons_zero, List.set_cons_succ]
  refine wpAnyE_ready (rs := [16]) (by kernel_rfl) (by simp) ?_
  refine AllE.cons rfl (fun K hK => ?_) ?_
  · (refine step_sliceEq (by rfl) 37 _ _ _ (by rfl) Tryz.underlying37 (.slice A m c) (some (.int .i64 ((k + 1 : Nat) : Int))) none (by rfl) (by rfl) (by rfl) U2 HU2.out ?_)
    refine hK.out _ _ ?_ (fun hHeld => ?_)
    · (try dsimp only)
      (first | with_reducible exact HKS3.out _ (Below.refl _ _) | with_reducible exact HKS3.out _ (bl_drew (Below.refl _ _)) | with_reducible exact HKS.out _ HB5.out)
    clear hK K
    try simp only [Act.put, List.getElem_toArray, List.getElem_cons_zero, List.getElem_cons_succ, List.setIfInBounds_toArray, List.set_cons_zero, List.set_cons_succ]
    refine wpAnyE_ready (rs := [17]) (by kernel_rfl) (by simp) ?_
    refine AllE.cons rfl (fun K hK => ?_) ?_
    · (refine step_spread (by rfl) _ _ 37 (by rfl) w2.heap.size 79 Tryz.underlying37 inf_A rfl (by decide) v3 k (atc l1) (by rfl) (own_drew HO3.out) w2.heap.size U2 (m - (k + 1)) (atc l2) (by rfl) (HR2.out.below (bl_drew HB3.out)) (one_atc _) (by unfold maxLen; omega) (by omega) (by simpa using hz3) ?_; intro v5 w5 ho5 hg5 hat5; rw [show k + (m - (k + 1)) = m - 1 by omega] at ho5; obtain ⟨_, A5, c5, rfl, _, _⟩ := RdS.of_own ho5; have HO5 := Lib.hid ho5; have HB5 : Hid (Below w2.heap.size w2 w5) := (bl_drew HB3.out).grown hg5 (by simpa using hz3) (fun k hk => (own_lt HO3.out hk).1); have l5 : L < w5.heap.size := Nat.lt_of_lt_of_le H2.out.ltL HB5.out.size; have f6 : w5.frozen? ⟨L, i * 6 + 3, none⟩ = false := (H2.out.below HB5.out).free _; clear ho5 hg5 hat5)
      refine hK.out _ _ ?_ (fun hHeld => ?_)
      · (try dsimp only)
        (first | with_reducible exact HKS3.out _ (Below.refl _ _) | with_reducible exact HKS3.out _ (bl_drew (Below.refl _ _)) | with_reducible exact HKS.out _ HB5.out)
      clear hK K
      try simp only [Act.put, List.getElem_toArray, List.getElem_cons_zero, List.getElem_cons_succ, List.setIfInBounds_toArray, List.set_cons_zero, List.set_cons_succ]
      refine wpAnyE_take0 (i := 18) (v := ?_) rfl (by kernel_rfl) (by kernel_rfl) (by kernel_rfl) (by kernel_rfl) (fun _ _ _ h => h) (Or.inl ⟨by rfl, ?_⟩) (fun _ => by assumption) ?_
      rotate_left
      · ((intro w hSw; clear hSw; go_simp); (try with_reducible rfl))
      try simp only [Act.put, List.getElem_toArray, List.getElem_cons_zero, List.getElem_cons_succ, List.setIfInBounds_toArray, List.set_cons_zero, List.set_cons_succ]
      refine wpAnyE_take0 (i := 19) (v := ?_) rfl (by kernel_rfl) (by kernel_rfl) (by kernel_rfl) (by kernel_rfl) (fun _ _ _ h => h) (Or.inl ⟨by rfl, ?_⟩) (fun _ => by assumption) ?_
      rotate_left
      · ((intro w hSw; clear hSw; go_simp); (try with_reducible rfl))
      try simp only [Act.put, List.getElem_toArray, List.getElem_cons_zero, List.getElem_cons_succ, List.setIfInBounds_toArray, List.set_cons_zero, List.set_cons_succ]
      refine wpAnyE_ready (rs := [20]) (by kernel_rfl) (by simp) ?_
      refine AllE.last rfl (by kernel_rfl) (fun K hK => ?_) ?_
      · go_simp
        refine hK.out _ _ ?_
        clear hK K
        try simp only [Act.put, List.getElem_toArray, List.getElem_cons_zero, List.getElem_cons_succ, List.setIfInBounds_toArray, List.set_cons_zero, List.set_cons_succ]
        refine wpAnyE_done (by kernel_rfl) ?_ _
        go_wp2_with fail
        go_ret
        have ho6 : w5.ownsRow B 79 2 (.slice A5 (m - 1) c5) (y.x.at_.eraseIdx k).length (atc (y.x.at_.eraseIdx k)) := by
          rw [List.length_eraseIdx, if_pos (by rw [← HM0.out]; exact hkm), ← HM0.out, ← HL12.out, ← atc_app2]
          exact own_mono HO5.out H2.out.hB
        refine ⟨rfl, HKD.out.then_ HMM.out ⟨_, _, _, _, H2.out.setA (y' := ⟨atN y.x (y.x.at_.eraseIdx k), .slice A5 (m - 1) c5, y.vk⟩) HY.out ⟨rfl, rfl⟩ (fun k hk _ => HB5.out.block k hk) HB5.out.size ho6 (fun k e => .inr (own_lt HO5.out e).1), ?_⟩ (fun k hk hf => ?_) ?_⟩
        · rw [List.map_set, HMM.out]
          show T.set i (atN y.x (y.x.at_.eraseIdx _)) = _
          rw [HYX.out]
        · have hf : (if (Value.slice A5 (m - 1) c5).ownBlock = some k then 5 + i else τ2 k) ≠ 0 := hf
          rw [if_neg (fun e => by have h1 : w2.heap.size ≤ k := (own_lt HO5.out e).1; omega)] at hf
          exact hf
        · exact (Kept.of_below HB5.out (fun k => τ2 k ≠ 0)).set_ L _ (fun _ => by rw [H2.out.tL]; omega) _
      exact AllE.nil
    exact AllE.nil
  exact AllE.nil
end Go.Proofs.YtimlmekgapdkiaaGreatDoor

