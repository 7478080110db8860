/- the document's tree: what was is kept -/
import Derived.Test.YtimlmekgapdkiaaDoorUg
import Derived.Deep.RegionLaw
namespace Go.Proofs.YtimlmekgapdkiaaDoor
set_option linter.unusedVariables false
set_option linter.unusedSimpArgs false
open Go.RowKit Go.Cas

theorem inf_rS : (Tryd.prog.info? 33).map (fun i => (i.zero, i.size, i.bytes)) = some (some (.slice none 0 0), 1, 24) := by kernel_rfl
/-- what a cell holds, whatever it is: a region may store to a cell that it loads -/
def cellV (w : World) (R o : Nat) : Value := (w.cell? ⟨R, o, none⟩).getD .nilIface
theorem cellV_eq {w : World} {R o : Nat} {v : Value} (h : w.cell? ⟨R, o, none⟩ = some v) : cellV w R o = v := by unfold cellV; rw [h]; rfl
theorem cellV_some {w : World} {R o : Nat} {v : Value} (h : w.cell? ⟨R, o, none⟩ = some v) : w.cell? ⟨R, o, none⟩ = some (cellV w R o) := by rw [cellV_eq h]; exact h
def KpRet (B R L cap nT : Nat) (τ : Nat → Nat) (M : List NV) (w : World) (e : Ending) (w' : World) : Prop :=
  (∃ u, e = .returned u) ∧ ∃ tv' xs' τ', RT B R L cap (nT + 1) tv' xs' τ' M w' ∧ (∀ k, k < w.heap.size → τ' k ≠ 0 → τ k ≠ 0) ∧ Kept w w' (fun k => τ k ≠ 0)
set_option maxRecDepth 100000 in
set_option maxHeartbeats 8000000 in
theorem c_keep {w : World} {B R L cap nT : Nat} {tv : Value} {xs : List Value} {τ : Nat → Nat} {M : List NV} (h : RT B R L cap nT tv xs τ M w) (hM : M.length ≤ 400) (hF : Few M) (hT : nT ≤ 1000000) :
    Calls Tryd.prog 91 #[.pointer (some ⟨R, 0, none⟩)] w (KpRet B R L cap nT τ M w) := by
  have H := Lib.hid h
  have HC := Lib.hid (c_copied (h.below (bl_drew (Below.refl _ w))) hM hF)
  have HS : Hid (∀ W', Below w.heap.size w W' → (W'.cell? ⟨R, 0, none⟩ = some (.slice (some ⟨L, 0, none⟩) M.length cap) ∧ W'.cell? ⟨R, 1, none⟩ = some tv)) := fun W' hb => ⟨(h.below hb).heads.1, (h.below hb).heads.2.1⟩
  have hTR : Hid (∀ k, tv.ownBlock = some k → k ≠ R) := fun k hk e => by have h1 := h.tT k hk; have h2 := h.tR; rw [e] at h1; omega
  obtain ⟨i0, hi0, hz0, hz1, hz2⟩ := info_parts inf_rS
  have HLT := Lib.hid h.ltR
  have HBB := Lib.hid h.hB
  obtain ⟨_, At, ct, rfl, _, _⟩ := RdS.of_own h.ow
  clear h hF
  go_enter Tryd.func91, Tryd.ntmps91
  have HV : Hid (∀ W', Below w.heap.size w W' → cellV W' R 1 = .slice At nT ct) := fun W' hb => cellV_eq (HS.out W' hb).2
  have HK : Hid (∀ W', Below w.heap.size w W' → (W'.cell? ⟨R, 0, none⟩ = some (.slice (some ⟨L, 0, none⟩) M.length cap) ∧ W'.cell? ⟨R, 1, none⟩ = some (cellV W' R 1))) := fun W' hb => ⟨(HS.out W' hb).1, cellV_some (HS.out W' hb).2⟩
  refine wp_region_noPanic ?_
  refine wp_region_held_drew (S := (fun w' => w'.cell? ⟨R, 0, none⟩ = some (.slice (some ⟨L, 0, none⟩) M.length cap) ∧ w'.cell? ⟨R, 1, none⟩ = some (cellV w' R 1))) (by kernel_rfl) ?_ (fun hHeld => ?_)
  · (try dsimp only)
    (first | with_reducible exact HK.out _ (bl_drew (Below.refl _ _)) | with_reducible exact HK.out _ (Below.refl _ _) | with_reducible exact HK.out _ HBC.out | with_reducible exact HK.out _ (bl_alloc HBC.out _) | with_reducible exact HS6.out | with_reducible exact HS7.out _)
  refine wpAnyH_take (i := 0) (v := ?_) rfl (by kernel_rfl) (by kernel_rfl) (by kernel_rfl) (fun _ _ _ h => h) (Or.inl ⟨by rfl, ?_⟩) (by assumption) ?_
  rotate_left
  · ((intro w hSw; (try dsimp only at hSw); go_simp); (try with_reducible rfl))
  try simp only [Act.put, List.setIfInBounds_toArray, List.set_cons_zero, List.set_cons_succ]
  refine wpAnyH_take (i := 1) (v := ?_) rfl (by kernel_rfl) (by kernel_rfl) (by kernel_rfl) (fun _ _ _ h => h) (Or.inl ⟨by rfl, ?_⟩) (by assumption) ?_
  rotate_left
  · ((intro w hSw; (try dsimp only at hSw); go_simp); (try with_reducible rfl))
  try simp only [Act.put, List.setIfInBounds_toArray, List.set_cons_zero, List.set_cons_succ]
  refine wpAnyH_take (i := 2) (v := ?_) rfl (by kernel_rfl) (by kernel_rfl) (by kernel_rfl) (fun _ _ _ h => h) (Or.inl ⟨by rfl, ?_⟩) (by assumption) ?_
  rotate_left
  · ((intro w hSw; (try dsimp only at hSw); go_simp); (try with_reducible rfl))
  try simp only [Act.put, List.setIfInBounds_toArray, List.set_cons_zero, List.set_cons_succ]
  refine wpAnyH_take (i := 3) (v := ?_) rfl (by kernel_rfl) (by kernel_rfl) (by kernel_rfl) (fun _ _ _ h => h) (Or.inl ⟨by rfl, ?_⟩) (by assumption) ?_
  rotate_left
  · ((intro w hSw; (try dsimp only at hSw); go_simp); (try with_reducible rfl))
  try simp only [Act.put, List.setIfInBounds_toArray, List.set_cons_zero, List.set_cons_succ]
  refine wpAnyH_take (i := 5) (v := ?_) rfl (by kernel_rfl) (by kernel_rfl) (by kernel_rfl) (fun _ _ _ h => h) (Or.inl ⟨by rfl, ?_⟩) (by assumption) ?_
  rotate_left
  · ((intro w hSw; (try dsimp only at hSw); go_simp); (try with_reducible rfl))
  try simp only [Act.put, List.setIfInBounds_toArray, List.set_cons_zero, List.set_cons_succ]
  refine wpAnyH_take (i := 6) (v := ?_) rfl (by kernel_rfl) (by kernel_rfl) (by kernel_rfl) (fun _ _ _ h => h) (Or.inl ⟨by rfl, ?_⟩) (by assumption) ?_
  rotate_left
  · ((intro w hSw; (try dsimp only at hSw); go_simp); (try with_reducible rfl))
  try simp only [Act.put, List.setIfInBounds_toArray, List.set_cons_zero, List.set_cons_succ]
  refine wpAnyH_take (i := 7) (v := ?_) rfl (by kernel_rfl) (by kernel_rfl) (by kernel_rfl) (fun _ _ _ h => h) (Or.inl ⟨by rfl, ?_⟩) (by assumption) ?_
  rotate_left
  · ((intro w hSw; (try dsimp only at hSw); go_simp); (try with_reducible rfl))
  try simp only [Act.put, List.setIfInBounds_toArray, List.set_cons_zero, List.set_cons_succ]
  refine wpAnyH_take (i := 8) (v := ?_) rfl (by kernel_rfl) (by kernel_rfl) (by kernel_rfl) (fun _ _ _ h => h) (Or.inl ⟨by rfl, ?_⟩) (by assumption) ?_
  rotate_left
  · ((intro w hSw; (try dsimp only at hSw); go_simp); (try with_reducible rfl))
  try simp only [Act.put, List.setIfInBounds_toArray, List.set_cons_zero, List.set_cons_succ]
  refine wpAnyH_ready (rs := [4, 9]) (by kernel_rfl) (by simp) ?_
  refine AllReadyH.cons rfl (fun K hK => ?_) ?_
  · go_simp
    refine hK.out _ _ ?_ (fun hHeld => ?_)
    · (try dsimp only)
      (first | with_reducible exact HK.out _ (bl_drew (Below.refl _ _)) | with_reducible exact HK.out _ (Below.refl _ _) | with_reducible exact HK.out _ HBC.out | with_reducible exact HK.out _ (bl_alloc HBC.out _) | with_reducible exact HS6.out | with_reducible exact HS7.out _)
    clear hK K
    try simp only [Act.put, List.setIfInBounds_toArray, List.set_cons_zero, List.set_cons_succ]
    refine wpAnyH_ready (rs := [9]) (by kernel_rfl) (by simp) ?_
    refine AllReadyH.cons rfl (fun K hK => ?_) ?_
    · (go_simp; go_at_call 117; (with_reducible refine (HC.out).mono ?_); rintro e w1 ⟨⟨A1, c1, rfl⟩, hb1⟩; have HBC : Hid (Below w.heap.size w w1) := bl_trans (bl_drew (Below.refl _ _)) hb1; have HOT := Lib.hid (own_keep H.out.ow (fun k hk => HBC.out.block k (own_lt H.out.ow hk).2)); have c0 := (HS.out w1 HBC.out).1; have c2 := (HS.out w1 HBC.out).2; have c3 : R < w1.heap.size := Nat.lt_of_lt_of_le HLT.out HBC.out.size; clear hb1)
      refine hK.out _ _ ?_ (fun hHeld => ?_)
      · (try dsimp only)
        (first | with_reducible exact HK.out _ (bl_drew (Below.refl _ _)) | with_reducible exact HK.out _ (Below.refl _ _) | with_reducible exact HK.out _ HBC.out | with_reducible exact HK.out _ (bl_alloc HBC.out _) | with_reducible exact HS6.out | with_reducible exact HS7.out _)
      clear hK K
      try simp only [Act.put, List.setIfInBounds_toArray, List.set_cons_zero, List.set_cons_succ]
      refine wpAnyH_ready (rs := [10]) (by kernel_rfl) (by simp) ?_
      refine AllReadyH.cons rfl (fun K hK => ?_) ?_
      · go_simp
        refine hK.out _ _ ?_ (fun hHeld => ?_)
        · (try dsimp only)
          (first | with_reducible exact HK.out _ (bl_drew (Below.refl _ _)) | with_reducible exact HK.out _ (Below.refl _ _) | with_reducible exact HK.out _ HBC.out | with_reducible exact HK.out _ (bl_alloc HBC.out _) | with_reducible exact HS6.out | with_reducible exact HS7.out _)
        clear hK K
        try simp only [Act.put, List.setIfInBounds_toArray, List.set_cons_zero, List.set_cons_succ]
        refine wpAnyH_ready (rs := [11]) (by kernel_rfl) (by simp) ?_
        refine AllReadyH.cons rfl (fun K hK => ?_) ?_
        · (refine step_append_lies _ (by rfl) _ _ _ (by rfl) B 33 i0 _ 1 24 Tryd.underlying34 hi0 hz0 hz1 hz2 rfl (by omega) (.slice At nT ct) nT xs (by first | exact HV.out _ (bl_drew (Below.refl _ _)) | exact HV.out _ HBC.out | exact HV.out _ (bl_alloc HBC.out _) | rfl) (HOT.out.alloc _) ⟨w1.heap.size, 0, none⟩ 1 1 [.slice A1 M.length c1] (by rfl) (by rfl) (World.news_of_block (cs := #[.slice A1 M.length c1]) (t := 33) (fr := (0, 0)) (bk_new' w1 33 #[.slice A1 M.length c1] rfl)) (by simp [Value.oneCell']) (by omega) (by unfold maxLen; omega) (by omega) (by have := HBB.out; have := HBC.out.size; simp; omega) (w1.heap.size + 1) (by simp) ?_; intro gg cap6 w6 hown6 hgrow6 hat6 hlt6; have HO6 := Lib.hid hown6; have HG6 := Lib.hid hgrow6; have HAT : Hid ((Value.slice At nT ct).ownBlock = some gg ∨ gg = w1.heap.size + 1) := hat6; have HBA : Hid (Below w.heap.size w (w1.alloc (.cells #[.slice A1 M.length c1] 33))) := bl_alloc HBC.out _; have hbR : Bk w6 R 36 #[.slice (some ⟨L, 0, none⟩) M.length cap, .slice At nT ct] := (H.out.root.below HBA.out HLT.out).grown hgrow6 (fun e => hTR.out R e.symm rfl); have HBR := Lib.hid hbR; have q1 := hbR.free 1; have q2 := hbR.cell 1; have q3 := hbR.lt; have HS6 : Hid (w6.cell? ⟨R, 0, none⟩ = some (.slice (some ⟨L, 0, none⟩) M.length cap) ∧ w6.cell? ⟨R, 1, none⟩ = some (cellV w6 R 1)) := ⟨hbR.cell 0, cellV_some (hbR.cell 1)⟩; have HS7 : Hid (∀ u, (w6.setCell ⟨R, 1, none⟩ u).cell? ⟨R, 0, none⟩ = some (.slice (some ⟨L, 0, none⟩) M.length cap) ∧ (w6.setCell ⟨R, 1, none⟩ u).cell? ⟨R, 1, none⟩ = some (cellV (w6.setCell ⟨R, 1, none⟩ u) R 1)) := fun u => ⟨(hbR.set_ 1 u).cell 0, cellV_some ((hbR.set_ 1 u).cell 1)⟩; clear hown6 hgrow6 hat6 hlt6 hbR)
          refine hK.out _ _ ?_ (fun hHeld => ?_)
          · (try dsimp only)
            (first | with_reducible exact HK.out _ (bl_drew (Below.refl _ _)) | with_reducible exact HK.out _ (Below.refl _ _) | with_reducible exact HK.out _ HBC.out | with_reducible exact HK.out _ (bl_alloc HBC.out _) | with_reducible exact HS6.out | with_reducible exact HS7.out _)
          clear hK K
          try simp only [Act.put, List.setIfInBounds_toArray, List.set_cons_zero, List.set_cons_succ]
          refine wpAnyH_take (i := 12) (v := ?_) rfl (by kernel_rfl) (by kernel_rfl) (by kernel_rfl) (fun _ _ _ h => h) (Or.inl ⟨by rfl, ?_⟩) (by assumption) ?_
          rotate_left
          · ((intro w hSw; (try dsimp only at hSw); go_simp); (try with_reducible rfl))
          try simp only [Act.put, List.setIfInBounds_toArray, List.set_cons_zero, List.set_cons_succ]
          refine wpAnyH_take (i := 13) (v := ?_) rfl (by kernel_rfl) (by kernel_rfl) (by kernel_rfl) (fun _ _ _ h => h) (Or.inl ⟨by rfl, ?_⟩) (by assumption) ?_
          rotate_left
          · ((intro w hSw; (try dsimp only at hSw); go_simp); (try with_reducible rfl))
          try simp only [Act.put, List.setIfInBounds_toArray, List.set_cons_zero, List.set_cons_succ]
          refine wpAnyH_ready (rs := [14]) (by kernel_rfl) (by simp) ?_
          refine AllReadyH.cons rfl (fun K hK => ?_) ?_
          · go_simp
            refine hK.out _ _ ?_ (fun hHeld => ?_)
            · (try dsimp only)
              (first | with_reducible exact HK.out _ (bl_drew (Below.refl _ _)) | with_reducible exact HK.out _ (Below.refl _ _) | with_reducible exact HK.out _ HBC.out | with_reducible exact HK.out _ (bl_alloc HBC.out _) | with_reducible exact HS6.out | with_reducible exact HS7.out _)
            clear hK K
            try simp only [Act.put, List.setIfInBounds_toArray, List.set_cons_zero, List.set_cons_succ]
            refine wpAnyH_done (by kernel_rfl) ?_ _
            refine NoPanic.normal ?_
            go_wp2_with fail
            go_end0
            have hs6 : w.heap.size ≤ w6.heap.size := Nat.le_trans HBA.out.size HG6.out.size
            have hat : ∀ k, (Value.slice (some ⟨gg, 0, none⟩) (nT + 1) cap6).ownBlock = some k → (Value.slice At nT ct).ownBlock = some k ∨ w.heap.size ≤ k := fun k hk => by
              injection hk with hk
              subst hk
              rcases HAT.out with e | e
              · exact .inl e
              · right; have := HBC.out.size; show w.heap.size ≤ gg; omega
            have hkk : ∀ k, k < w.heap.size → (Value.slice At nT ct).ownBlock ≠ some k → w6.heap[k]? = w.heap[k]? := fun k hk hn => (HG6.out.block k (Nat.lt_of_lt_of_le hk HBA.out.size) (fun e => hn e.symm)).trans (HBA.out.block k hk)
            refine ⟨⟨_, rfl⟩, _, _, _, H.out.setT (.slice (some ⟨gg, 0, none⟩) (nT + 1) cap6) hkk hs6 HO6.out hat, fun k hk hf => ?_, ?_⟩
            · by_cases e : (Value.slice (some ⟨gg, 0, none⟩) (nT + 1) cap6).ownBlock = some k
              · rcases hat k e with e2 | e2
                · rw [H.out.tT k e2]; omega
                · omega
              · rw [if_neg e] at hf; exact hf
            · have k1 : Kept w w6 (fun k => τ k ≠ 0) := (Kept.of_below HBA.out _).then_ (Kept.grown HG6.out (fun k => (Value.slice At nT ct).ownBlock = some k) (fun k e => e)) (fun k _ e => by rw [H.out.tT k e]; omega)
              exact k1.set_ R 1 (fun _ => by rw [H.out.tR]; omega) _
          exact AllReadyH.nil
        exact AllReadyH.nil
      exact AllReadyH.nil
    exact AllReadyH.nil
  refine AllReadyH.cons rfl (fun K hK => ?_) ?_
  · (go_simp; go_at_call 117; (with_reducible refine (HC.out).mono ?_); rintro e w1 ⟨⟨A1, c1, rfl⟩, hb1⟩; have HBC : Hid (Below w.heap.size w w1) := bl_trans (bl_drew (Below.refl _ _)) hb1; have HOT := Lib.hid (own_keep H.out.ow (fun k hk => HBC.out.block k (own_lt H.out.ow hk).2)); have c0 := (HS.out w1 HBC.out).1; have c2 := (HS.out w1 HBC.out).2; have c3 : R < w1.heap.size := Nat.lt_of_lt_of_le HLT.out HBC.out.size; clear hb1)
    refine hK.out _ _ ?_ (fun hHeld => ?_)
    · (try dsimp only)
      (first | with_reducible exact HK.out _ (bl_drew (Below.refl _ _)) | with_reducible exact HK.out _ (Below.refl _ _) | with_reducible exact HK.out _ HBC.out | with_reducible exact HK.out _ (bl_alloc HBC.out _) | with_reducible exact HS6.out | with_reducible exact HS7.out _)
    clear hK K
    try simp only [Act.put, List.setIfInBounds_toArray, List.set_cons_zero, List.set_cons_succ]
    refine wpAnyH_ready (rs := [4, 10]) (by kernel_rfl) (by simp) ?_
    refine AllReadyH.cons rfl (fun K hK => ?_) ?_
    · go_simp
      refine hK.out _ _ ?_ (fun hHeld => ?_)
      · (try dsimp only)
        (first | with_reducible exact HK.out _ (bl_drew (Below.refl _ _)) | with_reducible exact HK.out _ (Below.refl _ _) | with_reducible exact HK.out _ HBC.out | with_reducible exact HK.out _ (bl_alloc HBC.out _) | with_reducible exact HS6.out | with_reducible exact HS7.out _)
      clear hK K
      try simp only [Act.put, List.setIfInBounds_toArray, List.set_cons_zero, List.set_cons_succ]
      refine wpAnyH_ready (rs := [10]) (by kernel_rfl) (by simp) ?_
      refine AllReadyH.cons rfl (fun K hK => ?_) ?_
      · go_simp
        refine hK.out _ _ ?_ (fun hHeld => ?_)
        · (try dsimp only)
          (first | with_reducible exact HK.out _ (bl_drew (Below.refl _ _)) | with_reducible exact HK.out _ (Below.refl _ _) | with_reducible exact HK.out _ HBC.out | with_reducible exact HK.out _ (bl_alloc HBC.out _) | with_reducible exact HS6.out | with_reducible exact HS7.out _)
        clear hK K
        try simp only [Act.put, List.setIfInBounds_toArray, List.set_cons_zero, List.set_cons_succ]
        refine wpAnyH_ready (rs := [11]) (by kernel_rfl) (by simp) ?_
        refine AllReadyH.cons rfl (fun K hK => ?_) ?_
        · (refine step_append_lies _ (by rfl) _ _ _ (by rfl) B 33 i0 _ 1 24 Tryd.underlying34 hi0 hz0 hz1 hz2 rfl (by omega) (.slice At nT ct) nT xs (by first | exact HV.out _ (bl_drew (Below.refl _ _)) | exact HV.out _ HBC.out | exact HV.out _ (bl_alloc HBC.out _) | rfl) (HOT.out.alloc _) ⟨w1.heap.size, 0, none⟩ 1 1 [.slice A1 M.length c1] (by rfl) (by rfl) (World.news_of_block (cs := #[.slice A1 M.length c1]) (t := 33) (fr := (0, 0)) (bk_new' w1 33 #[.slice A1 M.length c1] rfl)) (by simp [Value.oneCell']) (by omega) (by unfold maxLen; omega) (by omega) (by have := HBB.out; have := HBC.out.size; simp; omega) (w1.heap.size + 1) (by simp) ?_; intro gg cap6 w6 hown6 hgrow6 hat6 hlt6; have HO6 := Lib.hid hown6; have HG6 := Lib.hid hgrow6; have HAT : Hid ((Value.slice At nT ct).ownBlock = some gg ∨ gg = w1.heap.size + 1) := hat6; have HBA : Hid (Below w.heap.size w (w1.alloc (.cells #[.slice A1 M.length c1] 33))) := bl_alloc HBC.out _; have hbR : Bk w6 R 36 #[.slice (some ⟨L, 0, none⟩) M.length cap, .slice At nT ct] := (H.out.root.below HBA.out HLT.out).grown hgrow6 (fun e => hTR.out R e.symm rfl); have HBR := Lib.hid hbR; have q1 := hbR.free 1; have q2 := hbR.cell 1; have q3 := hbR.lt; have HS6 : Hid (w6.cell? ⟨R, 0, none⟩ = some (.slice (some ⟨L, 0, none⟩) M.length cap) ∧ w6.cell? ⟨R, 1, none⟩ = some (cellV w6 R 1)) := ⟨hbR.cell 0, cellV_some (hbR.cell 1)⟩; have HS7 : Hid (∀ u, (w6.setCell ⟨R, 1, none⟩ u).cell? ⟨R, 0, none⟩ = some (.slice (some ⟨L, 0, none⟩) M.length cap) ∧ (w6.setCell ⟨R, 1, none⟩ u).cell? ⟨R, 1, none⟩ = some (cellV (w6.setCell ⟨R, 1, none⟩ u) R 1)) := fun u => ⟨(hbR.set_ 1 u).cell 0, cellV_some ((hbR.set_ 1 u).cell 1)⟩; clear hown6 hgrow6 hat6 hlt6 hbR)
          refine hK.out _ _ ?_ (fun hHeld => ?_)
          · (try dsimp only)
            (first | with_reducible exact HK.out _ (bl_drew (Below.refl _ _)) | with_reducible exact HK.out _ (Below.refl _ _) | with_reducible exact HK.out _ HBC.out | with_reducible exact HK.out _ (bl_alloc HBC.out _) | with_reducible exact HS6.out | with_reducible exact HS7.out _)
          clear hK K
          try simp only [Act.put, List.setIfInBounds_toArray, List.set_cons_zero, List.set_cons_succ]
          refine wpAnyH_take (i := 12) (v := ?_) rfl (by kernel_rfl) (by kernel_rfl) (by kernel_rfl) (fun _ _ _ h => h) (Or.inl ⟨by rfl, ?_⟩) (by assumption) ?_
          rotate_left
          · ((intro w hSw; (try dsimp only at hSw); go_simp); (try with_reducible rfl))
          try simp only [Act.put, List.setIfInBounds_toArray, List.set_cons_zero, List.set_cons_succ]
          refine wpAnyH_take (i := 13) (v := ?_) rfl (by kernel_rfl) (by kernel_rfl) (by kernel_rfl) (fun _ _ _ h => h) (Or.inl ⟨by rfl, ?_⟩) (by assumption) ?_
          rotate_left
          · ((intro w hSw; (try dsimp only at hSw); go_simp); (try with_reducible rfl))
          try simp only [Act.put, List.setIfInBounds_toArray, List.set_cons_zero, List.set_cons_succ]
          refine wpAnyH_ready (rs := [14]) (by kernel_rfl) (by simp) ?_
          refine AllReadyH.cons rfl (fun K hK => ?_) ?_
          · go_simp
            refine hK.out _ _ ?_ (fun hHeld => ?_)
            · (try dsimp only)
              (first | with_reducible exact HK.out _ (bl_drew (Below.refl _ _)) | with_reducible exact HK.out _ (Below.refl _ _) | with_reducible exact HK.out _ HBC.out | with_reducible exact HK.out _ (bl_alloc HBC.out _) | with_reducible exact HS6.out | with_reducible exact HS7.out _)
            clear hK K
            try simp only [Act.put, List.setIfInBounds_toArray, List.set_cons_zero, List.set_cons_succ]
            refine wpAnyH_done (by kernel_rfl) ?_ _
            refine NoPanic.normal ?_
            go_wp2_with fail
            go_end0
            have hs6 : w.heap.size ≤ w6.heap.size := Nat.le_trans HBA.out.size HG6.out.size
            have hat : ∀ k, (Value.slice (some ⟨gg, 0, none⟩) (nT + 1) cap6).ownBlock = some k → (Value.slice At nT ct).ownBlock = some k ∨ w.heap.size ≤ k := fun k hk => by
              injection hk with hk
              subst hk
              rcases HAT.out with e | e
              · exact .inl e
              · right; have := HBC.out.size; show w.heap.size ≤ gg; omega
            have hkk : ∀ k, k < w.heap.size → (Value.slice At nT ct).ownBlock ≠ some k → w6.heap[k]? = w.heap[k]? := fun k hk hn => (HG6.out.block k (Nat.lt_of_lt_of_le hk HBA.out.size) (fun e => hn e.symm)).trans (HBA.out.block k hk)
            refine ⟨⟨_, rfl⟩, _, _, _, H.out.setT (.slice (some ⟨gg, 0, none⟩) (nT + 1) cap6) hkk hs6 HO6.out hat, fun k hk hf => ?_, ?_⟩
            · by_cases e : (Value.slice (some ⟨gg, 0, none⟩) (nT + 1) cap6).ownBlock = some k
              · rcases hat k e with e2 | e2
                · rw [H.out.tT k e2]; omega
                · omega
              · rw [if_neg e] at hf; exact hf
            · have k1 : Kept w w6 (fun k => τ k ≠ 0) := (Kept.of_below HBA.out _).then_ (Kept.grown HG6.out (fun k => (Value.slice At nT ct).ownBlock = some k) (fun k e => e)) (fun k _ e => by rw [H.out.tT k e]; omega)
              exact k1.set_ R 1 (fun _ => by rw [H.out.tR]; omega) _
          exact AllReadyH.nil
        exact AllReadyH.nil
      exact AllReadyH.nil
    refine AllReadyH.cons rfl (fun K hK => ?_) ?_
    · go_simp
      refine hK.out _ _ ?_ (fun hHeld => ?_)
      · (try dsimp only)
        (first | with_reducible exact HK.out _ (bl_drew (Below.refl _ _)) | with_reducible exact HK.out _ (Below.refl _ _) | with_reducible exact HK.out _ HBC.out | with_reducible exact HK.out _ (bl_alloc HBC.out _) | with_reducible exact HS6.out | with_reducible exact HS7.out _)
      clear hK K
      try simp only [Act.put, List.setIfInBounds_toArray, List.set_cons_zero, List.set_cons_succ]
      refine wpAnyH_ready (rs := [4]) (by kernel_rfl) (by simp) ?_
      refine AllReadyH.cons rfl (fun K hK => ?_) ?_
      · go_simp
        refine hK.out _ _ ?_ (fun hHeld => ?_)
        · (try dsimp only)
          (first | with_reducible exact HK.out _ (bl_drew (Below.refl _ _)) | with_reducible exact HK.out _ (Below.refl _ _) | with_reducible exact HK.out _ HBC.out | with_reducible exact HK.out _ (bl_alloc HBC.out _) | with_reducible exact HS6.out | with_reducible exact HS7.out _)
        clear hK K
        try simp only [Act.put, List.setIfInBounds_toArray, List.set_cons_zero, List.set_cons_succ]
        refine wpAnyH_ready (rs := [11]) (by kernel_rfl) (by simp) ?_
        refine AllReadyH.cons rfl (fun K hK => ?_) ?_
        · (refine step_append_lies _ (by rfl) _ _ _ (by rfl) B 33 i0 _ 1 24 Tryd.underlying34 hi0 hz0 hz1 hz2 rfl (by omega) (.slice At nT ct) nT xs (by first | exact HV.out _ (bl_drew (Below.refl _ _)) | exact HV.out _ HBC.out | exact HV.out _ (bl_alloc HBC.out _) | rfl) (HOT.out.alloc _) ⟨w1.heap.size, 0, none⟩ 1 1 [.slice A1 M.length c1] (by rfl) (by rfl) (World.news_of_block (cs := #[.slice A1 M.length c1]) (t := 33) (fr := (0, 0)) (bk_new' w1 33 #[.slice A1 M.length c1] rfl)) (by simp [Value.oneCell']) (by omega) (by unfold maxLen; omega) (by omega) (by have := HBB.out; have := HBC.out.size; simp; omega) (w1.heap.size + 1) (by simp) ?_; intro gg cap6 w6 hown6 hgrow6 hat6 hlt6; have HO6 := Lib.hid hown6; have HG6 := Lib.hid hgrow6; have HAT : Hid ((Value.slice At nT ct).ownBlock = some gg ∨ gg = w1.heap.size + 1) := hat6; have HBA : Hid (Below w.heap.size w (w1.alloc (.cells #[.slice A1 M.length c1] 33))) := bl_alloc HBC.out _; have hbR : Bk w6 R 36 #[.slice (some ⟨L, 0, none⟩) M.length cap, .slice At nT ct] := (H.out.root.below HBA.out HLT.out).grown hgrow6 (fun e => hTR.out R e.symm rfl); have HBR := Lib.hid hbR; have q1 := hbR.free 1; have q2 := hbR.cell 1; have q3 := hbR.lt; have HS6 : Hid (w6.cell? ⟨R, 0, none⟩ = some (.slice (some ⟨L, 0, none⟩) M.length cap) ∧ w6.cell? ⟨R, 1, none⟩ = some (cellV w6 R 1)) := ⟨hbR.cell 0, cellV_some (hbR.cell 1)⟩; have HS7 : Hid (∀ u, (w6.setCell ⟨R, 1, none⟩ u).cell? ⟨R, 0, none⟩ = some (.slice (some ⟨L, 0, none⟩) M.length cap) ∧ (w6.setCell ⟨R, 1, none⟩ u).cell? ⟨R, 1, none⟩ = some (cellV (w6.setCell ⟨R, 1, none⟩ u) R 1)) := fun u => ⟨(hbR.set_ 1 u).cell 0, cellV_some ((hbR.set_ 1 u).cell 1)⟩; clear hown6 hgrow6 hat6 hlt6 hbR)
          refine hK.out _ _ ?_ (fun hHeld => ?_)
          · (try dsimp only)
            (first | with_reducible exact HK.out _ (bl_drew (Below.refl _ _)) | with_reducible exact HK.out _ (Below.refl _ _) | with_reducible exact HK.out _ HBC.out | with_reducible exact HK.out _ (bl_alloc HBC.out _) | with_reducible exact HS6.out | with_reducible exact HS7.out _)
          clear hK K
          try simp only [Act.put, List.setIfInBounds_toArray, List.set_cons_zero, List.set_cons_succ]
          refine wpAnyH_take (i := 12) (v := ?_) rfl (by kernel_rfl) (by kernel_rfl) (by kernel_rfl) (fun _ _ _ h => h) (Or.inl ⟨by rfl, ?_⟩) (by assumption) ?_
          rotate_left
          · ((intro w hSw; (try dsimp only at hSw); go_simp); (try with_reducible rfl))
          try simp only [Act.put, List.setIfInBounds_toArray, List.set_cons_zero, List.set_cons_succ]
          refine wpAnyH_take (i := 13) (v := ?_) rfl (by kernel_rfl) (by kernel_rfl) (by kernel_rfl) (fun _ _ _ h => h) (Or.inl ⟨by rfl, ?_⟩) (by assumption) ?_
          rotate_left
          · ((intro w hSw; (try dsimp only at hSw); go_simp); (try with_reducible rfl))
          try simp only [Act.put, List.setIfInBounds_toArray, List.set_cons_zero, List.set_cons_succ]
          refine wpAnyH_ready (rs := [14]) (by kernel_rfl) (by simp) ?_
          refine AllReadyH.cons rfl (fun K hK => ?_) ?_
          · go_simp
            refine hK.out _ _ ?_ (fun hHeld => ?_)
            · (try dsimp only)
              (first | with_reducible exact HK.out _ (bl_drew (Below.refl _ _)) | with_reducible exact HK.out _ (Below.refl _ _) | with_reducible exact HK.out _ HBC.out | with_reducible exact HK.out _ (bl_alloc HBC.out _) | with_reducible exact HS6.out | with_reducible exact HS7.out _)
            clear hK K
            try simp only [Act.put, List.setIfInBounds_toArray, List.set_cons_zero, List.set_cons_succ]
            refine wpAnyH_done (by kernel_rfl) ?_ _
            refine NoPanic.normal ?_
            go_wp2_with fail
            go_end0
            have hs6 : w.heap.size ≤ w6.heap.size := Nat.le_trans HBA.out.size HG6.out.size
            have hat : ∀ k, (Value.slice (some ⟨gg, 0, none⟩) (nT + 1) cap6).ownBlock = some k → (Value.slice At nT ct).ownBlock = some k ∨ w.heap.size ≤ k := fun k hk => by
              injection hk with hk
              subst hk
              rcases HAT.out with e | e
              · exact .inl e
              · right; have := HBC.out.size; show w.heap.size ≤ gg; omega
            have hkk : ∀ k, k < w.heap.size → (Value.slice At nT ct).ownBlock ≠ some k → w6.heap[k]? = w.heap[k]? := fun k hk hn => (HG6.out.block k (Nat.lt_of_lt_of_le hk HBA.out.size) (fun e => hn e.symm)).trans (HBA.out.block k hk)
            refine ⟨⟨_, rfl⟩, _, _, _, H.out.setT (.slice (some ⟨gg, 0, none⟩) (nT + 1) cap6) hkk hs6 HO6.out hat, fun k hk hf => ?_, ?_⟩
            · by_cases e : (Value.slice (some ⟨gg, 0, none⟩) (nT + 1) cap6).ownBlock = some k
              · rcases hat k e with e2 | e2
                · rw [H.out.tT k e2]; omega
                · omega
              · rw [if_neg e] at hf; exact hf
            · have k1 : Kept w w6 (fun k => τ k ≠ 0) := (Kept.of_below HBA.out _).then_ (Kept.grown HG6.out (fun k => (Value.slice At nT ct).ownBlock = some k) (fun k e => e)) (fun k _ e => by rw [H.out.tT k e]; omega)
              exact k1.set_ R 1 (fun _ => by rw [H.out.tR]; omega) _
          exact AllReadyH.nil
        exact AllReadyH.nil
      exact AllReadyH.nil
    exact AllReadyH.nil
  exact AllReadyH.nil
end Go.Proofs.YtimlmekgapdkiaaDoor

