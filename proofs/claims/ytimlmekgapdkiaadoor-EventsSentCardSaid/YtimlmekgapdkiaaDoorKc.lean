/- ears of the document: Add -/
import Derived.Test.YtimlmekgapdkiaaDoorKb
namespace Go.Proofs.YtimlmekgapdkiaaDoor
set_option linter.unusedVariables false
set_option linter.unusedSimpArgs false
open Go.RowKit Go.Cas

set_option maxRecDepth 100000 in
set_option maxHeartbeats 16000000 in
theorem c_rAdd {w : World} {B E : Nat} {vl vg : Value} {L : List EarV} {G : List Bool} (h : EA 58 60 B E vl vg L G w) (hL : L.length ≤ 200) (x : EarV) (hx : x.name.size ≤ maxLen) :
    Calls Tryd.prog 27 #[.pointer (some ⟨E, 0, none⟩), earV x] w fun e w' => e = .returned (.int .i64 (addR L x)) ∧ EChg 58 60 B E vl vg (addL L x) (addG L G x) w w' := by
  have H := Lib.hid h
  obtain ⟨n, hn⟩ : ∃ n, n = L.length := ⟨_, rfl⟩
  have HN := Lib.hid hn
  have e0 := h.root.cell 0; have e1 := h.root.cell 1
  have le := h.root.lt
  have hol := h.ol
  have hog := h.og
  rw [← hn] at hol hog hL
  obtain ⟨_, Al, cl, rfl, _, _⟩ := RdS.of_own hol
  obtain ⟨_, Ag, cg, rfl, _, _⟩ := RdS.of_own hog
  have HOL := Lib.hid hol
  have HOG := Lib.hid hog
  unfold maxLen at hx
  clear h hn hol hog
  unfold earV
  obtain ⟨nd, nm, f2, f3, f4, f5, f6, f7⟩ := x
  have hok : addOk L ⟨nd, nm, f2, f3, f4, f5, f6, f7⟩ = (decide (n ≠ 200) && decide (nm.size ≠ 0) && decide (nm.size ≤ 40)) := by rw [HN.out]; rfl
  have HOK : ∀ b, (decide (n ≠ 200) && decide (nm.size ≠ 0) && decide (nm.size ≤ 40)) = b → Hid (addOk L ⟨nd, nm, f2, f3, f4, f5, f6, f7⟩ = b) := fun _ h => hok.trans h
  have hx2 : (nm.size : Int) ≤ 9223372036854775807 := by have : nm.size ≤ 9223372036854775807 := hx; omega
  have hem := emp_size nm
  clear hok hx
  by_cases h2 : n = 200
  · have hno := HOK false (by rw [h2]; rfl)
    subst h2
    clear HOK hem
    go_enter Tryd.func27, Tryd.ntmps27
    go_wp2_with fail
    go_ret
    refine ⟨by unfold addR; rw [hno.out]; rfl, ?_⟩
    unfold addL addG; rw [hno.out]
    exact ⟨_, _, H.out.below (bl_alloc (Below.refl _ _) _), fun _ _ h => h, Kept.of_below (bl_alloc (Below.refl _ _) _) _⟩
  have hn2 : ¬ (n : Int) = 200 := by omega
  have hn2c : ¬ (200 : Int) ≤ (n : Int) := by omega
  by_cases h3 : nm.size = 0
  · have hno := HOK false (by rw [h3]; simp)
    have he : (nm.size : Int) = 0 := by omega
    clear HOK h3 hem
    go_enter Tryd.func27, Tryd.ntmps27
    go_wp2_with fail
    go_ret
    refine ⟨by unfold addR; rw [hno.out]; rfl, ?_⟩
    unfold addL addG; rw [hno.out]
    exact ⟨_, _, H.out.below (bl_alloc (Below.refl _ _) _), fun _ _ h => h, Kept.of_below (bl_alloc (Below.refl _ _) _) _⟩
  have he : ¬ (nm.size : Int) = 0 := by omega
  have heb : ((nm.size : Int) == 0) = false := by rw [beq_eq_false_iff_ne]; exact he
  by_cases h4 : (40 : Int) < (nm.size : Int)
  · have hno := HOK false (by simp; omega)
    clear HOK h3 hem
    go_enter Tryd.func27, Tryd.ntmps27
    go_wp2_with fail
    go_ret
    refine ⟨by unfold addR; rw [hno.out]; rfl, ?_⟩
    unfold addL addG; rw [hno.out]
    exact ⟨_, _, H.out.below (bl_alloc (Below.refl _ _) _), fun _ _ h => h, Kept.of_below (bl_alloc (Below.refl _ _) _) _⟩
  have hyes := HOK true (by simp only [Bool.and_eq_true, decide_eq_true_eq]; exact ⟨⟨by omega, h3⟩, by omega⟩)
  have h4' : ¬ (40 : Int) < (nm.size : Int) := h4
  clear HOK h3 hem
  go_enter Tryd.func27, Tryd.ntmps27
  go_upto_region 3 with fail
  obtain ⟨bx, hbx⟩ : ∃ bx, bx = w.heap.size := ⟨_, rfl⟩
  obtain ⟨w1, hw1⟩ : ∃ w1, w1 = w.alloc (.cells #[.int .i64 nd, .string nm, .bool f2, .bool f3, .bool f4, .bool f5, .bool f6, .bool f7] 60) := ⟨_, rfl⟩
  rw [← hw1, ← hbx]
  have HBL : Hid (Below w.heap.size w w1) := by rw [hw1]; exact bl_alloc (Below.refl _ _) _
  have HBX : Hid (Bk w1 bx 60 #[.int .i64 nd, .string nm, .bool f2, .bool f3, .bool f4, .bool f5, .bool f6, .bool f7]) := by rw [hw1, hbx]; exact bk_new' _ _ _ rfl
  have H1 : Hid (EA 58 60 B E (.slice Al n cl) (.slice Ag n cg) L G w1) := H.out.below HBL.out
  have hol1 := H1.out.ol
  have hog1 := H1.out.og
  rw [← HN.out] at hol1 hog1
  have HOL1 : Hid (w1.ownsRow B 60 8 (.slice Al n cl) n (L.flatMap earc)) := hol1
  have HOG1 : Hid (w1.ownsRow B 4 1 (.slice Ag n cg) n (G.map Value.bool)) := hog1
  have hbB : B ≤ w1.heap.size := by have := H1.out.hE; have := H1.out.root.lt; omega
  have HLB : Hid (∀ k, (Value.slice Al n cl).ownBlock = some k → k < w1.heap.size) := fun k hk => (own_lt hol1 hk).2
  have HGB : Hid (∀ k, (Value.slice Ag n cg).ownBlock = some k → k < w1.heap.size) := fun k hk => (own_lt hog1 hk).2
  have HXN : Hid ((Value.slice Al n cl).ownBlock ≠ some bx ∧ (Value.slice Ag n cg).ownBlock ≠ some bx) := ⟨fun e => by have := (own_lt HOL.out e).2; omega, fun e => by have := (own_lt HOG.out e).2; omega⟩
  have HKS : Hid (∀ W', Kept w1 W' (fun k => (Value.slice Al n cl).ownBlock = some k ∨ (Value.slice Ag n cg).ownBlock = some k) → ((W'.cell? ⟨E, 0, none⟩ = some (.slice Al n cl) ∧ W'.cell? ⟨E, 1, none⟩ = some (.slice Ag n cg)) ∧ (W'.cell? ⟨bx, 0, none⟩ = some (.int .i64 nd) ∧ W'.cell? ⟨bx, 1, none⟩ = some (.string nm) ∧ W'.cell? ⟨bx, 2, none⟩ = some (.bool f2) ∧ W'.cell? ⟨bx, 3, none⟩ = some (.bool f3) ∧ W'.cell? ⟨bx, 4, none⟩ = some (.bool f4) ∧ W'.cell? ⟨bx, 5, none⟩ = some (.bool f5) ∧ W'.cell? ⟨bx, 6, none⟩ = some (.bool f6) ∧ W'.cell? ⟨bx, 7, none⟩ = some (.bool f7)))) := fun W' hk => by
    have h1 := hk.bk H1.out.root (fun e => e.elim H1.out.nl H1.out.ng)
    have h2 := hk.bk HBX.out (fun e => e.elim HXN.out.1 HXN.out.2)
    exact ⟨⟨h1.cell 0, h1.cell 1⟩, h2.cell 0, h2.cell 1, h2.cell 2, h2.cell 3, h2.cell 4, h2.cell 5, h2.cell 6, h2.cell 7⟩
  have HK0 : Hid (Kept w1 w1 (fun k => (Value.slice Al n cl).ownBlock = some k ∨ (Value.slice Ag n cg).ownBlock = some k)) := Kept.refl _ _
  have HSEP : Hid (Sep (.slice Al n cl) (.slice Ag n cg)) := H1.out.sep
  have hRg : w1.cell? ⟨E, 0, none⟩ = some (.slice Al n cl) := H1.out.root.cell 0
  clear hw1 hbx e0 e1 le he heb hx2 h4 h4' hn2 hn2c hol1 hog1 hRg HOL HOG
  refine wp_regionE (S := (fun w' => (w'.cell? ⟨E, 0, none⟩ = some (.slice Al n cl) ∧ w'.cell? ⟨E, 1, none⟩ = some (.slice Ag n cg)) ∧ (w'.cell? ⟨bx, 0, none⟩ = some (.int .i64 nd) ∧ w'.cell? ⟨bx, 1, none⟩ = some (.string nm) ∧ w'.cell? ⟨bx, 2, none⟩ = some (.bool f2) ∧ w'.cell? ⟨bx, 3, none⟩ = some (.bool f3) ∧ w'.cell? ⟨bx, 4, none⟩ = some (.bool f4) ∧ w'.cell? ⟨bx, 5, none⟩ = some (.bool f5) ∧ w'.cell? ⟨bx, 6, none⟩ = some (.bool f6) ∧ w'.cell? ⟨bx, 7, none⟩ = some (.bool f7)))) [10] (by kernel_rfl) ?_ (fun hHeld => ?_)
  · (try dsimp only)
    (first | with_reducible exact HKS.out _ HK0.out.drew | with_reducible exact HKS.out _ (HK0.out.alloc _).drew | with_reducible exact HKS.out _ HK6.out)
  refine wpAnyE_take0 (i := 0) (v := ?_) rfl (by kernel_rfl) (by kernel_rfl) (by kernel_rfl) (by kernel_rfl) (fun _ _ _ h => h) (Or.inl ⟨by rfl, ?_⟩) (fun _ => by assumption) ?_
  rotate_left
  · ((intro w hSw; clear hSw; go_simp); (try with_reducible rfl))
  try simp only [Act.put, List.setIfInBounds_toArray, List.set_cons_zero, List.set_cons_succ]
  refine wpAnyE_take0 (i := 1) (v := ?_) rfl (by kernel_rfl) (by kernel_rfl) (by kernel_rfl) (by kernel_rfl) (fun _ _ _ h => h) (Or.inl ⟨by rfl, ?_⟩) (fun _ => by assumption) ?_
  rotate_left
  · ((intro w hSw; clear hSw; go_simp); (try with_reducible rfl))
  try simp only [Act.put, List.setIfInBounds_toArray, List.set_cons_zero, List.set_cons_succ]
  refine wpAnyE_take0 (i := 2) (v := ?_) rfl (by kernel_rfl) (by kernel_rfl) (by kernel_rfl) (by kernel_rfl) (fun _ _ _ h => h) (Or.inl ⟨by rfl, ?_⟩) (fun _ => by assumption) ?_
  rotate_left
  · ((intro w hSw; clear hSw; go_simp); (try with_reducible rfl))
  try simp only [Act.put, List.setIfInBounds_toArray, List.set_cons_zero, List.set_cons_succ]
  refine wpAnyE_take0 (i := 3) (v := ?_) rfl (by kernel_rfl) (by kernel_rfl) (by kernel_rfl) (by kernel_rfl) (fun _ _ _ h => h) (Or.inl ⟨by rfl, ?_⟩) (fun _ => by assumption) ?_
  rotate_left
  · ((intro w hSw; clear hSw; go_simp); (try with_reducible rfl))
  try simp only [Act.put, List.setIfInBounds_toArray, List.set_cons_zero, List.set_cons_succ]
  refine wpAnyE_take (i := 4) (v := ?_) rfl (by kernel_rfl) (by kernel_rfl) (by kernel_rfl) (by kernel_rfl) (fun _ _ _ h => h) (Or.inl ⟨by rfl, ?_⟩) (by assumption) ?_
  rotate_left
  · ((intro w hSw; (try dsimp only at hSw); go_simp); (try with_reducible rfl))
  try simp only [Act.put, List.setIfInBounds_toArray, List.set_cons_zero, List.set_cons_succ]
  refine wpAnyE_take (i := 5) (v := ?_) rfl (by kernel_rfl) (by kernel_rfl) (by kernel_rfl) (by kernel_rfl) (fun _ _ _ h => h) (Or.inl ⟨by rfl, ?_⟩) (by assumption) ?_
  rotate_left
  · ((intro w hSw; (try dsimp only at hSw); go_simp); (try with_reducible rfl))
  try simp only [Act.put, List.setIfInBounds_toArray, List.set_cons_zero, List.set_cons_succ]
  refine wpAnyE_ready (rs := [6]) (by kernel_rfl) (by simp) ?_
  refine AllE.cons rfl (fun K hK => ?_) ?_
  · go_simp
    refine hK.out _ _ ?_ (fun hHeld => ?_)
    · (try dsimp only)
      (first | with_reducible exact HKS.out _ HK0.out.drew | with_reducible exact HKS.out _ (HK0.out.alloc _).drew | with_reducible exact HKS.out _ HK6.out)
    clear hK K
    try simp only [Act.put, List.setIfInBounds_toArray, List.set_cons_zero, List.set_cons_succ]
    refine wpAnyE_ready (rs := [7]) (by kernel_rfl) (by simp) ?_
    refine AllE.cons rfl (fun K hK => ?_) ?_
    · (refine step_push (by rfl) _ _ _ (by rfl) B 60 Tryd.underlying55 inf_rEar rfl (by decide) (.slice Al n cl) n (L.flatMap earc) _ [.int .i64 nd, .string nm, .bool f2, .bool f3, .bool f4, .bool f5, .bool f6, .bool f7] (by rfl) (by rfl) (own_drew (HOL1.out.alloc _)) (Bk.drew (Bk.new _ _ _)) rfl (by simp [Value.oneCell']) (by omega) (by omega) (by simp; omega) ?_; intro g6 c6 w6 hpu; have HP6 := Lib.hid hpu; have HK6 : Hid (Kept w1 w6 (fun k => (Value.slice Al n cl).ownBlock = some k ∨ (Value.slice Ag n cg).ownBlock = some k)) := (HK0.out.alloc _).drew.then_ hpu.kept (fun _ _ e => .inl e); have HA6 : Hid ((Value.slice Al n cl).ownBlock = some g6 ∨ w1.heap.size ≤ g6) := hpu.at_.imp id (fun e => by rw [e]; simp); have HG6 : Hid (w6.ownsRow B 4 1 (.slice Ag n cg) n (G.map Value.bool)) := hpu.other (own_drew (HOG1.out.alloc _)) HSEP.out; have HS6 : Hid (w1.heap.size ≤ w6.heap.size) := HK6.out.size; have hkr : Bk w6 E 58 #[.slice Al n cl, .slice Ag n cg] := HK6.out.bk H1.out.root (fun e => e.elim H1.out.nl H1.out.ng); have r0 := hkr.cell 0; have q0 := hkr.free 0; have q2 := hkr.lt; have HKR := Lib.hid hkr; clear hpu hkr)
      refine hK.out _ _ ?_ (fun hHeld => ?_)
      · (try dsimp only)
        (first | with_reducible exact HKS.out _ HK0.out.drew | with_reducible exact HKS.out _ (HK0.out.alloc _).drew | with_reducible exact HKS.out _ HK6.out)
      clear hK K
      try simp only [Act.put, List.setIfInBounds_toArray, List.set_cons_zero, List.set_cons_succ]
      refine wpAnyE_take0 (i := 8) (v := ?_) rfl (by kernel_rfl) (by kernel_rfl) (by kernel_rfl) (by kernel_rfl) (fun _ _ _ h => h) (Or.inl ⟨by rfl, ?_⟩) (fun _ => by assumption) ?_
      rotate_left
      · ((intro w hSw; clear hSw; go_simp); (try with_reducible rfl))
      try simp only [Act.put, List.setIfInBounds_toArray, List.set_cons_zero, List.set_cons_succ]
      refine wpAnyE_take0 (i := 9) (v := ?_) rfl (by kernel_rfl) (by kernel_rfl) (by kernel_rfl) (by kernel_rfl) (fun _ _ _ h => h) (Or.inl ⟨by rfl, ?_⟩) (fun _ => by assumption) ?_
      rotate_left
      · ((intro w hSw; clear hSw; go_simp); (try with_reducible rfl))
      try simp only [Act.put, List.setIfInBounds_toArray, List.set_cons_zero, List.set_cons_succ]
      refine wpAnyE_ready (rs := [10]) (by kernel_rfl) (by simp) ?_
      refine AllE.last rfl (by kernel_rfl) (fun K hK => ?_) ?_
      · go_simp
        refine hK.out _ _ ?_
        clear hK K
        try simp only [Act.put, List.setIfInBounds_toArray, List.set_cons_zero, List.set_cons_succ]
        refine wpAnyE_done (by kernel_rfl) ?_ _
        obtain ⟨ws, hws⟩ : ∃ ws, ws = w6.setCell ⟨E, 0, none⟩ (.slice (some ⟨g6, 0, none⟩) (n + 1) c6) := ⟨_, rfl⟩
        have HKW : Hid (Bk ws E 58 #[.slice (some ⟨g6, 0, none⟩) (n + 1) c6, .slice Ag n cg]) := by rw [hws]; exact HKR.out.set_ 0 _
        have hnn : g6 ≠ E := by
          rcases HA6.out with h | h
          · exact fun e => H1.out.nl (by rw [h, e])
          · have := H1.out.root.lt; omega
        have HNN := Lib.hid hnn
        have HGS : Hid (ws.ownsRow B 4 1 (.slice Ag n cg) n (G.map Value.bool)) := by rw [hws]; exact own_keep HG6.out fun k hk => Below.heap_setCell _ ⟨E, 0, none⟩ _ k (fun e => H1.out.ng (by rw [hk]; exact congrArg some e))
        have HLS : Hid (ws.ownsRow B 60 8 (.slice (some ⟨g6, 0, none⟩) (n + 1) c6) (n + 1) (L.flatMap earc ++ [.int .i64 nd, .string nm, .bool f2, .bool f3, .bool f4, .bool f5, .bool f6, .bool f7])) := by rw [hws]; exact own_keep HP6.out.own fun k hk => Below.heap_setCell _ ⟨E, 0, none⟩ _ k (by injection hk with hk; have hk : g6 = k := hk; show k ≠ E; omega)
        have HKS6 : Hid (Kept w1 ws (exE E (.slice Al n cl) (.slice Ag n cg))) := by rw [hws]; exact (HK6.out.mono (fun _ _ e => .inr e)).set_ E 0 (fun _ => .inl rfl) _
        have hsz : w6.heap.size = ws.heap.size := by rw [hws]; simp [World.setCell]
        have HLT6 : Hid (g6 < ws.heap.size) := by rw [← hsz]; exact HP6.out.lt
        have hws1 : w1.heap.size ≤ ws.heap.size := by rw [← hsz]; exact HS6.out
        rw [← hws]
        have r0 := HKW.out.cell 0
        have r1 := HKW.out.cell 1
        have q0 := HKW.out.free 1
        have q2 := HKW.out.lt
        have HSP : Hid (Sep (.slice Ag n cg) (.slice (some ⟨g6, 0, none⟩) (n + 1) c6)) := (fun k h1 h2 => by injection h2 with h2; have h2 : g6 = k := h2; rcases HA6.out with h3 | h3; exact HSEP.out k (by rw [h3, h2]) h1; have := HGB.out k h1; omega)
        clear hws hsz hnn hHeld
        go_upto_region 5 with (at_builtin; refine wp_push rfl _ _ 56 rfl B 4 Tryd.underlying56 inf_B rfl (by decide) ws (.slice Ag n cg) n (G.map Value.bool) [.bool false] rfl rfl rfl HGS.out rfl (by simp [Value.oneCell']) (by omega) (by omega) (by omega) ?_; intro v7 w7 hpush; obtain ⟨g7, c7, rfl, _, _⟩ := hpush.form; have HP7 := Lib.hid hpush; have hkr : Bk w7 E 58 #[.slice (some ⟨g6, 0, none⟩) (n + 1) c6, .slice Ag n cg] := HKW.out.grown hpush.grown (fun e => H1.out.ng e.symm); have r0' := hkr.cell 0; have r1' := hkr.cell 1; have q0' := hkr.free 1; have q2' := hkr.lt; have HKR7 := Lib.hid hkr; clear hpush hkr)
        go_wp2_with fail
        go_ret
        refine ⟨by unfold addR; rw [hyes.out, HN.out]; rfl, ?_⟩
        unfold addL addG
        rw [hyes.out]
        have hlE : E < w1.heap.size := H1.out.root.lt
        have HA7 : Hid ((Value.slice Ag n cg).ownBlock = some g7 ∨ ws.heap.size ≤ g7) := by
          rcases HP7.out.at_ with e | ⟨k, hk, e⟩
          · exact .inl e.symm
          · injection e with e; have e : g7 = k := e; exact .inr (by omega)
        have HNE : Hid (g6 ≠ g7) := (fun e => by rcases HA7.out with h3 | h3; exact HSP.out g7 h3 (by rw [e]; rfl); have := HLT6.out; omega)
        refine EChg.pre (EA.added (x := ⟨nd, nm, f2, f3, f4, f5, f6, f7⟩) H1.out HN.out (HKR7.out.set_ 1 _) (own_keep (HP7.out.other HLS.out HSP.out) fun k hk => Below.heap_setCell _ ⟨E, 1, none⟩ _ k ?_) (own_keep HP7.out.own fun k hk => Below.heap_setCell _ ⟨E, 1, none⟩ _ k ?_) HA6.out (HA7.out.imp id fun e => Nat.le_trans hws1 e) HNE.out ?_) HBL.out
        · injection hk with hk
          have hk : g6 = k := hk
          have := HNN.out
          show k ≠ E
          omega
        · injection hk with hk
          have hk : g7 = k := hk
          show k ≠ E
          rcases HA7.out with h | h
          · exact fun e => H1.out.ng (by rw [h, hk, e])
          · omega
        · exact (HKS6.out.then_ (Kept.grown HP7.out.grown (fun k => (Value.slice Ag n cg).ownBlock = some k) (fun _ e => e)) (fun _ _ e => .inr (.inr e))).set_ E 1 (fun _ => .inl rfl) _
      exact AllE.nil
    exact AllE.nil
  exact AllE.nil
end Go.Proofs.YtimlmekgapdkiaaDoor

