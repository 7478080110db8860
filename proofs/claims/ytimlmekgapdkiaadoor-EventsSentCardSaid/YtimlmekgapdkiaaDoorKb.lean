/- ears: their memory; Add -/
import Derived.Test.YtimlmekgapdkiaaDoorTma
import Derived.Test.YtimlmekgapdkiaaDoorKa
import Derived.Test.YtimlmekgapdkiaaDoorKh
import Derived.BigQuiet
namespace Go.Proofs.YtimlmekgapdkiaaDoor
set_option linter.unusedVariables false
set_option linter.unusedSimpArgs false
open Go.RowKit Go.Cas

def earc (x : EarV) : List Value := [.int .i64 x.node, .string x.name, .bool x.down, .bool x.once, .bool x.calm, .bool x.stop, .bool x.now, .bool x.bar]
def earV (x : EarV) : Value := .agg #[.int .i64 x.node, .string x.name, .bool x.down, .bool x.once, .bool x.calm, .bool x.stop, .bool x.now, .bool x.bar]
def exE (E : Nat) (vl vg : Value) (k : Nat) : Prop := k = E ∨ vl.ownBlock = some k ∨ vg.ownBlock = some k
structure EA (tE te : TypeId) (B E : Nat) (vl vg : Value) (L : List EarV) (G : List Bool) (w : World) : Prop where
  root : Bk w E tE #[vl, vg]
  ol : w.ownsRow B te 8 vl L.length (L.flatMap earc)
  og : w.ownsRow B 4 1 vg L.length (G.map Value.bool)
  gl : G.length = L.length
  hE : B ≤ E
  nl : vl.ownBlock ≠ some E
  ng : vg.ownBlock ≠ some E
  sep : Sep vl vg
theorem ears_len (L : List EarV) : (L.flatMap earc).length = L.length * 8 := by
  induction L with
  | nil => rfl
  | cons a l ih => rw [List.flatMap_cons, List.length_append, ih]; simp [earc]; omega
section
variable {tE te : TypeId} {B E : Nat} {vl vg : Value} {L : List EarV} {G : List Bool} {w w' : World}
theorem EA.keep (h : EA tE te B E vl vg L G w) (hk : ∀ k, exE E vl vg k → w'.heap[k]? = w.heap[k]?) : EA tE te B E vl vg L G w' :=
  ⟨(hk E (.inl rfl)).trans h.root, own_keep h.ol (fun k e => hk k (.inr (.inl e))), own_keep h.og (fun k e => hk k (.inr (.inr e))), h.gl, h.hE, h.nl, h.ng, h.sep⟩
theorem EA.fb (h : EA tE te B E vl vg L G w) {k : Nat} (hk : exE E vl vg k) : B ≤ k ∧ k < w.heap.size := by
  rcases hk with rfl | hk | hk
  · exact ⟨h.hE, h.root.lt⟩
  · exact own_lt h.ol hk
  · exact own_lt h.og hk
theorem EA.below (h : EA tE te B E vl vg L G w) (hb : Below w.heap.size w w') : EA tE te B E vl vg L G w' := h.keep fun k hk => hb.block k (h.fb hk).2
end
/-- the ear is taken -/
def addOk (L : List EarV) (x : EarV) : Bool := decide (L.length ≠ 200) && decide (x.name.size ≠ 0) && decide (x.name.size ≤ 40)
def addL (L : List EarV) (x : EarV) : List EarV := if addOk L x then L ++ [x] else L
def addG (L : List EarV) (G : List Bool) (x : EarV) : List Bool := if addOk L x then G ++ [false] else G
def addR (L : List EarV) (x : EarV) : Int := if addOk L x then (L.length : Int) else -1
def EChg (tE te : TypeId) (B E : Nat) (vl vg : Value) (L' : List EarV) (G' : List Bool) (w w' : World) : Prop :=
  ∃ vl' vg', EA tE te B E vl' vg' L' G' w' ∧ (∀ k, k < w.heap.size → exE E vl' vg' k → exE E vl vg k) ∧ Kept w w' (exE E vl vg)
theorem inf_Ear : (Tryd.prog.info? 64).map (fun i => (i.zero, i.size, i.bytes)) = some (some (.agg #[.int .i64 0, .string ByteArray.empty, .bool false, .bool false, .bool false, .bool false, .bool false, .bool false]), 8, 32) := by kernel_rfl
theorem inf_rEar : (Tryd.prog.info? 60).map (fun i => (i.zero, i.size, i.bytes)) = some (some (.agg #[.int .i64 0, .string ByteArray.empty, .bool false, .bool false, .bool false, .bool false, .bool false, .bool false]), 8, 32) := by kernel_rfl
theorem inf_B : (Tryd.prog.info? 4).map (fun i => (i.zero, i.size, i.bytes)) = some (some (.bool false), 1, 1) := by kernel_rfl
/-- what two appends and two stores leave -/
theorem EA.added {tE te : TypeId} {B E n g6 c6 g7 c7 : Nat} {vl vg : Value} {L : List EarV} {G : List Bool} {x : EarV} {w wf : World} (H : EA tE te B E vl vg L G w) (hn : n = L.length)
    (hr : Bk wf E tE #[.slice (some ⟨g6, 0, none⟩) (n + 1) c6, .slice (some ⟨g7, 0, none⟩) (n + 1) c7])
    (h6 : wf.ownsRow B te 8 (.slice (some ⟨g6, 0, none⟩) (n + 1) c6) (n + 1) (L.flatMap earc ++ earc x)) (h7 : wf.ownsRow B 4 1 (.slice (some ⟨g7, 0, none⟩) (n + 1) c7) (n + 1) (G.map Value.bool ++ [.bool false]))
    (a6 : vl.ownBlock = some g6 ∨ w.heap.size ≤ g6) (a7 : vg.ownBlock = some g7 ∨ w.heap.size ≤ g7) (hs : g6 ≠ g7) (hk : Kept w wf (exE E vl vg)) : EChg tE te B E vl vg (L ++ [x]) (G ++ [false]) w wf := by
  subst hn
  have hlt := H.root.lt
  refine ⟨_, _, ⟨hr, ?_, ?_, by simp [H.gl], H.hE, fun e => ?_, fun e => ?_, fun k h1 h2 => ?_⟩, fun k hk2 hf => ?_, hk⟩
  · rw [List.length_append, List.flatMap_append, List.flatMap_singleton]; exact h6
  · rw [List.length_append, List.map_append]; exact h7
  · injection e with e
    have e : g6 = E := e
    rcases a6 with h | h
    · exact H.nl (by rw [h, e])
    · omega
  · injection e with e
    have e : g7 = E := e
    rcases a7 with h | h
    · exact H.ng (by rw [h, e])
    · omega
  · injection h1 with h1
    injection h2 with h2
    have h1 : g6 = k := h1
    have h2 : g7 = k := h2
    omega
  · rcases hf with h | h | h
    · exact .inl h
    · injection h with h
      have h : g6 = k := h
      rcases a6 with h3 | h3
      · exact .inr (.inl (by rw [h3, h]))
      · omega
    · injection h with h
      have h : g7 = k := h
      rcases a7 with h3 | h3
      · exact .inr (.inr (by rw [h3, h]))
      · omega
theorem EChg.pre {tE te : TypeId} {B E : Nat} {vl vg : Value} {L : List EarV} {G : List Bool} {w w1 w' : World} (h : EChg tE te B E vl vg L G w1 w') (hb : Below w.heap.size w w1) : EChg tE te B E vl vg L G w w' := by
  obtain ⟨vl', vg', h1, h2, h3⟩ := h
  exact ⟨vl', vg', h1, fun k hk hf => h2 k (Nat.lt_of_lt_of_le hk hb.size) hf, (Kept.of_below hb _).then_ h3 (fun _ _ e => e)⟩
theorem emp_size (s : ByteArray) : s.toList.isEmpty = decide (s.size = 0) := by
  rw [ByteArray.toList_eq, Lib.size_eq]
  cases s.data.toList <;> simp
set_option maxRecDepth 100000 in
set_option maxHeartbeats 16000000 in
theorem c_eAdd {w : World} {B E : Nat} {vl vg : Value} {L : List EarV} {G : List Bool} (h : EA 116 64 B E vl vg L G w) (hL : L.length ≤ 200) (x : EarV) (hx : x.name.size ≤ maxLen) :
    Calls Tryd.prog 26 #[.pointer (some ⟨E, 0, none⟩), earV x] w fun e w' => e = .returned (.int .i64 (addR L x)) ∧ EChg 116 64 B E vl vg (addL L x) (addG L G x) w w' := by
  have H := Lib.hid h
  obtain ⟨n, hn⟩ : ∃ n, n = L.length := ⟨_, rfl⟩
  have HN := Lib.hid hn
  have e0 := h.root.cell 0; have e1 := h.root.cell 1
  have le := h.root.lt
  have hol := h.ol
  have hog := h.og
  rw [← hn] at hol hog hL
  obtain ⟨_, Al, cl, rfl, _, _⟩ := RdS.of_own hol
  obtain ⟨_, Ag, cg, rfl, _, _⟩ := RdS.of_own hog
  have HOL := Lib.hid hol
  have HOG := Lib.hid hog
  unfold maxLen at hx
  clear h hn hol hog
  unfold earV
  obtain ⟨nd, nm, f2, f3, f4, f5, f6, f7⟩ := x
  have hok : addOk L ⟨nd, nm, f2, f3, f4, f5, f6, f7⟩ = (decide (n ≠ 200) && decide (nm.size ≠ 0) && decide (nm.size ≤ 40)) := by rw [HN.out]; rfl
  have HOK : ∀ b, (decide (n ≠ 200) && decide (nm.size ≠ 0) && decide (nm.size ≤ 40)) = b → Hid (addOk L ⟨nd, nm, f2, f3, f4, f5, f6, f7⟩ = b) := fun _ h => hok.trans h
  have hx2 : (nm.size : Int) ≤ 9223372036854775807 := by have : nm.size ≤ 9223372036854775807 := hx; omega
  have hem := emp_size nm
  clear hok hx
  by_cases h2 : n = 200
  · have hno := HOK false (by rw [h2]; rfl)
    subst h2
    clear HOK hem
    go_enter Tryd.func26, Tryd.ntmps26
    go_wp2_with fail
    go_ret
    refine ⟨by unfold addR; rw [hno.out]; rfl, ?_⟩
    unfold addL addG; rw [hno.out]
    exact ⟨_, _, H.out.below (bl_alloc (Below.refl _ _) _), fun _ _ h => h, Kept.of_below (bl_alloc (Below.refl _ _) _) _⟩
  have hn2 : ¬ (n : Int) = 200 := by omega
  have hn2b : ((n : Int) == 200) = false := by rw [beq_eq_false_iff_ne]; exact hn2
  by_cases h3 : nm.size = 0
  · have hno := HOK false (by rw [h3]; simp)
    have he : nm.toList.isEmpty = true := by rw [hem, h3]; rfl
    clear HOK h3 hem
    go_enter Tryd.func26, Tryd.ntmps26
    go_wp2_with fail
    go_ret
    refine ⟨by unfold addR; rw [hno.out]; rfl, ?_⟩
    unfold addL addG; rw [hno.out]
    exact ⟨_, _, H.out.below (bl_alloc (Below.refl _ _) _), fun _ _ h => h, Kept.of_below (bl_alloc (Below.refl _ _) _) _⟩
  have he : nm.toList.isEmpty = false := by rw [hem]; simp [h3]
  by_cases h4 : (40 : Int) < (nm.size : Int)
  · have hno := HOK false (by simp; omega)
    clear HOK h3 hem
    go_enter Tryd.func26, Tryd.ntmps26
    go_wp2_with fail
    go_ret
    refine ⟨by unfold addR; rw [hno.out]; rfl, ?_⟩
    unfold addL addG; rw [hno.out]
    exact ⟨_, _, H.out.below (bl_alloc (Below.refl _ _) _), fun _ _ h => h, Kept.of_below (bl_alloc (Below.refl _ _) _) _⟩
  have hyes := HOK true (by simp only [Bool.and_eq_true, decide_eq_true_eq]; exact ⟨⟨by omega, h3⟩, by omega⟩)
  have h4' : ¬ (40 : Int) < (nm.size : Int) := h4
  clear HOK h3 hem
  go_enter Tryd.func26, Tryd.ntmps26
  go_upto_region 3 with fail
  obtain ⟨bx, hbx⟩ : ∃ bx, bx = w.heap.size := ⟨_, rfl⟩
  obtain ⟨w1, hw1⟩ : ∃ w1, w1 = w.alloc (.cells #[.int .i64 nd, .string nm, .bool f2, .bool f3, .bool f4, .bool f5, .bool f6, .bool f7] 64) := ⟨_, rfl⟩
  rw [← hw1, ← hbx]
  have HBL : Hid (Below w.heap.size w w1) := by rw [hw1]; exact bl_alloc (Below.refl _ _) _
  have HBX : Hid (Bk w1 bx 64 #[.int .i64 nd, .string nm, .bool f2, .bool f3, .bool f4, .bool f5, .bool f6, .bool f7]) := by rw [hw1, hbx]; exact bk_new' _ _ _ rfl
  have H1 : Hid (EA 116 64 B E (.slice Al n cl) (.slice Ag n cg) L G w1) := H.out.below HBL.out
  have hol1 := H1.out.ol
  have hog1 := H1.out.og
  rw [← HN.out] at hol1 hog1
  have HOL1 : Hid (w1.ownsRow B 64 8 (.slice Al n cl) n (L.flatMap earc)) := hol1
  have HOG1 : Hid (w1.ownsRow B 4 1 (.slice Ag n cg) n (G.map Value.bool)) := hog1
  have hbB : B ≤ w1.heap.size := by have := H1.out.hE; have := H1.out.root.lt; omega
  have HLB : Hid (∀ k, (Value.slice Al n cl).ownBlock = some k → k < w1.heap.size) := fun k hk => (own_lt hol1 hk).2
  have HGB : Hid (∀ k, (Value.slice Ag n cg).ownBlock = some k → k < w1.heap.size) := fun k hk => (own_lt hog1 hk).2
  have HXN : Hid ((Value.slice Al n cl).ownBlock ≠ some bx ∧ (Value.slice Ag n cg).ownBlock ≠ some bx) := ⟨fun e => by have := (own_lt HOL.out e).2; omega, fun e => by have := (own_lt HOG.out e).2; omega⟩
  have HKS : Hid (∀ W', Kept w1 W' (fun k => (Value.slice Al n cl).ownBlock = some k ∨ (Value.slice Ag n cg).ownBlock = some k) → ((W'.cell? ⟨E, 0, none⟩ = some (.slice Al n cl) ∧ W'.cell? ⟨E, 1, none⟩ = some (.slice Ag n cg)) ∧ (W'.cell? ⟨bx, 0, none⟩ = some (.int .i64 nd) ∧ W'.cell? ⟨bx, 1, none⟩ = some (.string nm) ∧ W'.cell? ⟨bx, 2, none⟩ = some (.bool f2) ∧ W'.cell? ⟨bx, 3, none⟩ = some (.bool f3) ∧ W'.cell? ⟨bx, 4, none⟩ = some (.bool f4) ∧ W'.cell? ⟨bx, 5, none⟩ = some (.bool f5) ∧ W'.cell? ⟨bx, 6, none⟩ = some (.bool f6) ∧ W'.cell? ⟨bx, 7, none⟩ = some (.bool f7)))) := fun W' hk => by
    have h1 := hk.bk H1.out.root (fun e => e.elim H1.out.nl H1.out.ng)
    have h2 := hk.bk HBX.out (fun e => e.elim HXN.out.1 HXN.out.2)
    exact ⟨⟨h1.cell 0, h1.cell 1⟩, h2.cell 0, h2.cell 1, h2.cell 2, h2.cell 3, h2.cell 4, h2.cell 5, h2.cell 6, h2.cell 7⟩
  have HK0 : Hid (Kept w1 w1 (fun k => (Value.slice Al n cl).ownBlock = some k ∨ (Value.slice Ag n cg).ownBlock = some k)) := Kept.refl _ _
  have HSEP : Hid (Sep (.slice Al n cl) (.slice Ag n cg)) := H1.out.sep
  have hRg : w1.cell? ⟨E, 0, none⟩ = some (.slice Al n cl) := H1.out.root.cell 0
  clear hw1 hbx e0 e1 le he hx2 h4 h4' hn2 hn2b hol1 hog1 hRg HOL HOG
  refine wp_regionE (S := (fun w' => (w'.cell? ⟨E, 0, none⟩ = some (.slice Al n cl) ∧ w'.cell? ⟨E, 1, none⟩ = some (.slice Ag n cg)) ∧ (w'.cell? ⟨bx, 0, none⟩ = some (.int .i64 nd) ∧ w'.cell? ⟨bx, 1, none⟩ = some (.string nm) ∧ w'.cell? ⟨bx, 2, none⟩ = some (.bool f2) ∧ w'.cell? ⟨bx, 3, none⟩ = some (.bool f3) ∧ w'.cell? ⟨bx, 4, none⟩ = some (.bool f4) ∧ w'.cell? ⟨bx, 5, none⟩ = some (.bool f5) ∧ w'.cell? ⟨bx, 6, none⟩ = some (.bool f6) ∧ w'.cell? ⟨bx, 7, none⟩ = some (.bool f7)))) [17, 20] (by kernel_rfl) ?_ (fun hHeld => ?_)
  · (try dsimp only)
    (first | with_reducible exact HKS.out _ HK0.out.drew | with_reducible exact HKS.out _ (HK0.out.alloc _).drew | with_reducible exact HKS.out _ ((HK0.out.alloc _).alloc _).drew | with_reducible exact HKS.out _ HK7.out | with_reducible exact HKS.out _ HK6.out | with_reducible exact HKS.out _ (HK6.out.alloc _))
  refine wpAnyE_take0 (i := 0) (v := ?_) rfl (by kernel_rfl) (by kernel_rfl) (by kernel_rfl) (by kernel_rfl) (fun _ _ _ h => h) (Or.inl ⟨by rfl, ?_⟩) (fun _ => by assumption) ?_
  rotate_left
  · ((intro w hSw; clear hSw; go_simp); (try with_reducible rfl))
  try simp only [Act.put, List.setIfInBounds_toArray, List.set_cons_zero, List.set_cons_succ]
  refine wpAnyE_take0 (i := 1) (v := ?_) rfl (by kernel_rfl) (by kernel_rfl) (by kernel_rfl) (by kernel_rfl) (fun _ _ _ h => h) (Or.inl ⟨by rfl, ?_⟩) (fun _ => by assumption) ?_
  rotate_left
  · ((intro w hSw; clear hSw; go_simp); (try with_reducible rfl))
  try simp only [Act.put, List.setIfInBounds_toArray, List.set_cons_zero, List.set_cons_succ]
  refine wpAnyE_take0 (i := 2) (v := ?_) rfl (by kernel_rfl) (by kernel_rfl) (by kernel_rfl) (by kernel_rfl) (fun _ _ _ h => h) (Or.inl ⟨by rfl, ?_⟩) (fun _ => by assumption) ?_
  rotate_left
  · ((intro w hSw; clear hSw; go_simp); (try with_reducible rfl))
  try simp only [Act.put, List.setIfInBounds_toArray, List.set_cons_zero, List.set_cons_succ]
  refine wpAnyE_take0 (i := 3) (v := ?_) rfl (by kernel_rfl) (by kernel_rfl) (by kernel_rfl) (by kernel_rfl) (fun _ _ _ h => h) (Or.inl ⟨by rfl, ?_⟩) (fun _ => by assumption) ?_
  rotate_left
  · ((intro w hSw; clear hSw; go_simp); (try with_reducible rfl))
  try simp only [Act.put, List.setIfInBounds_toArray, List.set_cons_zero, List.set_cons_succ]
  refine wpAnyE_take0 (i := 4) (v := ?_) rfl (by kernel_rfl) (by kernel_rfl) (by kernel_rfl) (by kernel_rfl) (fun _ _ _ h => h) (Or.inl ⟨by rfl, ?_⟩) (fun _ => by assumption) ?_
  rotate_left
  · ((intro w hSw; clear hSw; go_simp); (try with_reducible rfl))
  try simp only [Act.put, List.setIfInBounds_toArray, List.set_cons_zero, List.set_cons_succ]
  refine wpAnyE_take (i := 5) (v := ?_) rfl (by kernel_rfl) (by kernel_rfl) (by kernel_rfl) (by kernel_rfl) (fun _ _ _ h => h) (Or.inl ⟨by rfl, ?_⟩) (by assumption) ?_
  rotate_left
  · ((intro w hSw; (try dsimp only at hSw); go_simp); (try with_reducible rfl))
  try simp only [Act.put, List.setIfInBounds_toArray, List.set_cons_zero, List.set_cons_succ]
  refine wpAnyE_take (i := 6) (v := ?_) rfl (by kernel_rfl) (by kernel_rfl) (by kernel_rfl) (by kernel_rfl) (fun _ _ _ h => h) (Or.inl ⟨by rfl, ?_⟩) (by assumption) ?_
  rotate_left
  · ((intro w hSw; (try dsimp only at hSw); go_simp); (try with_reducible rfl))
  try simp only [Act.put, List.setIfInBounds_toArray, List.set_cons_zero, List.set_cons_succ]
  refine wpAnyE_take0 (i := 9) (v := ?_) rfl (by kernel_rfl) (by kernel_rfl) (by kernel_rfl) (by kernel_rfl) (fun _ _ _ h => h) (Or.inl ⟨by rfl, ?_⟩) (fun _ => by assumption) ?_
  rotate_left
  · ((intro w hSw; clear hSw; go_simp); (try with_reducible rfl))
  try simp only [Act.put, List.setIfInBounds_toArray, List.set_cons_zero, List.set_cons_succ]
  refine wpAnyE_take0 (i := 10) (v := ?_) rfl (by kernel_rfl) (by kernel_rfl) (by kernel_rfl) (by kernel_rfl) (fun _ _ _ h => h) (Or.inl ⟨by rfl, ?_⟩) (fun _ => by assumption) ?_
  rotate_left
  · ((intro w hSw; clear hSw; go_simp); (try with_reducible rfl))
  try simp only [Act.put, List.setIfInBounds_toArray, List.set_cons_zero, List.set_cons_succ]
  refine wpAnyE_take0 (i := 11) (v := ?_) rfl (by kernel_rfl) (by kernel_rfl) (by kernel_rfl) (by kernel_rfl) (fun _ _ _ h => h) (Or.inl ⟨by rfl, ?_⟩) (fun _ => by assumption) ?_
  rotate_left
  · ((intro w hSw; clear hSw; go_simp); (try with_reducible rfl))
  try simp only [Act.put, List.setIfInBounds_toArray, List.set_cons_zero, List.set_cons_succ]
  refine wpAnyE_take (i := 12) (v := ?_) rfl (by kernel_rfl) (by kernel_rfl) (by kernel_rfl) (by kernel_rfl) (fun _ _ _ h => h) (Or.inl ⟨by rfl, ?_⟩) (by assumption) ?_
  rotate_left
  · ((intro w hSw; (try dsimp only at hSw); go_simp); (try with_reducible rfl))
  try simp only [Act.put, List.setIfInBounds_toArray, List.set_cons_zero, List.set_cons_succ]
  refine wpAnyE_ready (rs := [7, 13]) (by kernel_rfl) (by simp) ?_
  refine AllE.cons rfl (fun K hK => ?_) ?_
  · go_simp
    refine hK.out _ _ ?_ (fun hHeld => ?_)
    · (try dsimp only)
      (first | with_reducible exact HKS.out _ HK0.out.drew | with_reducible exact HKS.out _ (HK0.out.alloc _).drew | with_reducible exact HKS.out _ ((HK0.out.alloc _).alloc _).drew | with_reducible exact HKS.out _ HK7.out | with_reducible exact HKS.out _ HK6.out | with_reducible exact HKS.out _ (HK6.out.alloc _))
    clear hK K
    try simp only [Act.put, List.setIfInBounds_toArray, List.set_cons_zero, List.set_cons_succ]
    refine wpAnyE_ready (rs := [8, 13]) (by kernel_rfl) (by simp) ?_
    refine AllE.cons rfl (fun K hK => ?_) ?_
    · (refine step_push (by rfl) _ _ _ (by rfl) B 64 Tryd.underlying114 inf_Ear rfl (by decide) (.slice Al n cl) n (L.flatMap earc) _ [.int .i64 nd, .string nm, .bool f2, .bool f3, .bool f4, .bool f5, .bool f6, .bool f7] (by rfl) (by rfl) (by first | with_reducible exact own_drew (HOL1.out.alloc _) | with_reducible exact own_drew ((HOL1.out.alloc _).alloc _)) (by first | with_reducible exact Bk.drew (Bk.new _ _ _) | with_reducible exact Bk.drew ((Bk.new _ _ _).alloc _) | exact Bk.drew (bk_new' _ _ _ (by simp))) rfl (by simp [Value.oneCell']) (by omega) (by omega) (by simp; omega) ?_; intro g6 c6 w6 hpu; have HP6 := Lib.hid hpu; have HK6 : Hid (Kept w1 w6 (fun k => (Value.slice Al n cl).ownBlock = some k ∨ (Value.slice Ag n cg).ownBlock = some k)) := (by first | exact (HK0.out.alloc _).drew.then_ hpu.kept (fun _ _ e => .inl e) | exact ((HK0.out.alloc _).alloc _).drew.then_ hpu.kept (fun _ _ e => .inl e)); have HA6 : Hid ((Value.slice Al n cl).ownBlock = some g6 ∨ w1.heap.size ≤ g6) := hpu.at_.imp id (fun e => by rw [e]; simp; try omega); have HG6 : Hid (w6.ownsRow B 4 1 (.slice Ag n cg) n (G.map Value.bool)) := (by first | exact hpu.other (own_drew (HOG1.out.alloc _)) HSEP.out | exact hpu.other (own_drew ((HOG1.out.alloc _).alloc _)) HSEP.out); have HS6 : Hid (w1.heap.size ≤ w6.heap.size) := HK6.out.size; clear hpu)
      refine hK.out _ _ ?_ (fun hHeld => ?_)
      · (try dsimp only)
        (first | with_reducible exact HKS.out _ HK0.out.drew | with_reducible exact HKS.out _ (HK0.out.alloc _).drew | with_reducible exact HKS.out _ ((HK0.out.alloc _).alloc _).drew | with_reducible exact HKS.out _ HK7.out | with_reducible exact HKS.out _ HK6.out | with_reducible exact HKS.out _ (HK6.out.alloc _))
      clear hK K
      try simp only [Act.put, List.setIfInBounds_toArray, List.set_cons_zero, List.set_cons_succ]
      refine wpAnyE_ready (rs := [13]) (by kernel_rfl) (by simp) ?_
      refine AllE.cons rfl (fun K hK => ?_) ?_
      · go_simp
        refine hK.out _ _ ?_ (fun hHeld => ?_)
        · (try dsimp only)
          (first | with_reducible exact HKS.out _ HK0.out.drew | with_reducible exact HKS.out _ (HK0.out.alloc _).drew | with_reducible exact HKS.out _ ((HK0.out.alloc _).alloc _).drew | with_reducible exact HKS.out _ HK7.out | with_reducible exact HKS.out _ HK6.out | with_reducible exact HKS.out _ (HK6.out.alloc _))
        clear hK K
        try simp only [Act.put, List.setIfInBounds_toArray, List.set_cons_zero, List.set_cons_succ]
        refine wpAnyE_ready (rs := [14]) (by kernel_rfl) (by simp) ?_
        refine AllE.cons rfl (fun K hK => ?_) ?_
        · (refine step_push (by rfl) _ _ _ (by rfl) B 4 Tryd.underlying56 inf_B rfl (by decide) (.slice Ag n cg) n (G.map Value.bool) _ [.bool false] (by rfl) (by rfl) (by first | with_reducible exact HG6.out | with_reducible exact HG6.out.alloc _) (by first | with_reducible exact Bk.new _ _ _ | exact Bk.grown (Bk.drew ((Bk.new _ _ _).alloc _)) HP6.out.grown (fun e => by have := HLB.out _ e.symm; omega) | exact Bk.grown (Bk.drew (bk_new' _ _ _ (by simp))) HP6.out.grown (fun e => by have := HLB.out _ e.symm; omega)) rfl (by simp [Value.oneCell']) (by omega) (by omega) (by have := HS6.out; first | omega | (simp; omega)) ?_; intro g7 c7 w7 hpu; have HP7 := Lib.hid hpu; have HK7 : Hid (Kept w1 w7 (fun k => (Value.slice Al n cl).ownBlock = some k ∨ (Value.slice Ag n cg).ownBlock = some k)) := (by first | exact (HK6.out.alloc _).then_ hpu.kept (fun _ _ e => .inr e) | exact HK6.out.then_ hpu.kept (fun _ _ e => .inr e)); have HA7 : Hid ((Value.slice Ag n cg).ownBlock = some g7 ∨ w6.heap.size ≤ g7) := hpu.at_.imp id (fun e => by rw [e]; first | exact Nat.le_refl _ | simp); have HSP : Hid (Sep (.slice Ag n cg) (.slice (some ⟨g6, 0, none⟩) (n + 1) c6)) := (fun k h1 h2 => by injection h2 with h2; have h2 : g6 = k := h2; rcases HA6.out with h3 | h3; exact HSEP.out k (by rw [h3, h2]) h1; have := HGB.out k h1; omega); have HQ6 : Hid (w7.ownsRow B 64 8 (.slice (some ⟨g6, 0, none⟩) (n + 1) c6) (n + 1) (L.flatMap earc ++ [.int .i64 nd, .string nm, .bool f2, .bool f3, .bool f4, .bool f5, .bool f6, .bool f7])) := (by first | exact hpu.other HP6.out.own HSP.out | exact hpu.other (HP6.out.own.alloc _) HSP.out); have HNE : Hid (g6 ≠ g7) := (fun e => by rcases HA7.out with h3 | h3; exact HSP.out g7 h3 (by rw [e]; rfl); have := HP6.out.lt; omega); have hkr : Bk w7 E 116 #[.slice Al n cl, .slice Ag n cg] := HK7.out.bk H1.out.root (fun e => e.elim H1.out.nl H1.out.ng); have r0 := hkr.cell 0; have r1 := hkr.cell 1; have q0 := hkr.free 0; have q1 := hkr.free 1; have q2 := hkr.lt; have HKR := Lib.hid hkr; clear hpu hkr)
          refine hK.out _ _ ?_ (fun hHeld => ?_)
          · (try dsimp only)
            (first | with_reducible exact HKS.out _ HK0.out.drew | with_reducible exact HKS.out _ (HK0.out.alloc _).drew | with_reducible exact HKS.out _ ((HK0.out.alloc _).alloc _).drew | with_reducible exact HKS.out _ HK7.out | with_reducible exact HKS.out _ HK6.out | with_reducible exact HKS.out _ (HK6.out.alloc _))
          clear hK K
          try simp only [Act.put, List.setIfInBounds_toArray, List.set_cons_zero, List.set_cons_succ]
          refine wpAnyE_take0 (i := 15) (v := ?_) rfl (by kernel_rfl) (by kernel_rfl) (by kernel_rfl) (by kernel_rfl) (fun _ _ _ h => h) (Or.inl ⟨by rfl, ?_⟩) (fun _ => by assumption) ?_
          rotate_left
          · ((intro w hSw; clear hSw; go_simp); (try with_reducible rfl))
          try simp only [Act.put, List.setIfInBounds_toArray, List.set_cons_zero, List.set_cons_succ]
          refine wpAnyE_take0 (i := 16) (v := ?_) rfl (by kernel_rfl) (by kernel_rfl) (by kernel_rfl) (by kernel_rfl) (fun _ _ _ h => h) (Or.inl ⟨by rfl, ?_⟩) (fun _ => by assumption) ?_
          rotate_left
          · ((intro w hSw; clear hSw; go_simp); (try with_reducible rfl))
          try simp only [Act.put, List.setIfInBounds_toArray, List.set_cons_zero, List.set_cons_succ]
          refine wpAnyE_ready (rs := [17]) (by kernel_rfl) (by simp) ?_
          refine AllE.last rfl (by kernel_rfl) (fun K hK => ?_) ?_
          · go_simp
            refine hK.out _ _ ?_
            clear hK K
            try simp only [Act.put, List.setIfInBounds_toArray, List.set_cons_zero, List.set_cons_succ]
            refine wpAnyE_take0 (i := 18) (v := ?_) rfl (by kernel_rfl) (by kernel_rfl) (by kernel_rfl) (by kernel_rfl) (fun _ _ _ h => h) (Or.inl ⟨by rfl, ?_⟩) (fun e => (by cases e)) ?_
            rotate_left
            · ((intro w hSw; clear hSw; go_simp); (try with_reducible rfl))
            try simp only [Act.put, List.setIfInBounds_toArray, List.set_cons_zero, List.set_cons_succ]
            refine wpAnyE_take0 (i := 19) (v := ?_) rfl (by kernel_rfl) (by kernel_rfl) (by kernel_rfl) (by kernel_rfl) (fun _ _ _ h => h) (Or.inl ⟨by rfl, ?_⟩) (fun e => (by cases e)) ?_
            rotate_left
            · ((intro w hSw; clear hSw; go_simp); (try with_reducible rfl))
            try simp only [Act.put, List.setIfInBounds_toArray, List.set_cons_zero, List.set_cons_succ]
            refine wpAnyE_ready (rs := [20]) (by kernel_rfl) (by simp) ?_
            refine AllE.last rfl (by kernel_rfl) (fun K hK => ?_) ?_
            · go_simp
              refine hK.out _ _ ?_
              clear hK K
              try simp only [Act.put, List.setIfInBounds_toArray, List.set_cons_zero, List.set_cons_succ]
              refine wpAnyE_done (by kernel_rfl) ?_ _
              go_wp2_with fail
              go_ret
              refine ⟨by unfold addR; rw [hyes.out, HN.out]; rfl, ?_⟩
              unfold addL addG
              rw [hyes.out]
              have hR6 : ∀ k, k ≠ E → ((w7.setCell ⟨E, 0, none⟩ (.slice (some ⟨g6, 0, none⟩) (n + 1) c6)).setCell ⟨E, 1, none⟩ (.slice (some ⟨g7, 0, none⟩) (n + 1) c7)).heap[k]? = w7.heap[k]? := fun k hk => (Below.heap_setCell _ ⟨E, 1, none⟩ _ k hk).trans (Below.heap_setCell _ ⟨E, 0, none⟩ _ k hk)
              have hlE : E < w1.heap.size := H1.out.root.lt
              refine EChg.pre (EA.added (x := ⟨nd, nm, f2, f3, f4, f5, f6, f7⟩) H1.out HN.out ((HKR.out.set_ 0 _).set_ 1 _) (own_keep HQ6.out fun k hk => hR6 k ?_) (own_keep HP7.out.own fun k hk => hR6 k ?_) HA6.out (HA7.out.imp id fun e => Nat.le_trans HS6.out e) HNE.out ?_) HBL.out
              · injection hk with hk
                have hk : g6 = k := hk
                rcases HA6.out with h | h
                · exact fun e => H1.out.nl (by rw [h, hk, e])
                · omega
              · injection hk with hk
                have hk : g7 = k := hk
                rcases HA7.out with h | h
                · exact fun e => H1.out.ng (by rw [h, hk, e])
                · have := HS6.out; omega
              · exact ((HK7.out.mono (fun _ _ e => .inr e)).set_ E 0 (fun _ => .inl rfl) _).set_ E 1 (fun _ => .inl rfl) _
            exact AllE.nil
          exact AllE.nil
        exact AllE.nil
      exact AllE.nil
    refine AllE.cons rfl (fun K hK => ?_) ?_
    · go_simp
      refine hK.out _ _ ?_ (fun hHeld => ?_)
      · (try dsimp only)
        (first | with_reducible exact HKS.out _ HK0.out.drew | with_reducible exact HKS.out _ (HK0.out.alloc _).drew | with_reducible exact HKS.out _ ((HK0.out.alloc _).alloc _).drew | with_reducible exact HKS.out _ HK7.out | with_reducible exact HKS.out _ HK6.out | with_reducible exact HKS.out _ (HK6.out.alloc _))
      clear hK K
      try simp only [Act.put, List.setIfInBounds_toArray, List.set_cons_zero, List.set_cons_succ]
      refine wpAnyE_ready (rs := [8]) (by kernel_rfl) (by simp) ?_
      refine AllE.cons rfl (fun K hK => ?_) ?_
      · (refine step_push (by rfl) _ _ _ (by rfl) B 64 Tryd.underlying114 inf_Ear rfl (by decide) (.slice Al n cl) n (L.flatMap earc) _ [.int .i64 nd, .string nm, .bool f2, .bool f3, .bool f4, .bool f5, .bool f6, .bool f7] (by rfl) (by rfl) (by first | with_reducible exact own_drew (HOL1.out.alloc _) | with_reducible exact own_drew ((HOL1.out.alloc _).alloc _)) (by first | with_reducible exact Bk.drew (Bk.new _ _ _) | with_reducible exact Bk.drew ((Bk.new _ _ _).alloc _) | exact Bk.drew (bk_new' _ _ _ (by simp))) rfl (by simp [Value.oneCell']) (by omega) (by omega) (by simp; omega) ?_; intro g6 c6 w6 hpu; have HP6 := Lib.hid hpu; have HK6 : Hid (Kept w1 w6 (fun k => (Value.slice Al n cl).ownBlock = some k ∨ (Value.slice Ag n cg).ownBlock = some k)) := (by first | exact (HK0.out.alloc _).drew.then_ hpu.kept (fun _ _ e => .inl e) | exact ((HK0.out.alloc _).alloc _).drew.then_ hpu.kept (fun _ _ e => .inl e)); have HA6 : Hid ((Value.slice Al n cl).ownBlock = some g6 ∨ w1.heap.size ≤ g6) := hpu.at_.imp id (fun e => by rw [e]; simp; try omega); have HG6 : Hid (w6.ownsRow B 4 1 (.slice Ag n cg) n (G.map Value.bool)) := (by first | exact hpu.other (own_drew (HOG1.out.alloc _)) HSEP.out | exact hpu.other (own_drew ((HOG1.out.alloc _).alloc _)) HSEP.out); have HS6 : Hid (w1.heap.size ≤ w6.heap.size) := HK6.out.size; clear hpu)
        refine hK.out _ _ ?_ (fun hHeld => ?_)
        · (try dsimp only)
          (first | with_reducible exact HKS.out _ HK0.out.drew | with_reducible exact HKS.out _ (HK0.out.alloc _).drew | with_reducible exact HKS.out _ ((HK0.out.alloc _).alloc _).drew | with_reducible exact HKS.out _ HK7.out | with_reducible exact HKS.out _ HK6.out | with_reducible exact HKS.out _ (HK6.out.alloc _))
        clear hK K
        try simp only [Act.put, List.setIfInBounds_toArray, List.set_cons_zero, List.set_cons_succ]
        refine wpAnyE_ready (rs := [14]) (by kernel_rfl) (by simp) ?_
        refine AllE.cons rfl (fun K hK => ?_) ?_
        · (refine step_push (by rfl) _ _ _ (by rfl) B 4 Tryd.underlying56 inf_B rfl (by decide) (.slice Ag n cg) n (G.map Value.bool) _ [.bool false] (by rfl) (by rfl) (by first | with_reducible exact HG6.out | with_reducible exact HG6.out.alloc _) (by first | with_reducible exact Bk.new _ _ _ | exact Bk.grown (Bk.drew ((Bk.new _ _ _).alloc _)) HP6.out.grown (fun e => by have := HLB.out _ e.symm; omega) | exact Bk.grown (Bk.drew (bk_new' _ _ _ (by simp))) HP6.out.grown (fun e => by have := HLB.out _ e.symm; omega)) rfl (by simp [Value.oneCell']) (by omega) (by omega) (by have := HS6.out; first | omega | (simp; omega)) ?_; intro g7 c7 w7 hpu; have HP7 := Lib.hid hpu; have HK7 : Hid (Kept w1 w7 (fun k => (Value.slice Al n cl).ownBlock = some k ∨ (Value.slice Ag n cg).ownBlock = some k)) := (by first | exact (HK6.out.alloc _).then_ hpu.kept (fun _ _ e => .inr e) | exact HK6.out.then_ hpu.kept (fun _ _ e => .inr e)); have HA7 : Hid ((Value.slice Ag n cg).ownBlock = some g7 ∨ w6.heap.size ≤ g7) := hpu.at_.imp id (fun e => by rw [e]; first | exact Nat.le_refl _ | simp); have HSP : Hid (Sep (.slice Ag n cg) (.slice (some ⟨g6, 0, none⟩) (n + 1) c6)) := (fun k h1 h2 => by injection h2 with h2; have h2 : g6 = k := h2; rcases HA6.out with h3 | h3; exact HSEP.out k (by rw [h3, h2]) h1; have := HGB.out k h1; omega); have HQ6 : Hid (w7.ownsRow B 64 8 (.slice (some ⟨g6, 0, none⟩) (n + 1) c6) (n + 1) (L.flatMap earc ++ [.int .i64 nd, .string nm, .bool f2, .bool f3, .bool f4, .bool f5, .bool f6, .bool f7])) := (by first | exact hpu.other HP6.out.own HSP.out | exact hpu.other (HP6.out.own.alloc _) HSP.out); have HNE : Hid (g6 ≠ g7) := (fun e => by rcases HA7.out with h3 | h3; exact HSP.out g7 h3 (by rw [e]; rfl); have := HP6.out.lt; omega); have hkr : Bk w7 E 116 #[.slice Al n cl, .slice Ag n cg] := HK7.out.bk H1.out.root (fun e => e.elim H1.out.nl H1.out.ng); have r0 := hkr.cell 0; have r1 := hkr.cell 1; have q0 := hkr.free 0; have q1 := hkr.free 1; have q2 := hkr.lt; have HKR := Lib.hid hkr; clear hpu hkr)
          refine hK.out _ _ ?_ (fun hHeld => ?_)
          · (try dsimp only)
            (first | with_reducible exact HKS.out _ HK0.out.drew | with_reducible exact HKS.out _ (HK0.out.alloc _).drew | with_reducible exact HKS.out _ ((HK0.out.alloc _).alloc _).drew | with_reducible exact HKS.out _ HK7.out | with_reducible exact HKS.out _ HK6.out | with_reducible exact HKS.out _ (HK6.out.alloc _))
          clear hK K
          try simp only [Act.put, List.setIfInBounds_toArray, List.set_cons_zero, List.set_cons_succ]
          refine wpAnyE_take0 (i := 15) (v := ?_) rfl (by kernel_rfl) (by kernel_rfl) (by kernel_rfl) (by kernel_rfl) (fun _ _ _ h => h) (Or.inl ⟨by rfl, ?_⟩) (fun _ => by assumption) ?_
          rotate_left
          · ((intro w hSw; clear hSw; go_simp); (try with_reducible rfl))
          try simp only [Act.put, List.setIfInBounds_toArray, List.set_cons_zero, List.set_cons_succ]
          refine wpAnyE_take0 (i := 16) (v := ?_) rfl (by kernel_rfl) (by kernel_rfl) (by kernel_rfl) (by kernel_rfl) (fun _ _ _ h => h) (Or.inl ⟨by rfl, ?_⟩) (fun _ => by assumption) ?_
          rotate_left
          · ((intro w hSw; clear hSw; go_simp); (try with_reducible rfl))
          try simp only [Act.put, List.setIfInBounds_toArray, List.set_cons_zero, List.set_cons_succ]
          refine wpAnyE_ready (rs := [17]) (by kernel_rfl) (by simp) ?_
          refine AllE.last rfl (by kernel_rfl) (fun K hK => ?_) ?_
          · go_simp
            refine hK.out _ _ ?_
            clear hK K
            try simp only [Act.put, List.setIfInBounds_toArray, List.set_cons_zero, List.set_cons_succ]
            refine wpAnyE_take0 (i := 18) (v := ?_) rfl (by kernel_rfl) (by kernel_rfl) (by kernel_rfl) (by kernel_rfl) (fun _ _ _ h => h) (Or.inl ⟨by rfl, ?_⟩) (fun e => (by cases e)) ?_
            rotate_left
            · ((intro w hSw; clear hSw; go_simp); (try with_reducible rfl))
            try simp only [Act.put, List.setIfInBounds_toArray, List.set_cons_zero, List.set_cons_succ]
            refine wpAnyE_take0 (i := 19) (v := ?_) rfl (by kernel_rfl) (by kernel_rfl) (by kernel_rfl) (by kernel_rfl) (fun _ _ _ h => h) (Or.inl ⟨by rfl, ?_⟩) (fun e => (by cases e)) ?_
            rotate_left
            · ((intro w hSw; clear hSw; go_simp); (try with_reducible rfl))
            try simp only [Act.put, List.setIfInBounds_toArray, List.set_cons_zero, List.set_cons_succ]
            refine wpAnyE_ready (rs := [20]) (by kernel_rfl) (by simp) ?_
            refine AllE.last rfl (by kernel_rfl) (fun K hK => ?_) ?_
            · go_simp
              refine hK.out _ _ ?_
              clear hK K
              try simp only [Act.put, List.setIfInBounds_toArray, List.set_cons_zero, List.set_cons_succ]
              refine wpAnyE_done (by kernel_rfl) ?_ _
              go_wp2_with fail
              go_ret
              refine ⟨by unfold addR; rw [hyes.out, HN.out]; rfl, ?_⟩
              unfold addL addG
              rw [hyes.out]
              have hR6 : ∀ k, k ≠ E → ((w7.setCell ⟨E, 0, none⟩ (.slice (some ⟨g6, 0, none⟩) (n + 1) c6)).setCell ⟨E, 1, none⟩ (.slice (some ⟨g7, 0, none⟩) (n + 1) c7)).heap[k]? = w7.heap[k]? := fun k hk => (Below.heap_setCell _ ⟨E, 1, none⟩ _ k hk).trans (Below.heap_setCell _ ⟨E, 0, none⟩ _ k hk)
              have hlE : E < w1.heap.size := H1.out.root.lt
              refine EChg.pre (EA.added (x := ⟨nd, nm, f2, f3, f4, f5, f6, f7⟩) H1.out HN.out ((HKR.out.set_ 0 _).set_ 1 _) (own_keep HQ6.out fun k hk => hR6 k ?_) (own_keep HP7.out.own fun k hk => hR6 k ?_) HA6.out (HA7.out.imp id fun e => Nat.le_trans HS6.out e) HNE.out ?_) HBL.out
              · injection hk with hk
                have hk : g6 = k := hk
                rcases HA6.out with h | h
                · exact fun e => H1.out.nl (by rw [h, hk, e])
                · omega
              · injection hk with hk
                have hk : g7 = k := hk
                rcases HA7.out with h | h
                · exact fun e => H1.out.ng (by rw [h, hk, e])
                · have := HS6.out; omega
              · exact ((HK7.out.mono (fun _ _ e => .inr e)).set_ E 0 (fun _ => .inl rfl) _).set_ E 1 (fun _ => .inl rfl) _
            exact AllE.nil
          exact AllE.nil
        exact AllE.nil
      exact AllE.nil
    exact AllE.nil
  refine AllE.cons rfl (fun K hK => ?_) ?_
  · go_simp
    refine hK.out _ _ ?_ (fun hHeld => ?_)
    · (try dsimp only)
      (first | with_reducible exact HKS.out _ HK0.out.drew | with_reducible exact HKS.out _ (HK0.out.alloc _).drew | with_reducible exact HKS.out _ ((HK0.out.alloc _).alloc _).drew | with_reducible exact HKS.out _ HK7.out | with_reducible exact HKS.out _ HK6.out | with_reducible exact HKS.out _ (HK6.out.alloc _))
    clear hK K
    try simp only [Act.put, List.setIfInBounds_toArray, List.set_cons_zero, List.set_cons_succ]
    refine wpAnyE_ready (rs := [7]) (by kernel_rfl) (by simp) ?_
    refine AllE.cons rfl (fun K hK => ?_) ?_
    · go_simp
      refine hK.out _ _ ?_ (fun hHeld => ?_)
      · (try dsimp only)
        (first | with_reducible exact HKS.out _ HK0.out.drew | with_reducible exact HKS.out _ (HK0.out.alloc _).drew | with_reducible exact HKS.out _ ((HK0.out.alloc _).alloc _).drew | with_reducible exact HKS.out _ HK7.out | with_reducible exact HKS.out _ HK6.out | with_reducible exact HKS.out _ (HK6.out.alloc _))
      clear hK K
      try simp only [Act.put, List.setIfInBounds_toArray, List.set_cons_zero, List.set_cons_succ]
      refine wpAnyE_ready (rs := [8]) (by kernel_rfl) (by simp) ?_
      refine AllE.cons rfl (fun K hK => ?_) ?_
      · (refine step_push (by rfl) _ _ _ (by rfl) B 64 Tryd.underlying114 inf_Ear rfl (by decide) (.slice Al n cl) n (L.flatMap earc) _ [.int .i64 nd, .string nm, .bool f2, .bool f3, .bool f4, .bool f5, .bool f6, .bool f7] (by rfl) (by rfl) (by first | with_reducible exact own_drew (HOL1.out.alloc _) | with_reducible exact own_drew ((HOL1.out.alloc _).alloc _)) (by first | with_reducible exact Bk.drew (Bk.new _ _ _) | with_reducible exact Bk.drew ((Bk.new _ _ _).alloc _) | exact Bk.drew (bk_new' _ _ _ (by simp))) rfl (by simp [Value.oneCell']) (by omega) (by omega) (by simp; omega) ?_; intro g6 c6 w6 hpu; have HP6 := Lib.hid hpu; have HK6 : Hid (Kept w1 w6 (fun k => (Value.slice Al n cl).ownBlock = some k ∨ (Value.slice Ag n cg).ownBlock = some k)) := (by first | exact (HK0.out.alloc _).drew.then_ hpu.kept (fun _ _ e => .inl e) | exact ((HK0.out.alloc _).alloc _).drew.then_ hpu.kept (fun _ _ e => .inl e)); have HA6 : Hid ((Value.slice Al n cl).ownBlock = some g6 ∨ w1.heap.size ≤ g6) := hpu.at_.imp id (fun e => by rw [e]; simp; try omega); have HG6 : Hid (w6.ownsRow B 4 1 (.slice Ag n cg) n (G.map Value.bool)) := (by first | exact hpu.other (own_drew (HOG1.out.alloc _)) HSEP.out | exact hpu.other (own_drew ((HOG1.out.alloc _).alloc _)) HSEP.out); have HS6 : Hid (w1.heap.size ≤ w6.heap.size) := HK6.out.size; clear hpu)
        refine hK.out _ _ ?_ (fun hHeld => ?_)
        · (try dsimp only)
          (first | with_reducible exact HKS.out _ HK0.out.drew | with_reducible exact HKS.out _ (HK0.out.alloc _).drew | with_reducible exact HKS.out _ ((HK0.out.alloc _).alloc _).drew | with_reducible exact HKS.out _ HK7.out | with_reducible exact HKS.out _ HK6.out | with_reducible exact HKS.out _ (HK6.out.alloc _))
        clear hK K
        try simp only [Act.put, List.setIfInBounds_toArray, List.set_cons_zero, List.set_cons_succ]
        refine wpAnyE_ready (rs := [14]) (by kernel_rfl) (by simp) ?_
        refine AllE.cons rfl (fun K hK => ?_) ?_
        · (refine step_push (by rfl) _ _ _ (by rfl) B 4 Tryd.underlying56 inf_B rfl (by decide) (.slice Ag n cg) n (G.map Value.bool) _ [.bool false] (by rfl) (by rfl) (by first | with_reducible exact HG6.out | with_reducible exact HG6.out.alloc _) (by first | with_reducible exact Bk.new _ _ _ | exact Bk.grown (Bk.drew ((Bk.new _ _ _).alloc _)) HP6.out.grown (fun e => by have := HLB.out _ e.symm; omega) | exact Bk.grown (Bk.drew (bk_new' _ _ _ (by simp))) HP6.out.grown (fun e => by have := HLB.out _ e.symm; omega)) rfl (by simp [Value.oneCell']) (by omega) (by omega) (by have := HS6.out; first | omega | (simp; omega)) ?_; intro g7 c7 w7 hpu; have HP7 := Lib.hid hpu; have HK7 : Hid (Kept w1 w7 (fun k => (Value.slice Al n cl).ownBlock = some k ∨ (Value.slice Ag n cg).ownBlock = some k)) := (by first | exact (HK6.out.alloc _).then_ hpu.kept (fun _ _ e => .inr e) | exact HK6.out.then_ hpu.kept (fun _ _ e => .inr e)); have HA7 : Hid ((Value.slice Ag n cg).ownBlock = some g7 ∨ w6.heap.size ≤ g7) := hpu.at_.imp id (fun e => by rw [e]; first | exact Nat.le_refl _ | simp); have HSP : Hid (Sep (.slice Ag n cg) (.slice (some ⟨g6, 0, none⟩) (n + 1) c6)) := (fun k h1 h2 => by injection h2 with h2; have h2 : g6 = k := h2; rcases HA6.out with h3 | h3; exact HSEP.out k (by rw [h3, h2]) h1; have := HGB.out k h1; omega); have HQ6 : Hid (w7.ownsRow B 64 8 (.slice (some ⟨g6, 0, none⟩) (n + 1) c6) (n + 1) (L.flatMap earc ++ [.int .i64 nd, .string nm, .bool f2, .bool f3, .bool f4, .bool f5, .bool f6, .bool f7])) := (by first | exact hpu.other HP6.out.own HSP.out | exact hpu.other (HP6.out.own.alloc _) HSP.out); have HNE : Hid (g6 ≠ g7) := (fun e => by rcases HA7.out with h3 | h3; exact HSP.out g7 h3 (by rw [e]; rfl); have := HP6.out.lt; omega); have hkr : Bk w7 E 116 #[.slice Al n cl, .slice Ag n cg] := HK7.out.bk H1.out.root (fun e => e.elim H1.out.nl H1.out.ng); have r0 := hkr.cell 0; have r1 := hkr.cell 1; have q0 := hkr.free 0; have q1 := hkr.free 1; have q2 := hkr.lt; have HKR := Lib.hid hkr; clear hpu hkr)
          refine hK.out _ _ ?_ (fun hHeld => ?_)
          · (try dsimp only)
            (first | with_reducible exact HKS.out _ HK0.out.drew | with_reducible exact HKS.out _ (HK0.out.alloc _).drew | with_reducible exact HKS.out _ ((HK0.out.alloc _).alloc _).drew | with_reducible exact HKS.out _ HK7.out | with_reducible exact HKS.out _ HK6.out | with_reducible exact HKS.out _ (HK6.out.alloc _))
          clear hK K
          try simp only [Act.put, List.setIfInBounds_toArray, List.set_cons_zero, List.set_cons_succ]
          refine wpAnyE_take0 (i := 15) (v := ?_) rfl (by kernel_rfl) (by kernel_rfl) (by kernel_rfl) (by kernel_rfl) (fun _ _ _ h => h) (Or.inl ⟨by rfl, ?_⟩) (fun _ => by assumption) ?_
          rotate_left
          · ((intro w hSw; clear hSw; go_simp); (try with_reducible rfl))
          try simp only [Act.put, List.setIfInBounds_toArray, List.set_cons_zero, List.set_cons_succ]
          refine wpAnyE_take0 (i := 16) (v := ?_) rfl (by kernel_rfl) (by kernel_rfl) (by kernel_rfl) (by kernel_rfl) (fun _ _ _ h => h) (Or.inl ⟨by rfl, ?_⟩) (fun _ => by assumption) ?_
          rotate_left
          · ((intro w hSw; clear hSw; go_simp); (try with_reducible rfl))
          try simp only [Act.put, List.setIfInBounds_toArray, List.set_cons_zero, List.set_cons_succ]
          refine wpAnyE_ready (rs := [17]) (by kernel_rfl) (by simp) ?_
          refine AllE.last rfl (by kernel_rfl) (fun K hK => ?_) ?_
          · go_simp
            refine hK.out _ _ ?_
            clear hK K
            try simp only [Act.put, List.setIfInBounds_toArray, List.set_cons_zero, List.set_cons_succ]
            refine wpAnyE_take0 (i := 18) (v := ?_) rfl (by kernel_rfl) (by kernel_rfl) (by kernel_rfl) (by kernel_rfl) (fun _ _ _ h => h) (Or.inl ⟨by rfl, ?_⟩) (fun e => (by cases e)) ?_
            rotate_left
            · ((intro w hSw; clear hSw; go_simp); (try with_reducible rfl))
            try simp only [Act.put, List.setIfInBounds_toArray, List.set_cons_zero, List.set_cons_succ]
            refine wpAnyE_take0 (i := 19) (v := ?_) rfl (by kernel_rfl) (by kernel_rfl) (by kernel_rfl) (by kernel_rfl) (fun _ _ _ h => h) (Or.inl ⟨by rfl, ?_⟩) (fun e => (by cases e)) ?_
            rotate_left
            · ((intro w hSw; clear hSw; go_simp); (try with_reducible rfl))
            try simp only [Act.put, List.setIfInBounds_toArray, List.set_cons_zero, List.set_cons_succ]
            refine wpAnyE_ready (rs := [20]) (by kernel_rfl) (by simp) ?_
            refine AllE.last rfl (by kernel_rfl) (fun K hK => ?_) ?_
            · go_simp
              refine hK.out _ _ ?_
              clear hK K
              try simp only [Act.put, List.setIfInBounds_toArray, List.set_cons_zero, List.set_cons_succ]
              refine wpAnyE_done (by kernel_rfl) ?_ _
              go_wp2_with fail
              go_ret
              refine ⟨by unfold addR; rw [hyes.out, HN.out]; rfl, ?_⟩
              unfold addL addG
              rw [hyes.out]
              have hR6 : ∀ k, k ≠ E → ((w7.setCell ⟨E, 0, none⟩ (.slice (some ⟨g6, 0, none⟩) (n + 1) c6)).setCell ⟨E, 1, none⟩ (.slice (some ⟨g7, 0, none⟩) (n + 1) c7)).heap[k]? = w7.heap[k]? := fun k hk => (Below.heap_setCell _ ⟨E, 1, none⟩ _ k hk).trans (Below.heap_setCell _ ⟨E, 0, none⟩ _ k hk)
              have hlE : E < w1.heap.size := H1.out.root.lt
              refine EChg.pre (EA.added (x := ⟨nd, nm, f2, f3, f4, f5, f6, f7⟩) H1.out HN.out ((HKR.out.set_ 0 _).set_ 1 _) (own_keep HQ6.out fun k hk => hR6 k ?_) (own_keep HP7.out.own fun k hk => hR6 k ?_) HA6.out (HA7.out.imp id fun e => Nat.le_trans HS6.out e) HNE.out ?_) HBL.out
              · injection hk with hk
                have hk : g6 = k := hk
                rcases HA6.out with h | h
                · exact fun e => H1.out.nl (by rw [h, hk, e])
                · omega
              · injection hk with hk
                have hk : g7 = k := hk
                rcases HA7.out with h | h
                · exact fun e => H1.out.ng (by rw [h, hk, e])
                · have := HS6.out; omega
              · exact ((HK7.out.mono (fun _ _ e => .inr e)).set_ E 0 (fun _ => .inl rfl) _).set_ E 1 (fun _ => .inl rfl) _
            exact AllE.nil
          exact AllE.nil
        exact AllE.nil
      exact AllE.nil
    exact AllE.nil
  exact AllE.nil
end Go.Proofs.YtimlmekgapdkiaaDoor

