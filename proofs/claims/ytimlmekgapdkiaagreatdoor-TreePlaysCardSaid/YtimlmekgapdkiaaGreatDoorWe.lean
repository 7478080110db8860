/- the document's Set of an attribute that there is; the document's Set of a further attribute -/
import Derived.Test.YtimlmekgapdkiaaGreatDoorWb
namespace Go.Proofs.YtimlmekgapdkiaaGreatDoor
set_option linter.unusedVariables false
set_option linter.unusedSimpArgs false
open Go.RowKit Go.Cas

theorem RT.setV {w : World} {B R L cap nT i g n c : Nat} {tv : Value} {xs : List Value} {τ : Nat → Nat} {M : List NV} {y : NV} (h : RT B R L cap nT tv xs τ M w) (hy : M[i]? = some y) (hva : y.va = .slice (some ⟨g, 0, none⟩) n c) (l : List (ByteArray × ByteArray)) (j : Nat) (u : Value) (hl : l.length = y.x.at_.length) (hu : (atc y.x.at_).set j u = atc l) :
    RT B R L cap nT tv xs τ (M.set i { y with x := { y.x with at_ := l } }) (w.setCell ⟨g, j, none⟩ u) := by
  have hg : τ g = 5 + i := h.tA i y hy g (by rw [hva]; rfl)
  have hk : ∀ k, τ k ≠ 5 + i → (w.setCell ⟨g, j, none⟩ u).heap[k]? = w.heap[k]? := fun k hn => Below.heap_setCell w ⟨g, j, none⟩ u k (fun e => hn (by rw [show k = g from e]; exact hg))
  have hs : (w.setCell ⟨g, j, none⟩ u).heap.size = w.heap.size := by simp [World.setCell]
  have get : ∀ (q : Nat) z, (M.set i { y with x := { y.x with at_ := l } })[q]? = some z → (q = i ∧ z = { y with x := { y.x with at_ := l } }) ∨ (q ≠ i ∧ M[q]? = some z) := fun q z hz => by
    rw [List.getElem?_set] at hz
    by_cases e : i = q
    · rw [if_pos e] at hz
      split at hz
      · injection hz with hz; exact .inl ⟨e.symm, hz.symm⟩
      · cases hz
    · rw [if_neg e] at hz; exact .inr ⟨fun e2 => e e2.symm, hz⟩
  have hflat : (M.set i { y with x := { y.x with at_ := l } }).flatMap nvc = M.flatMap nvc := by
    have := flat_set nvc 6 (fun _ => rfl) M i 3 y { y with x := { y.x with at_ := l } } y.va hy (by omega) rfl
    rw [← this]
    have hq := flat_get nvc 6 (fun _ => rfl) M i 3 y hy (by omega)
    have h3 : (M.flatMap nvc)[i * 6 + 3]? = some y.va := hq.trans rfl
    obtain ⟨hlt, he⟩ := List.getElem?_eq_some_iff.1 h3
    rw [← he]; simp
  refine ⟨?_, ?_, own_keep h.ow (fun k e => hk k (by rw [h.tT k e]; omega)), fun q z hz => ?_, fun q z hz => ?_, h.tR, h.tL, h.tT, fun q z hz k e => ?_, fun k hf => by rw [hs]; exact h.tB k hf⟩
  · rw [List.length_set]
    exact (hk R (by rw [h.tR]; omega)).trans h.root
  · rw [List.length_set, hflat]
    exact h.row.at_ (hk L (by rw [h.tL]; omega))
  · rcases get q z hz with ⟨rfl, rfl⟩ | ⟨hq, hz⟩
    · have ho := h.at_ q y hy
      rw [hva] at ho ⊢
      have := own_setN ho j u
      rw [hu] at this
      rw [hl]
      exact this
    · refine own_keep (h.at_ q z hz) (fun k e => hk k ?_)
      rw [h.tA q z hz k e]; omega
  · rcases get q z hz with ⟨rfl, rfl⟩ | ⟨hq, hz⟩
    · exact (h.ki q y hy).keep (fun k e => hk k (by rw [show τ k = 4 from e]; omega)) (fun _ h => h)
    · exact (h.ki q z hz).keep (fun k e => hk k (by rw [show τ k = 4 from e]; omega)) (fun _ h => h)
  · rcases get q z hz with ⟨rfl, rfl⟩ | ⟨hq, hz⟩
    · exact h.tA q y hy k e
    · exact h.tA q z hz k e
end Go.Proofs.YtimlmekgapdkiaaGreatDoor
namespace Go.Proofs.YtimlmekgapdkiaaGreatDoor
set_option linter.unusedVariables false
set_option linter.unusedSimpArgs false
open Go.RowKit Go.Cas

def RStRet (B R : Nat) (T' T : List Nod) (n : Nat) (xs : List Value) (τ : Nat → Nat) (w : World) (e : Ending) (w' : World) : Prop := e = .returned (.int .i64 0) ∧ ROpX B R T' T n xs τ w w'
set_option maxRecDepth 100000 in
set_option maxHeartbeats 8000000 in
theorem c_rSetHit {w : World} {B R n i k : Nat} {τ : Nat → Nat} {xs : List Value} {T : List Nod} {p : ByteArray × ByteArray} (h : RSx B R T n xs τ w) (hT : T.length ≤ 400) (hF : FewT T) (hn : n ≤ 1000000) (hi : i < T.length) (nm v : ByteArray) (hs : nm.size ≤ maxLen) (hk2 : (ndA T i).k = 2) (hnm : isNm nm = true) (hv : v.size ≤ 20000) (hf : fnd (ndA T i).at_ nm = (k : Int)) (hp : (ndA T i).at_[k]? = some p) :
    Calls Tryz.prog 31 #[.pointer (some ⟨R, 0, none⟩), .int .i64 (i : Int), .string nm, .string v, .bool false] w (RStRet B R (T.set i { ndA T i with at_ := setA (ndA T i).at_ nm v }) T n xs τ w) := by
  have HH := Lib.hid (c_rHas h.rs i hi hT)
  obtain ⟨L, cap, tv, M, h1, hM⟩ := h
  have hlM : M.length = T.length := by rw [← hM]; simp
  obtain ⟨y, hy, hyx⟩ := nv_get hM (ndA_get hi)
  have HNM := Lib.hid (c_IsName nm w hs)
  rw [hnm] at HNM
  have hfy := hF.few hM y (List.mem_of_getElem? hy)
  have hat := c_rAt (s := nm) (RdS.of_own (h1.at_ i y hy)) (by omega) (Nat.le_refl _)
  rw [hyx, hf] at hat
  have HAT := Lib.hid hat
  have HKP := Lib.hid (c_rKeep h1 (by omega) (hF.few hM) hn)
  obtain ⟨g0, _⟩ := h1.heads
  have hr := h1.ltR
  have hrL := h1.ltL
  obtain ⟨⟨a0, _, _⟩, a3, _⟩ := h1.cell hy
  rw [hyx, hk2] at a0
  have hii : (i : Int) < (M.length : Int) := by omega
  have hl4 : M.length ≤ 400 := by omega
  have hsz : ¬ (20000 : Int) < (v.size : Int) := by omega
  obtain ⟨m, hm⟩ : ∃ m, m = y.x.at_.length := ⟨_, rfl⟩
  have hkm : k < m := by rw [hm, hyx]; exact (List.getElem?_eq_some_iff.1 hp).1
  have hkmi : (k : Int) < (m : Int) := by omega
  have hm6 : m ≤ 1000000 := by rw [hm]; exact hfy.1
  have ho := h1.at_ i y hy
  obtain ⟨g, c, hva, hgB, hgl⟩ := ho.form (by omega)
  rw [hva, ← hm] at a3 HAT
  have HVA := Lib.hid hva
  have HMM := Lib.hid hM
  have HM0 := Lib.hid hm
  have HY := Lib.hid hy
  have HYX := Lib.hid hyx
  have HP := Lib.hid hp
  have HFD := Lib.hid hf
  have hk0 : ¬ (k : Int) < 0 := by omega
  clear h1 hM hlM hy hyx hfy hF hT hi hat ho hva hm hp hf hnm hv
  go_enter Tryz.func31, Tryz.ntmps31
  go_upto_region 21 with (first
    | (go_at_call 43; refine (HH.out).mono ?_; rintro e w' ⟨rfl, rfl⟩)
    | (go_at_call 44; refine (HAT.out).mono ?_; rintro e w' ⟨rfl, rfl⟩)
    | (go_at_call 50; refine (HNM.out).mono ?_; rintro e w' ⟨rfl, rfl⟩)
    | (go_at_call 51; refine (HKP.out).mono ?_; rintro e w2 ⟨⟨u, rfl⟩, tv2, v2, τ2, hi2, hkd⟩; have HKD := Lib.hid hkd; have H2 := Lib.hid hkd.rt; have HT2 : Hid (∀ k, k < w2.heap.size → τ2 k ≠ 0 → τ2 k ≠ 0) := (fun _ _ e => e); have HK2 : Hid (Kept w2 w2 (fun k => τ2 k ≠ 0)) := Kept.refl _ _; clear hkd))
  obtain ⟨p0, _⟩ := H2.out.heads
  have pr := H2.out.ltR
  have prL := H2.out.ltL
  obtain ⟨_, p3, _⟩ := H2.out.cell HY.out
  rw [HVA.out, ← HM0.out] at p3
  have ho2 := H2.out.at_ i y HY.out
  rw [HVA.out, ← HM0.out] at ho2
  have f1 := own_free ho2 (k * 2 + 1)
  have hc1 := ho2.cells (g := g) rfl (k * 2 + 1) (.string p.2) (by rw [HYX.out]; unfold atc; rw [flat_get (fun p : ByteArray × ByteArray => ([.string p.1, .string p.2] : List Value)) 2 (fun _ => rfl) _ k 1 p HP.out (by omega)]; rfl)
  rw [add_none, Nat.zero_add] at hc1
  have hgl2 : g < w2.heap.size := (own_lt ho2 rfl).2
  have HHIT := Lib.hid (setA_hit (v := v) HFD.out HP.out)
  have HSET := Lib.hid (atc_set HP.out v)
  clear g0 hr hrL a0 a3 ho2
  go_wp2_with fail
  go_ret
  refine ⟨rfl, HKD.out.then_ HMM.out ⟨_, _, _, _, H2.out.setV HY.out HVA.out (setA (ndA T i).at_ nm v) (k * 2 + 1) (.string v) (by rw [HYX.out, HHIT.out, List.length_set]) (by rw [HYX.out, HHIT.out]; exact HSET.out), ?_⟩ HT2.out ?_⟩
  · rw [List.map_set, HMM.out, HYX.out]
  · exact HK2.out.set_ g _ (fun hg => HT2.out g hg (by rw [H2.out.tA i y HY.out g (by rw [HVA.out]; rfl)]; omega)) _
end Go.Proofs.YtimlmekgapdkiaaGreatDoor
namespace Go.Proofs.YtimlmekgapdkiaaGreatDoor
set_option linter.unusedVariables false
set_option linter.unusedSimpArgs false
open Go.RowKit Go.Cas

set_option maxRecDepth 100000 in
set_option maxHeartbeats 8000000 in
theorem c_rSetMiss {w : World} {B R n i : Nat} {τ : Nat → Nat} {xs : List Value} {T : List Nod} (h : RSx B R T n xs τ w) (hT : T.length ≤ 400) (hF : FewT T) (hn : n ≤ 1000000) (hi : i < T.length) (nm v : ByteArray) (hs : nm.size ≤ maxLen) (hk2 : (ndA T i).k = 2) (hnm : isNm nm = true) (hv : v.size ≤ 20000) (hf : fnd (ndA T i).at_ nm = -1) :
    Calls Tryz.prog 31 #[.pointer (some ⟨R, 0, none⟩), .int .i64 (i : Int), .string nm, .string v, .bool false] w (RStRet B R (T.set i { ndA T i with at_ := setA (ndA T i).at_ nm v }) T n xs τ w) := by
  have HH := Lib.hid (c_rHas h.rs i hi hT)
  obtain ⟨L, cap, tv, M, h1, hM⟩ := h
  have hlM : M.length = T.length := by rw [← hM]; simp
  obtain ⟨y, hy, hyx⟩ := nv_get hM (ndA_get hi)
  have HNM := Lib.hid (c_IsName nm w hs)
  rw [hnm] at HNM
  have hfy := hF.few hM y (List.mem_of_getElem? hy)
  have hat := c_rAt (s := nm) (RdS.of_own (h1.at_ i y hy)) (by omega) (Nat.le_refl _)
  rw [hyx, hf] at hat
  have HAT := Lib.hid hat
  have HKP := Lib.hid (c_rKeep h1 (by omega) (hF.few hM) hn)
  obtain ⟨g0, _⟩ := h1.heads
  have hr := h1.ltR
  have hrL := h1.ltL
  obtain ⟨⟨a0, _, _⟩, a3, _⟩ := h1.cell hy
  rw [hyx, hk2] at a0
  have hii : (i : Int) < (M.length : Int) := by omega
  have hl4 : M.length ≤ 400 := by omega
  have hsz : ¬ (20000 : Int) < (v.size : Int) := by omega
  obtain ⟨m, hm⟩ : ∃ m, m = y.x.at_.length := ⟨_, rfl⟩
  have hm6 : m ≤ 1000000 := by rw [hm]; exact hfy.1
  have ho := h1.at_ i y hy
  obtain ⟨_, A, c, hva, _, _⟩ := RdS.of_own ho
  rw [hva, ← hm] at a3 HAT
  have HVA := Lib.hid hva
  have HMM := Lib.hid hM
  have HM0 := Lib.hid hm
  have HY := Lib.hid hy
  have HYX := Lib.hid hyx
  have HFD := Lib.hid hf
  clear h1 hM hlM hy hyx hfy hF hT hi hat ho hva hm hf hnm hv
  go_enter Tryz.func31, Tryz.ntmps31
  go_upto_region 21 with (first
    | (go_at_call 43; refine (HH.out).mono ?_; rintro e w' ⟨rfl, rfl⟩)
    | (go_at_call 44; refine (HAT.out).mono ?_; rintro e w' ⟨rfl, rfl⟩)
    | (go_at_call 50; refine (HNM.out).mono ?_; rintro e w' ⟨rfl, rfl⟩)
    | (go_at_call 51; refine (HKP.out).mono ?_; rintro e w2 ⟨⟨u, rfl⟩, tv2, v2, τ2, hi2, hkd⟩; have HKD := Lib.hid hkd; have H2 := Lib.hid hkd.rt; have HT2 : Hid (∀ k, k < w2.heap.size → τ2 k ≠ 0 → τ2 k ≠ 0) := (fun _ _ e => e); have HK2 : Hid (Kept w2 w2 (fun k => τ2 k ≠ 0)) := Kept.refl _ _; clear hkd))
  have ho2 := H2.out.at_ i y HY.out
  rw [HVA.out, ← HM0.out] at ho2
  have HO2 := Lib.hid ho2
  have HR2 := Lib.hid H2.out.ltR
  have HL2 := Lib.hid H2.out.ltL
  have HHIT := Lib.hid (setA_miss (v := v) HFD.out)
  have HS : Hid (∀ W', Below w2.heap.size w2 W' → (W'.cell? ⟨R, 0, none⟩ = some (.slice (some ⟨L, 0, none⟩) M.length cap) ∧ W'.cell? ⟨L, i * 6 + 3, none⟩ = some (.slice A m c))) := fun W' hb => ⟨(H2.out.below hb).heads.1, by rw [((H2.out.below hb).cell HY.out).2.1, HVA.out, ← HM0.out]⟩
  have HV : Hid (∀ W', Below w2.heap.size w2 W' → cellV W' L (i * 6 + 3) = .slice A m c) := fun W' hb => cellV_eq (HS.out W' hb).2
  have HK : Hid (∀ W', Below w2.heap.size w2 W' → (W'.cell? ⟨R, 0, none⟩ = some (.slice (some ⟨L, 0, none⟩) M.length cap) ∧ W'.cell? ⟨L, i * 6 + 3, none⟩ = some (cellV W' L (i * 6 + 3)))) := fun W' hb => ⟨(HS.out W' hb).1, cellV_some (HS.out W' hb).2⟩
  have hAne : Hid ((Value.slice A m c).ownBlock ≠ some R ∧ (Value.slice A m c).ownBlock ≠ some L) := ⟨fun e => by have h1 := H2.out.tA i y HY.out R (by rw [HVA.out, ← HM0.out]; exact e); have h2 := H2.out.tR; omega, fun e => by have h1 := H2.out.tA i y HY.out L (by rw [HVA.out, ← HM0.out]; exact e); have h2 := H2.out.tL; omega⟩
  obtain ⟨i0, hi0, hz0, hz1, hz2⟩ := info_parts inf_A
  clear g0 hr hrL a0 a3 ho2
  go_upto_region 22 with fail
  refine wp_region_noPanic ?_
  refine wp_region_held_drew (S := (fun w' => w'.cell? ⟨R, 0, none⟩ = some (.slice (some ⟨L, 0, none⟩) M.length cap) ∧ w'.cell? ⟨L, i * 6 + 3, none⟩ = some (cellV w' L (i * 6 + 3)))) (by kernel_rfl) ?_ (fun hHeld => ?_)
  · (try dsimp only)
    (first | with_reducible exact HK.out _ (Below.refl _ _) | with_reducible exact HK.out _ (bl_drew (Below.refl _ _)) | with_reducible exact HK.out _ (bl_drew (bl_alloc (Below.refl _ _) _)) | with_reducible exact HS6.out | with_reducible exact HS7.out _)
  refine wpAnyH_take (i := 0) (v := ?_) rfl (by kernel_rfl) (by kernel_rfl) (by kernel_rfl) (fun _ _ _ h => h) (Or.inl ⟨by rfl, ?_⟩) (by assumption) ?_
  rotate_left
  · ((intro w hSw; (try dsimp only at hSw); go_simp); (try with_reducible rfl))
  try simp only [Act.put, List.setIfInBounds_toArray, List.set_cons_zero, List.set_cons_succ]
  refine wpAnyH_take (i := 1) (v := ?_) rfl (by kernel_rfl) (by kernel_rfl) (by kernel_rfl) (fun _ _ _ h => h) (Or.inl ⟨by rfl, ?_⟩) (by assumption) ?_
  rotate_left
  · ((intro w hSw; (try dsimp only at hSw); go_simp); (try with_reducible rfl))
  try simp only [Act.put, List.setIfInBounds_toArray, List.set_cons_zero, List.set_cons_succ]
  refine wpAnyH_take (i := 2) (v := ?_) rfl (by kernel_rfl) (by kernel_rfl) (by kernel_rfl) (fun _ _ _ h => h) (Or.inl ⟨by rfl, ?_⟩) (by assumption) ?_
  rotate_left
  · ((intro w hSw; (try dsimp only at hSw); go_simp); (try with_reducible rfl))
  try simp only [Act.put, List.setIfInBounds_toArray, List.set_cons_zero, List.set_cons_succ]
  refine wpAnyH_take (i := 3) (v := ?_) rfl (by kernel_rfl) (by kernel_rfl) (by kernel_rfl) (fun _ _ _ h => h) (Or.inl ⟨by rfl, ?_⟩) (by assumption) ?_
  rotate_left
  · ((intro w hSw; (try dsimp only at hSw); go_simp); (try with_reducible rfl))
  try simp only [Act.put, List.setIfInBounds_toArray, List.set_cons_zero, List.set_cons_succ]
  refine wpAnyH_take (i := 4) (v := ?_) rfl (by kernel_rfl) (by kernel_rfl) (by kernel_rfl) (fun _ _ _ h => h) (Or.inl ⟨by rfl, ?_⟩) (by assumption) ?_
  rotate_left
  · ((intro w hSw; (try dsimp only at hSw); go_simp); (try with_reducible rfl))
  try simp only [Act.put, List.setIfInBounds_toArray, List.set_cons_zero, List.set_cons_succ]
  refine wpAnyH_take (i := 5) (v := ?_) rfl (by kernel_rfl) (by kernel_rfl) (by kernel_rfl) (fun _ _ _ h => h) (Or.inl ⟨by rfl, ?_⟩) (by assumption) ?_
  rotate_left
  · ((intro w hSw; (try dsimp only at hSw); go_simp); (try with_reducible rfl))
  try simp only [Act.put, List.setIfInBounds_toArray, List.set_cons_zero, List.set_cons_succ]
  refine wpAnyH_take (i := 6) (v := ?_) rfl (by kernel_rfl) (by kernel_rfl) (by kernel_rfl) (fun _ _ _ h => h) (Or.inl ⟨by rfl, ?_⟩) (by assumption) ?_
  rotate_left
  · ((intro w hSw; (try dsimp only at hSw); go_simp); (try with_reducible rfl))
  try simp only [Act.put, List.setIfInBounds_toArray, List.set_cons_zero, List.set_cons_succ]
  refine wpAnyH_take (i := 7) (v := ?_) rfl (by kernel_rfl) (by kernel_rfl) (by kernel_rfl) (fun _ _ _ h => h) (Or.inl ⟨by rfl, ?_⟩) (by assumption) ?_
  rotate_left
  · ((intro w hSw; (try dsimp only at hSw); go_simp); (try with_reducible rfl))
  try simp only [Act.put, List.setIfInBounds_toArray, List.set_cons_zero, List.set_cons_succ]
  refine wpAnyH_take (i := 8) (v := ?_) rfl (by kernel_rfl) (by kernel_rfl) (by kernel_rfl) (fun _ _ _ h => h) (Or.inl ⟨by rfl, ?_⟩) (by assumption) ?_
  rotate_left
  · ((intro w hSw; (try dsimp only at hSw); go_simp); (try with_reducible rfl))
  try simp only [Act.put, List.setIfInBounds_toArray, List.set_cons_zero, List.set_cons_succ]
  refine wpAnyH_take (i := 9) (v := ?_) rfl (by kernel_rfl) (by kernel_rfl) (by kernel_rfl) (fun _ _ _ h => h) (Or.inl ⟨by rfl, ?_⟩) (by assumption) ?_
  rotate_left
  · ((intro w hSw; (try dsimp only at hSw); go_simp); (try with_reducible rfl))
  try simp only [Act.put, List.setIfInBounds_toArray, List.set_cons_zero, List.set_cons_succ]
  refine wpAnyH_take (i := 10) (v := ?_) rfl (by kernel_rfl) (by kernel_rfl) (by kernel_rfl) (fun _ _ _ h => h) (Or.inl ⟨by rfl, ?_⟩) (by assumption) ?_
  rotate_left
  · ((intro w hSw; (try dsimp only at hSw); go_simp); (try with_reducible rfl))
  try simp only [Act.put, List.setIfInBounds_toArray, List.set_cons_zero, List.set_cons_succ]
  refine wpAnyH_take (i := 11) (v := ?_) rfl (by kernel_rfl) (by kernel_rfl) (by kernel_rfl) (fun _ _ _ h => h) (Or.inl ⟨by rfl, ?_⟩) (by assumption) ?_
  rotate_left
  · ((intro w hSw; (try dsimp only at hSw); go_simp); (try with_reducible rfl))
  try simp only [Act.put, List.setIfInBounds_toArray, List.set_cons_zero, List.set_cons_succ]
  refine wpAnyH_take (i := 13) (v := ?_) rfl (by kernel_rfl) (by kernel_rfl) (by kernel_rfl) (fun _ _ _ h => h) (Or.inl ⟨by rfl, ?_⟩) (by assumption) ?_
  rotate_left
  · ((intro w hSw; (try dsimp only at hSw); go_simp); (try with_reducible rfl))
  try simp only [Act.put, List.setIfInBounds_toArray, List.set_cons_zero, List.set_cons_succ]
  refine wpAnyH_take (i := 14) (v := ?_) rfl (by kernel_rfl) (by kernel_rfl) (by kernel_rfl) (fun _ _ _ h => h) (Or.inl ⟨by rfl, ?_⟩) (by assumption) ?_
  rotate_left
  · ((intro w hSw; (try dsimp only at hSw); go_simp); (try with_reducible rfl))
  try simp only [Act.put, List.setIfInBounds_toArray, List.set_cons_zero, List.set_cons_succ]
  refine wpAnyH_take (i := 15) (v := ?_) rfl (by kernel_rfl) (by kernel_rfl) (by kernel_rfl) (fun _ _ _ h => h) (Or.inl ⟨by rfl, ?_⟩) (by assumption) ?_
  rotate_left
  · ((intro w hSw; (try dsimp only at hSw); go_simp); (try with_reducible rfl))
  try simp only [Act.put, List.setIfInBounds_toArray, List.set_cons_zero, List.set_cons_succ]
  refine wpAnyH_ready (rs := [12, 16]) (by kernel_rfl) (by simp) ?_
  refine AllReadyH.cons rfl (fun K hK => ?_) ?_
  · go_simp
    refine hK.out _ _ ?_ (fun hHeld => ?_)
    · (try dsimp only)
      (first | with_reducible exact HK.out _ (Below.refl _ _) | with_reducible exact HK.out _ (bl_drew (Below.refl _ _)) | with_reducible exact HK.out _ (bl_drew (bl_alloc (Below.refl _ _) _)) | with_reducible exact HS6.out | with_reducible exact HS7.out _)
    clear hK K
    try simp only [Act.put, List.setIfInBounds_toArray, List.set_cons_zero, List.set_cons_succ]
    refine wpAnyH_ready (rs := [16]) (by kernel_rfl) (by simp) ?_
    refine AllReadyH.cons rfl (fun K hK => ?_) ?_
    · go_simp
      refine hK.out _ _ ?_ (fun hHeld => ?_)
      · (try dsimp only)
        (first | with_reducible exact HK.out _ (Below.refl _ _) | with_reducible exact HK.out _ (bl_drew (Below.refl _ _)) | with_reducible exact HK.out _ (bl_drew (bl_alloc (Below.refl _ _) _)) | with_reducible exact HS6.out | with_reducible exact HS7.out _)
      clear hK K
      try simp only [Act.put, List.setIfInBounds_toArray, List.set_cons_zero, List.set_cons_succ]
      refine wpAnyH_ready (rs := [17]) (by kernel_rfl) (by simp) ?_
      refine AllReadyH.cons rfl (fun K hK => ?_) ?_
      · (refine step_append_lies _ (by rfl) _ _ _ (by rfl) B 79 i0 _ 2 32 Tryz.underlying37 hi0 hz0 hz1 hz2 rfl (by omega) (.slice A m c) m (atc (ndA T i).at_) (by first | exact HV.out _ (bl_drew (Below.refl _ _)) | exact HV.out _ (bl_drew (bl_alloc (Below.refl _ _) _)) | rfl) (by have := ((HO2.out.alloc (.cells #[.string nm, .string v] 79)).drew); rw [HYX.out] at this; exact this) ⟨w2.heap.size, 0, none⟩ 1 1 [.string nm, .string v] (by rfl) (by rfl) (World.news_of_block (cs := #[.string nm, .string v]) (t := 79) (fr := (0, 0)) (Bk.drew (bk_new' w2 79 #[.string nm, .string v] rfl))) (by simp [Value.oneCell']) (by omega) (by unfold maxLen; omega) (by omega) (by have := H2.out.hB; simp; omega) (w2.heap.size + 1) (by simp) ?_; intro gg cap6 w6 hown6 hgrow6 hat6 hlt6; have HO6 := Lib.hid hown6; have HG6 := Lib.hid hgrow6; have HAT6 : Hid ((Value.slice A m c).ownBlock = some gg ∨ gg = w2.heap.size + 1) := hat6; have HBA : Hid (Below w2.heap.size w2 (w2.alloc (.cells #[.string nm, .string v] 79)).drew) := bl_drew (bl_alloc (Below.refl _ _) _); have hbR : Bk w6 R 28 #[.slice (some ⟨L, 0, none⟩) M.length cap, tv2] := (H2.out.root.below HBA.out HR2.out).grown hgrow6 (fun e => hAne.out.1 e.symm); have hL6 : w6.heap[L]? = w2.heap[L]? := (hgrow6.block L (Nat.lt_of_lt_of_le HL2.out HBA.out.size) (fun e => hAne.out.2 e.symm)).trans (HBA.out.block L HL2.out); have HL6 := Lib.hid hL6; have q1 := hbR.cell 0; have q3 := hbR.lt; have q4 : w6.cell? ⟨L, i * 6 + 3, none⟩ = some (.slice A m c) := (World.cell?_of_block (a := ⟨L, i * 6 + 3, none⟩) hL6).trans (HS.out w2 (Below.refl _ _)).2; have q5 : w6.frozen? ⟨L, i * 6 + 3, none⟩ = false := (by have := H2.out.free (i * 6 + 3); simpa [World.frozen?, hL6] using this); have q6 : L < w6.heap.size := Nat.lt_of_lt_of_le HL2.out (Nat.le_trans HBA.out.size hgrow6.size); have HS6 : Hid (w6.cell? ⟨R, 0, none⟩ = some (.slice (some ⟨L, 0, none⟩) M.length cap) ∧ w6.cell? ⟨L, i * 6 + 3, none⟩ = some (cellV w6 L (i * 6 + 3))) := ⟨hbR.cell 0, cellV_some q4⟩; have HS7 : Hid (∀ u, (w6.setCell ⟨L, i * 6 + 3, none⟩ u).cell? ⟨R, 0, none⟩ = some (.slice (some ⟨L, 0, none⟩) M.length cap) ∧ (w6.setCell ⟨L, i * 6 + 3, none⟩ u).cell? ⟨L, i * 6 + 3, none⟩ = some (cellV (w6.setCell ⟨L, i * 6 + 3, none⟩ u) L (i * 6 + 3))) := (fun u => ⟨(World.cell?_setCell_other w6 ⟨L, i * 6 + 3, none⟩ ⟨R, 0, none⟩ u (fun e => by injection e with e; exact H2.out.ne (by omega))).trans (hbR.cell 0), cellV_some (v := u) (World.cell?_setCell_same _ _ _ q4)⟩); clear hown6 hgrow6 hat6 hlt6 hbR hL6)
        refine hK.out _ _ ?_ (fun hHeld => ?_)
        · (try dsimp only)
          (first | with_reducible exact HK.out _ (Below.refl _ _) | with_reducible exact HK.out _ (bl_drew (Below.refl _ _)) | with_reducible exact HK.out _ (bl_drew (bl_alloc (Below.refl _ _) _)) | with_reducible exact HS6.out | with_reducible exact HS7.out _)
        clear hK K
        try simp only [Act.put, List.setIfInBounds_toArray, List.set_cons_zero, List.set_cons_succ]
        refine wpAnyH_take (i := 18) (v := ?_) rfl (by kernel_rfl) (by kernel_rfl) (by kernel_rfl) (fun _ _ _ h => h) (Or.inl ⟨by rfl, ?_⟩) (by assumption) ?_
        rotate_left
        · ((intro w hSw; (try dsimp only at hSw); go_simp); (try with_reducible rfl))
        try simp only [Act.put, List.setIfInBounds_toArray, List.set_cons_zero, List.set_cons_succ]
        refine wpAnyH_take (i := 19) (v := ?_) rfl (by kernel_rfl) (by kernel_rfl) (by kernel_rfl) (fun _ _ _ h => h) (Or.inl ⟨by rfl, ?_⟩) (by assumption) ?_
        rotate_left
        · ((intro w hSw; (try dsimp only at hSw); go_simp); (try with_reducible rfl))
        try simp only [Act.put, List.setIfInBounds_toArray, List.set_cons_zero, List.set_cons_succ]
        refine wpAnyH_ready (rs := [20]) (by kernel_rfl) (by simp) ?_
        refine AllReadyH.cons rfl (fun K hK => ?_) ?_
        · go_simp
          refine hK.out _ _ ?_ (fun hHeld => ?_)
          · (try dsimp only)
            (first | with_reducible exact HK.out _ (Below.refl _ _) | with_reducible exact HK.out _ (bl_drew (Below.refl _ _)) | with_reducible exact HK.out _ (bl_drew (bl_alloc (Below.refl _ _) _)) | with_reducible exact HS6.out | with_reducible exact HS7.out _)
          clear hK K
          try simp only [Act.put, List.setIfInBounds_toArray, List.set_cons_zero, List.set_cons_succ]
          refine wpAnyH_done (by kernel_rfl) ?_ _
          refine NoPanic.normal ?_
          go_wp2_with fail
          go_ret
          have hs6 : w2.heap.size ≤ w6.heap.size := Nat.le_trans HBA.out.size HG6.out.size
          have hat : ∀ k, (Value.slice (some ⟨gg, 0, none⟩) (m + 1) cap6).ownBlock = some k → y.va.ownBlock = some k ∨ w2.heap.size ≤ k := fun k hk => by
            injection hk with hk
            subst hk
            rcases HAT6.out with e | e
            · left; rw [HVA.out, ← HM0.out]; exact e
            · right; show w2.heap.size ≤ gg; omega
          have hkk : ∀ k, k < w2.heap.size → y.va.ownBlock ≠ some k → w6.heap[k]? = w2.heap[k]? := fun k hk hn => (HG6.out.block k (Nat.lt_of_lt_of_le hk HBA.out.size) (fun e => hn (by rw [HVA.out, ← HM0.out]; exact e.symm))).trans (HBA.out.block k hk)
          have ho6 : w6.ownsRow B 79 2 (.slice (some ⟨gg, 0, none⟩) (m + 1) cap6) (setA (ndA T i).at_ nm v).length (atc (setA (ndA T i).at_ nm v)) := by
            rw [HHIT.out, atc_snoc, List.length_append]
            have := HO6.out
            rw [HM0.out, HYX.out] at this ⊢
            exact this
          refine ⟨rfl, HKD.out.then_ HMM.out ⟨_, _, _, _, H2.out.setA (y' := ⟨{ ndA T i with at_ := setA (ndA T i).at_ nm v }, .slice (some ⟨gg, 0, none⟩) (m + 1) cap6, y.vk⟩) HY.out ⟨by rw [HYX.out], rfl⟩ hkk hs6 ho6 hat, ?_⟩ (fun k hk hf => ?_) ?_⟩
          · rw [List.map_set, HMM.out]
          · have hsz : w2.heap.size ≤ w2.heap.size := Nat.le_refl _
            by_cases e : (Value.slice (some ⟨gg, 0, none⟩) (m + 1) cap6).ownBlock = some k
            · rcases hat k e with e2 | e2
              · exact HT2.out k hk (by rw [H2.out.tA i y HY.out k e2]; omega)
              · omega
            · have hf : (if (Value.slice (some ⟨gg, 0, none⟩) (m + 1) cap6).ownBlock = some k then 5 + i else τ2 k) ≠ 0 := hf
              rw [if_neg e] at hf; exact HT2.out k hk hf
          · have k1 : Kept w2 w6 (fun k => τ2 k ≠ 0) := (HK2.out.then_ (Kept.of_below HBA.out (fun _ => False)) (fun _ _ e => e.elim)).then_ (Kept.grown HG6.out (fun k => (Value.slice A m c).ownBlock = some k) (fun k e => e)) (fun k hk e => HT2.out k hk (by rw [H2.out.tA i y HY.out k (by rw [HVA.out, ← HM0.out]; exact e)]; omega))
            exact k1.set_ L _ (fun hk => HT2.out L hk (by rw [H2.out.tL]; omega)) _
        exact AllReadyH.nil
      exact AllReadyH.nil
    exact AllReadyH.nil
  refine AllReadyH.cons rfl (fun K hK => ?_) ?_
  · go_simp
    refine hK.out _ _ ?_ (fun hHeld => ?_)
    · (try dsimp only)
      (first | with_reducible exact HK.out _ (Below.refl _ _) | with_reducible exact HK.out _ (bl_drew (Below.refl _ _)) | with_reducible exact HK.out _ (bl_drew (bl_alloc (Below.refl _ _) _)) | with_reducible exact HS6.out | with_reducible exact HS7.out _)
    clear hK K
    try simp only [Act.put, List.setIfInBounds_toArray, List.set_cons_zero, List.set_cons_succ]
    refine wpAnyH_ready (rs := [12]) (by kernel_rfl) (by simp) ?_
    refine AllReadyH.cons rfl (fun K hK => ?_) ?_
    · go_simp
      refine hK.out _ _ ?_ (fun hHeld => ?_)
      · (try dsimp only)
        (first | with_reducible exact HK.out _ (Below.refl _ _) | with_reducible exact HK.out _ (bl_drew (Below.refl _ _)) | with_reducible exact HK.out _ (bl_drew (bl_alloc (Below.refl _ _) _)) | with_reducible exact HS6.out | with_reducible exact HS7.out _)
      clear hK K
      try simp only [Act.put, List.setIfInBounds_toArray, List.set_cons_zero, List.set_cons_succ]
      refine wpAnyH_ready (rs := [17]) (by kernel_rfl) (by simp) ?_
      refine AllReadyH.cons rfl (fun K hK => ?_) ?_
      · (refine step_append_lies _ (by rfl) _ _ _ (by rfl) B 79 i0 _ 2 32 Tryz.underlying37 hi0 hz0 hz1 hz2 rfl (by omega) (.slice A m c) m (atc (ndA T i).at_) (by first | exact HV.out _ (bl_drew (Below.refl _ _)) | exact HV.out _ (bl_drew (bl_alloc (Below.refl _ _) _)) | rfl) (by have := ((HO2.out.alloc (.cells #[.string nm, .string v] 79)).drew); rw [HYX.out] at this; exact this) ⟨w2.heap.size, 0, none⟩ 1 1 [.string nm, .string v] (by rfl) (by rfl) (World.news_of_block (cs := #[.string nm, .string v]) (t := 79) (fr := (0, 0)) (Bk.drew (bk_new' w2 79 #[.string nm, .string v] rfl))) (by simp [Value.oneCell']) (by omega) (by unfold maxLen; omega) (by omega) (by have := H2.out.hB; simp; omega) (w2.heap.size + 1) (by simp) ?_; intro gg cap6 w6 hown6 hgrow6 hat6 hlt6; have HO6 := Lib.hid hown6; have HG6 := Lib.hid hgrow6; have HAT6 : Hid ((Value.slice A m c).ownBlock = some gg ∨ gg = w2.heap.size + 1) := hat6; have HBA : Hid (Below w2.heap.size w2 (w2.alloc (.cells #[.string nm, .string v] 79)).drew) := bl_drew (bl_alloc (Below.refl _ _) _); have hbR : Bk w6 R 28 #[.slice (some ⟨L, 0, none⟩) M.length cap, tv2] := (H2.out.root.below HBA.out HR2.out).grown hgrow6 (fun e => hAne.out.1 e.symm); have hL6 : w6.heap[L]? = w2.heap[L]? := (hgrow6.block L (Nat.lt_of_lt_of_le HL2.out HBA.out.size) (fun e => hAne.out.2 e.symm)).trans (HBA.out.block L HL2.out); have HL6 := Lib.hid hL6; have q1 := hbR.cell 0; have q3 := hbR.lt; have q4 : w6.cell? ⟨L, i * 6 + 3, none⟩ = some (.slice A m c) := (World.cell?_of_block (a := ⟨L, i * 6 + 3, none⟩) hL6).trans (HS.out w2 (Below.refl _ _)).2; have q5 : w6.frozen? ⟨L, i * 6 + 3, none⟩ = false := (by have := H2.out.free (i * 6 + 3); simpa [World.frozen?, hL6] using this); have q6 : L < w6.heap.size := Nat.lt_of_lt_of_le HL2.out (Nat.le_trans HBA.out.size hgrow6.size); have HS6 : Hid (w6.cell? ⟨R, 0, none⟩ = some (.slice (some ⟨L, 0, none⟩) M.length cap) ∧ w6.cell? ⟨L, i * 6 + 3, none⟩ = some (cellV w6 L (i * 6 + 3))) := ⟨hbR.cell 0, cellV_some q4⟩; have HS7 : Hid (∀ u, (w6.setCell ⟨L, i * 6 + 3, none⟩ u).cell? ⟨R, 0, none⟩ = some (.slice (some ⟨L, 0, none⟩) M.length cap) ∧ (w6.setCell ⟨L, i * 6 + 3, none⟩ u).cell? ⟨L, i * 6 + 3, none⟩ = some (cellV (w6.setCell ⟨L, i * 6 + 3, none⟩ u) L (i * 6 + 3))) := (fun u => ⟨(World.cell?_setCell_other w6 ⟨L, i * 6 + 3, none⟩ ⟨R, 0, none⟩ u (fun e => by injection e with e; exact H2.out.ne (by omega))).trans (hbR.cell 0), cellV_some (v := u) (World.cell?_setCell_same _ _ _ q4)⟩); clear hown6 hgrow6 hat6 hlt6 hbR hL6)
        refine hK.out _ _ ?_ (fun hHeld => ?_)
        · (try dsimp only)
          (first | with_reducible exact HK.out _ (Below.refl _ _) | with_reducible exact HK.out _ (bl_drew (Below.refl _ _)) | with_reducible exact HK.out _ (bl_drew (bl_alloc (Below.refl _ _) _)) | with_reducible exact HS6.out | with_reducible exact HS7.out _)
        clear hK K
        try simp only [Act.put, List.setIfInBounds_toArray, List.set_cons_zero, List.set_cons_succ]
        refine wpAnyH_take (i := 18) (v := ?_) rfl (by kernel_rfl) (by kernel_rfl) (by kernel_rfl) (fun _ _ _ h => h) (Or.inl ⟨by rfl, ?_⟩) (by assumption) ?_
        rotate_left
        · ((intro w hSw; (try dsimp only at hSw); go_simp); (try with_reducible rfl))
        try simp only [Act.put, List.setIfInBounds_toArray, List.set_cons_zero, List.set_cons_succ]
        refine wpAnyH_take (i := 19) (v := ?_) rfl (by kernel_rfl) (by kernel_rfl) (by kernel_rfl) (fun _ _ _ h => h) (Or.inl ⟨by rfl, ?_⟩) (by assumption) ?_
        rotate_left
        · ((intro w hSw; (try dsimp only at hSw); go_simp); (try with_reducible rfl))
        try simp only [Act.put, List.setIfInBounds_toArray, List.set_cons_zero, List.set_cons_succ]
        refine wpAnyH_ready (rs := [20]) (by kernel_rfl) (by simp) ?_
        refine AllReadyH.cons rfl (fun K hK => ?_) ?_
        · go_simp
          refine hK.out _ _ ?_ (fun hHeld => ?_)
          · (try dsimp only)
            (first | with_reducible exact HK.out _ (Below.refl _ _) | with_reducible exact HK.out _ (bl_drew (Below.refl _ _)) | with_reducible exact HK.out _ (bl_drew (bl_alloc (Below.refl _ _) _)) | with_reducible exact HS6.out | with_reducible exact HS7.out _)
          clear hK K
          try simp only [Act.put, List.setIfInBounds_toArray, List.set_cons_zero, List.set_cons_succ]
          refine wpAnyH_done (by kernel_rfl) ?_ _
          refine NoPanic.normal ?_
          go_wp2_with fail
          go_ret
          have hs6 : w2.heap.size ≤ w6.heap.size := Nat.le_trans HBA.out.size HG6.out.size
          have hat : ∀ k, (Value.slice (some ⟨gg, 0, none⟩) (m + 1) cap6).ownBlock = some k → y.va.ownBlock = some k ∨ w2.heap.size ≤ k := fun k hk => by
            injection hk with hk
            subst hk
            rcases HAT6.out with e | e
            · left; rw [HVA.out, ← HM0.out]; exact e
            · right; show w2.heap.size ≤ gg; omega
          have hkk : ∀ k, k < w2.heap.size → y.va.ownBlock ≠ some k → w6.heap[k]? = w2.heap[k]? := fun k hk hn => (HG6.out.block k (Nat.lt_of_lt_of_le hk HBA.out.size) (fun e => hn (by rw [HVA.out, ← HM0.out]; exact e.symm))).trans (HBA.out.block k hk)
          have ho6 : w6.ownsRow B 79 2 (.slice (some ⟨gg, 0, none⟩) (m + 1) cap6) (setA (ndA T i).at_ nm v).length (atc (setA (ndA T i).at_ nm v)) := by
            rw [HHIT.out, atc_snoc, List.length_append]
            have := HO6.out
            rw [HM0.out, HYX.out] at this ⊢
            exact this
          refine ⟨rfl, HKD.out.then_ HMM.out ⟨_, _, _, _, H2.out.setA (y' := ⟨{ ndA T i with at_ := setA (ndA T i).at_ nm v }, .slice (some ⟨gg, 0, none⟩) (m + 1) cap6, y.vk⟩) HY.out ⟨by rw [HYX.out], rfl⟩ hkk hs6 ho6 hat, ?_⟩ (fun k hk hf => ?_) ?_⟩
          · rw [List.map_set, HMM.out]
          · have hsz : w2.heap.size ≤ w2.heap.size := Nat.le_refl _
            by_cases e : (Value.slice (some ⟨gg, 0, none⟩) (m + 1) cap6).ownBlock = some k
            · rcases hat k e with e2 | e2
              · exact HT2.out k hk (by rw [H2.out.tA i y HY.out k e2]; omega)
              · omega
            · have hf : (if (Value.slice (some ⟨gg, 0, none⟩) (m + 1) cap6).ownBlock = some k then 5 + i else τ2 k) ≠ 0 := hf
              rw [if_neg e] at hf; exact HT2.out k hk hf
          · have k1 : Kept w2 w6 (fun k => τ2 k ≠ 0) := (HK2.out.then_ (Kept.of_below HBA.out (fun _ => False)) (fun _ _ e => e.elim)).then_ (Kept.grown HG6.out (fun k => (Value.slice A m c).ownBlock = some k) (fun k e => e)) (fun k hk e => HT2.out k hk (by rw [H2.out.tA i y HY.out k (by rw [HVA.out, ← HM0.out]; exact e)]; omega))
            exact k1.set_ L _ (fun hk => HT2.out L hk (by rw [H2.out.tL]; omega)) _
        exact AllReadyH.nil
      exact AllReadyH.nil
    exact AllReadyH.nil
  exact AllReadyH.nil
end Go.Proofs.YtimlmekgapdkiaaGreatDoor
