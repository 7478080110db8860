/- slices.Insert of one number, wherever -/
import Derived.Test.YtimlmekgapdkiaaGreatDoorVg
import Derived.Shelf.Spec.SlicesInsert
import Derived.Shelf.Spec.SlicesInsertGrow
namespace Go.Proofs.YtimlmekgapdkiaaGreatDoor
set_option linter.unusedVariables false
set_option linter.unusedSimpArgs false
open Go.RowKit Go.Cas Go.Shelf

def rnI : Go.Shelf.Ren := ⟨fun x => if x = 21 then 54 else if x = 27 then 74 else if x = 28 then 75 else if x = 35 then 82 else if x = 39 then 81 else 0,
  fun x => if x = 3 then 3 else if x = 4 then 4 else if x = 22 then 38 else 0, fun x => x⟩
theorem layIns : Lays2.n21 Tryz.prog rnI := { mixed := by kernel_rfl, f21 := by kernel_rfl, f27 := by kernel_rfl, f28 := by kernel_rfl, f35 := by kernel_rfl, f39 := by kernel_rfl, t0 := by kernel_rfl, a0 := fun w => by kernel_rfl, z0 := fun w => by kernel_rfl, v0 := fun w => by kernel_rfl, t3 := by kernel_rfl, a3 := fun w => by kernel_rfl, z3 := fun w => by kernel_rfl, v3 := fun w => by kernel_rfl, t4 := by kernel_rfl, a4 := fun w => by kernel_rfl, z4 := fun w => by kernel_rfl, v4 := fun w => by kernel_rfl, t22 := by kernel_rfl, a22 := fun w => by kernel_rfl, z22 := fun w => by kernel_rfl, v22 := fun w => by kernel_rfl, i3 := by kernel_rfl }
theorem setCells_row {w : World} {g o : Nat} {cur : Array Value} {t : TypeId} {vs : List Value} (hg : w.heap[g]? = some (.cells cur t (0, 0))) (hfit : o + vs.length ≤ cur.size) (h1 : ∀ v ∈ vs, v.oneCell' = true) :
    w.setCells g o vs = w.setRow g (cur.toList.take o ++ vs ++ cur.toList.drop (o + vs.length)).toArray := by
  have r1 := run_storeCells_at Tryz.prog g o t vs 0 cur w hg (by simpa using hfit) h1
  have r2 := run_storeCells_cells (P := Tryz.prog) g o vs 0 w (fun j hj => by rw [cell_of_row w g _ cur t (0, 0) hg, Array.getElem?_eq_getElem (by omega)]; rfl) (fun j _ => by simp [World.frozen?, hg]) h1
  rw [r1] at r2
  simp only [Nat.add_zero] at r2
  injection r2 with _ r2
  exact r2.symm
theorem take_ins (l : List Nat) (a i : Nat) (ha : a ≤ l.length) : kic (insA l a i) = (kic l).take a ++ [.int .i64 (i : Int)] ++ (kic l).drop a := by
  simp [kic, insA, List.map_take, List.map_drop]
theorem zc_len (n : Nat) : (Builtin.zeroCells (Value.int .i64 0).cells n).size = n := by
  have e : (Value.int .i64 0).cells = #[Value.int .i64 0] := by kernel_rfl
  rw [e]
  simp [Builtin.zeroCells]
set_option maxHeartbeats 2000000 in
theorem insOk_any (l : List Nat) (a i : Nat) (hl : l.length ≤ 100000000) (ha : a ≤ l.length) : InsOk a l i := by
  rcases Nat.lt_or_ge a l.length with hlt | hge
  case inr =>
    obtain rfl : a = l.length := by omega
    exact insOk_end l i (by omega)
  intro w base vb v h hvb hne hbase
  obtain ⟨hxl, hx⟩ := h
  rcases hx with ⟨_, e⟩ | ⟨g, c, cur, rfl, hb, hg, hnc, hcm, hcs, htk⟩
  · omega
  have hcs1 : cur.size = c := by simpa using hcs
  have htk1 : cur.toList.take l.length = kic l := by simpa using htk
  have hgl : g < w.heap.size := (Array.getElem?_eq_some_iff.1 hg).1
  have hcells : ∀ j u, (kic l)[j]? = some u → w.cell? ⟨g, 0 + j, none⟩ = some u := fun j u hu => by
    have hj := (List.getElem?_eq_some_iff.1 hu).1
    rw [kic_len] at hj
    rw [Nat.zero_add, cell_of_row w g j cur 3 (0, 0) hg]
    rw [← htk1, List.getElem?_take_of_lt hj] at hu
    simpa using hu
  have hvs : ∀ j u, ([.int .i64 (i : Int)] : List Value)[j]? = some u → w.cell? ⟨vb, 0 + j, none⟩ = some u := fun j u hu => by
    cases j with
    | zero => simp at hu; subst hu; exact cell_of_row w vb 0 _ _ _ hvb
    | succ j => simp at hu
  have h1v : ∀ u ∈ ([.int .i64 (i : Int)] : List Value), u.oneCell' = true := by simp [Value.oneCell']
  have hvg : vb ≠ g := fun e => hne (by rw [e]; rfl)
  have hil : (insA l a i).length = l.length + 1 := by unfold insA; simp; omega
  have hkl : (kic (insA l a i)).length = (l.length + 1) * 1 := by rw [kic_len, hil]; omega
  by_cases hroom : l.length + 1 ≤ c
  · refine (Any2.slices_Insert_int_shift layIns g 0 l.length c a vb 0 1 1 (kic l) [.int .i64 (i : Int)] w hlt (by omega) hroom (by unfold maxLen at hcm; omega) hvg (kic_len l) rfl hcells
      (fun j hj => by rw [Nat.zero_add, cell_of_row w g j cur 3 (0, 0) hg, Array.getElem?_eq_getElem (by omega)]; rfl) (fun j _ => by simp [World.frozen?, hg]) hvs (one_kic l) h1v 3 3 1 c (by simp [World.shape?, hvb]) (by simp [World.shape?, hg, hcs1]) (by omega) (by simp [World.frozen?, hvb]) (by simp [World.frozen?, hvb])).mono ?_
    rintro e w' ⟨rfl, hw'⟩
    have hdl : ((kic l).drop a).length = l.length - a := by rw [List.length_drop, kic_len]
    have e1 : w.drew.setCells g (0 + (a + 1)) ((kic l).drop a) = w.drew.setRow g (cur.toList.take (a + 1) ++ (kic l).drop a ++ cur.toList.drop (a + 1 + (l.length - a))).toArray := by
      have := setCells_row (w := w.drew) (o := a + 1) (vs := (kic l).drop a) hg (by rw [hdl]; omega) (fun u hu => one_kic l u (List.mem_of_mem_drop hu))
      rw [hdl] at this
      rw [Nat.zero_add]; exact this
    obtain ⟨cur1, hc1⟩ : ∃ cur1, cur1 = (cur.toList.take (a + 1) ++ (kic l).drop a ++ cur.toList.drop (a + 1 + (l.length - a))).toArray := ⟨_, rfl⟩
    rw [← hc1] at e1
    have hg1 : (w.drew.setRow g cur1).heap[g]? = some (.cells cur1 3 (0, 0)) := setRow_heap w.drew g cur cur1 _ _ hg
    have hs1 : cur1.size = c := by
      rw [hc1]
      simp only [List.size_toArray, List.length_append, List.length_take, List.length_drop, Array.length_toList, kic_len]
      omega
    have e2 := setCells_row (w := w.drew.setRow g cur1) (o := a) (vs := [.int .i64 (i : Int)]) hg1 (by rw [hs1]; simp; omega) h1v
    rw [e1, Nat.zero_add, e2] at hw'
    obtain ⟨cur2, hc2⟩ : ∃ cur2, cur2 = (cur1.toList.take a ++ [Value.int .i64 (i : Int)] ++ cur1.toList.drop (a + [Value.int .i64 (i : Int)].length)).toArray := ⟨_, rfl⟩
    rw [← hc2] at hw'
    have hg2 : w'.heap[g]? = some (.cells cur2 3 (0, 0)) := by rw [hw']; exact setRow_heap _ g cur1 cur2 _ _ hg1
    have hs2 : cur2.size = c := by
      rw [hc2]
      simp only [List.size_toArray, List.length_append, List.length_take, List.length_drop, Array.length_toList, List.length_cons, List.length_nil]
      omega
    refine ⟨_, rfl, ⟨hkl, .inr ⟨g, c, cur2, rfl, hb, hg2, hroom, hcm, by rw [hs2]; omega, ?_⟩⟩, ?_, .inl rfl⟩
    · have hct : cur.toList.take a = (kic l).take a := by
        rw [← htk1, List.take_take, Nat.min_eq_left (by omega)]
      rw [take_ins l a i ha, hc2, Nat.mul_one]
      have hA : cur1.toList.take a = (kic l).take a := by
        rw [hc1]
        simp only
        rw [List.append_assoc, List.take_append_of_le_length (by rw [List.length_take, Array.length_toList]; omega), List.take_take, Nat.min_eq_left (by omega), hct]
      have hB : (cur1.toList.drop (a + 1)).take (l.length - a) = (kic l).drop a := by
        rw [hc1]
        simp only
        rw [List.append_assoc, List.drop_append_of_le_length (by rw [List.length_take, Array.length_toList]; omega), List.drop_of_length_le (by rw [List.length_take]; omega), List.nil_append, List.take_append_of_le_length (by rw [hdl]; omega), List.take_of_length_le (by rw [hdl]; omega)]
      simp only [List.length_cons, List.length_nil, Nat.zero_add]
      rw [hA, List.append_assoc, List.append_assoc]
      have hla : ((kic l).take a).length = a := by rw [List.length_take, kic_len]; omega
      rw [List.take_append, hla, List.take_of_length_le (by rw [hla]; omega)]
      congr 1
      have e3 : l.length + 1 - a = (l.length - a) + 1 := by omega
      rw [e3]
      show List.take (l.length - a + 1) (Value.int IntKind.i64 (i : Int) :: cur1.toList.drop (a + 1)) = _
      rw [List.take_succ_cons, hB]; rfl
    · rw [hw']
      refine ⟨rfl, rfl, rfl, by simp [World.setRow], fun j hj hne => ?_⟩
      have hjg : j ≠ g := fun e => hne (by rw [e]; rfl)
      rw [setRow_other _ _ _ _ hjg, setRow_other _ _ _ _ hjg]; rfl
  · have hcn : c = l.length := by omega
    subst hcn
    refine (Any2.slices_Insert_int_grow layIns g 0 l.length l.length a vb 0 1 1 (kic l) [.int .i64 (i : Int)] w hlt (by omega) (Nat.le_refl _) (by omega) (by omega) (kic_len l) rfl hcells hvs (one_kic l) h1v).mono ?_
    rintro e w' ⟨rfl, hw'⟩
    obtain ⟨gc, hgc⟩ : ∃ gc, gc = grownCap w (l.length + 1) l.length (rnI.t 3) := ⟨_, rfl⟩
    have hge : l.length + 1 ≤ gc := by rw [hgc]; exact grownCap_ge w _ _ _
    have hgm : gc ≤ maxLen := by rw [hgc]; exact grownCap_le_maxLen w _ _ _ (by unfold maxLen; omega)
    rw [← hgc] at hw' ⊢
    obtain ⟨cs0, hc0⟩ : ∃ cs0, cs0 = ((kic l).take a).toArray ++ Builtin.zeroCells (Value.int .i64 0).cells (l.length + 1 - a) ++ Builtin.zeroCells (Value.int .i64 0).cells (gc - (l.length + 1)) := ⟨_, rfl⟩
    rw [← hc0] at hw'
    have hs0 : cs0.size = gc := by
      rw [hc0]
      simp only [Array.size_append, List.size_toArray, zc_len, List.length_take, kic_len]
      omega
    have ht0 : cs0.toList.take a = (kic l).take a := by
      rw [hc0]
      simp only [Array.toList_append, List.append_assoc]
      rw [List.take_append_of_le_length (by rw [List.length_take, kic_len]; omega), List.take_take, Nat.min_self]
    obtain ⟨wa, hwa⟩ : ∃ wa, wa = w.alloc (.cells cs0 (rnI.t 3)) := ⟨_, rfl⟩
    have hga : wa.heap[w.heap.size]? = some (.cells cs0 3 (0, 0)) := by rw [hwa]; exact bk_new' w 3 cs0 rfl
    rw [← hwa] at hw'
    have e1 := setCells_row (w := wa.drew) (o := a) (vs := [.int .i64 (i : Int)]) hga (by rw [hs0]; simp; omega) h1v
    obtain ⟨cur1, hc1⟩ : ∃ cur1, cur1 = (cs0.toList.take a ++ [Value.int .i64 (i : Int)] ++ cs0.toList.drop (a + [Value.int .i64 (i : Int)].length)).toArray := ⟨_, rfl⟩
    rw [← hc1] at e1
    have hg1 : (wa.drew.setRow w.heap.size cur1).heap[w.heap.size]? = some (.cells cur1 3 (0, 0)) := setRow_heap wa.drew _ cs0 cur1 _ _ hga
    have hs1 : cur1.size = gc := by
      rw [hc1]
      simp only [List.size_toArray, List.length_append, List.length_take, List.length_drop, Array.length_toList, List.length_cons, List.length_nil]
      omega
    have hdl : ((kic l).drop a).length = l.length - a := by rw [List.length_drop, kic_len]
    have e2 := setCells_row (w := (wa.drew.setRow w.heap.size cur1).drew) (o := a + 1) (vs := (kic l).drop a) hg1 (by rw [hs1, hdl]; omega) (fun u hu => one_kic l u (List.mem_of_mem_drop hu))
    rw [e1, e2] at hw'
    obtain ⟨cur2, hc2⟩ : ∃ cur2, cur2 = (cur1.toList.take (a + 1) ++ (kic l).drop a ++ cur1.toList.drop (a + 1 + ((kic l).drop a).length)).toArray := ⟨_, rfl⟩
    rw [← hc2] at hw'
    have hg2 : w'.heap[w.heap.size]? = some (.cells cur2 3 (0, 0)) := by rw [hw']; exact setRow_heap _ _ cur1 cur2 _ _ hg1
    have hs2 : cur2.size = gc := by
      rw [hc2]
      simp only [List.size_toArray, List.length_append, List.length_take, List.length_drop, Array.length_toList, hdl]
      omega
    have hla : ((kic l).take a).length = a := by rw [List.length_take, kic_len]; omega
    refine ⟨_, rfl, ⟨hkl, .inr ⟨w.heap.size, gc, cur2, rfl, hbase, hg2, hge, hgm, by rw [hs2]; omega, ?_⟩⟩, ?_, .inr ⟨w.heap.size, Nat.le_refl _, rfl⟩⟩
    · rw [take_ins l a i ha, hc2, Nat.mul_one]
      have hA : cur1.toList.take (a + 1) = (kic l).take a ++ [.int .i64 (i : Int)] := by
        rw [hc1]
        simp only
        rw [List.take_append_of_le_length (by simp [hs0]; omega), List.take_of_length_le (by simp [hs0]; omega), ht0]
      simp only
      rw [hA, List.take_append_of_le_length (by simp [hdl]; omega), List.take_of_length_le (by simp [hdl]; omega)]
    · rw [hw', hwa]
      refine ⟨rfl, rfl, rfl, by simp [World.setRow], fun j hj hne => ?_⟩
      have hjg : j ≠ w.heap.size := by omega
      rw [setRow_other _ _ _ _ hjg]
      show (World.setRow _ _ _).heap[j]? = _
      rw [setRow_other _ _ _ _ hjg]
      exact heap_alloc_old w _ hj
end Go.Proofs.YtimlmekgapdkiaaGreatDoor
