/- slices.Delete of one attribute; the tree: Unset -/
import Derived.Test.YtimlmekgapdkiaaGreatDoorVb
import Derived.Deep.RegionLaw
import Derived.Lib.SliceRun
namespace Go.Proofs.YtimlmekgapdkiaaGreatDoor
set_option linter.unusedVariables false
set_option linter.unusedSimpArgs false
open Go.RowKit Go.Cas

/-- append where there is room, told of the block whole: a step of a region that draws -/
theorem step_app_row {P : Program} {ops : Array Oper} {o : Oper} {a : Act} {w : World} {K : Act → World → Prop} {Q : Exit → Act → World → Prop} {E : Prop}
    (hg : o.guard = none) (s x : Operand) (t : TypeId) (hop : o.op = Op.call { callee := Callee.builtin Builtin.append, args := #[s, x], argTypes := #[t, t] })
    (e : TypeId) (i : TypeInfo) (size : Nat) (h1 : P.underlying t = some (.slice e)) (h2 : P.info? e = some i) (h4 : i.size = size)
    (g n cap : Nat) (cur : Array Value) (hs : a.eval s = .slice (some ⟨g, 0, none⟩) n cap) (hgc : w.heap[g]? = some (.cells cur e (0, 0)))
    (ad : Addr) (m c : Nat) (news : List Value) (hx : a.eval x = .slice (some ad) m c) (hn : news.length = m * size) (hc : ∀ j u, news[j]? = some u → w.cell? (ad.add j) = some u) (h1c : ∀ u ∈ news, u.oneCell' = true)
    (hroom : n + m ≤ cap) (hfit : n * size + news.length ≤ cur.size)
    (W1 : World) (hW : W1 = w.setRow g (cur.toList.take (n * size) ++ news ++ cur.toList.drop (n * size + news.length)).toArray)
    (hK : K (a.put o.dst (.slice (some ⟨g, 0, none⟩) (n + m) cap)) W1) :
    if Region.wanted o (yielded ops a.tmps) = true then Oper.wp P o a w K Q else E := by
  have hw : Region.wanted o (yielded ops a.tmps) = true := by simp [Region.wanted, hg]
  rw [if_pos hw]
  subst h4
  have hrun := run_append_room (P := P) w t o.type e i h1 h2 g n cap cur hgc ad m c news hn hc h1c hroom hfit
  rw [← hW] at hrun
  unfold Oper.wp
  simp [execOp, hop, resolve, invoke, builtin, hs, hx, hrun, Result.andThen]
  exact hK
/-- clear of one attribute -/
theorem run_clearA (w : World) (ty : TypeId) (g o c : Nat) (cur : Array Value) (hg : w.heap[g]? = some (.cells cur 79 (0, 0))) (hfit : o + 2 ≤ cur.size) :
    (Builtin.clear_ #[37] ty #[.slice (some ⟨g, o, none⟩) 1 c]).run Tryz.prog w = .ok (.tuple #[]) (w.setRow g (cur.toList.take o ++ [Value.string ⟨#[]⟩, Value.string ⟨#[]⟩] ++ cur.toList.drop (o + 2)).toArray) := by
  have hst := run_storeCells_at Tryz.prog g o 79 [Value.string ⟨#[]⟩, Value.string ⟨#[]⟩] 0 cur w hg (by simpa using hfit) (by simp [Value.oneCell'])
  simp only [Nat.add_zero, List.length_cons, List.length_nil] at hst
  have hz : (Builtin.zeroCells (Value.agg #[Value.string ⟨#[]⟩, Value.string ⟨#[]⟩]).cells 1).toList = [Value.string ⟨#[]⟩, Value.string ⟨#[]⟩] := by
    have e : (Value.agg #[Value.string ⟨#[]⟩, Value.string ⟨#[]⟩]).cells = #[Value.string ⟨#[]⟩, Value.string ⟨#[]⟩] := by kernel_rfl
    rw [e]
    simp [Builtin.zeroCells, Array.toList_range, List.range_succ]
  simp [Builtin.clear_, run_underlying Tryz.underlying37, Tryz.zeroValue79, hz, hst]
def DelRet (base g c m : Nat) (l : List (ByteArray × ByteArray)) (w : World) (e : Ending) (w' : World) : Prop :=
  e = .returned (.slice (some ⟨g, 0, none⟩) m c) ∧ w'.ownsRow base 79 2 (.slice (some ⟨g, 0, none⟩) m c) m (atc l) ∧ Kept w w' (fun j => j = g)
theorem atc_erase : ∀ (l : List (ByteArray × ByteArray)) (k : Nat), k < l.length → atc (l.eraseIdx k) = (atc l).take (k * 2) ++ (atc l).drop ((k + 1) * 2) := by
  intro l
  induction l with
  | nil => intro k h; simp at h
  | cons a l ih =>
    intro k h
    cases k with
    | zero => simp [atc]
    | succ k =>
      have := ih k (by simpa using h)
      have e1 : (k + 1) * 2 = k * 2 + 2 := by omega
      have e2 : (k + 1 + 1) * 2 = (k + 1) * 2 + 2 := by omega
      rw [List.eraseIdx_cons_succ, e1, e2]
      show [Value.string a.1, .string a.2] ++ atc (l.eraseIdx k) = List.take (k * 2 + 2) ([Value.string a.1, .string a.2] ++ atc l) ++ List.drop ((k + 1) * 2 + 2) ([Value.string a.1, .string a.2] ++ atc l)
      rw [this]
      simp
set_option maxRecDepth 100000 in
set_option maxHeartbeats 8000000 in
theorem c_Delete {w : World} {base g c m k : Nat} {l : List (ByteArray × ByteArray)} (h : w.ownsRow base 79 2 (.slice (some ⟨g, 0, none⟩) (m + 1) c) (m + 1) (atc l)) (hk : k ≤ m) (hm : m ≤ 1000000000) :
    Calls Tryz.prog 63 #[.slice (some ⟨g, 0, none⟩) (m + 1) c, .int .i64 (k : Int), .int .i64 ((k : Int) + 1)] w (DelRet base g c m (l.eraseIdx k) w) := by
  have hll : l.length = m + 1 := by have := h.1; rw [atc_len] at this; omega
  obtain ⟨hxl, h2⟩ := h
  rcases h2 with ⟨e, _⟩ | ⟨g', c', cur, e, hb, hg, hnc, hcm, hcs, htk⟩
  · cases e
  injection e with e1 e2 e3
  injection e1 with e1
  injection e1 with e1
  subst e1 e3
  obtain ⟨i0, hi0, hz0, hz1, hz2⟩ := info_parts inf_A
  obtain ⟨news, hnews⟩ : ∃ news, news = (atc l).drop ((k + 1) * 2) := ⟨_, rfl⟩
  have hnl : news.length = (m - k) * 2 := by rw [hnews, List.length_drop, atc_len, hll]; omega
  have hcur : ∀ t u, (atc l)[t]? = some u → w.cell? ⟨g, t, none⟩ = some u := fun t u hu => by
    have ht := (List.getElem?_eq_some_iff.1 hu).1
    rw [cell_of_row w g t cur 79 (0, 0) hg]
    rw [← htk, List.getElem?_take_of_lt (by rw [hxl] at ht; exact ht)] at hu
    simpa using hu
  obtain ⟨A, hA, hsrc⟩ : ∃ A : Addr, (if c = k + 1 then some (⟨g, 0, none⟩ : Addr) else some ⟨g, (k + 1) * 2, none⟩) = some A ∧ Hid (∀ t u, news[t]? = some u → w.drew.cell? (A.add t) = some u) := by
    by_cases he : c = k + 1
    · refine ⟨⟨g, 0, none⟩, by simp [he], fun t u hu => ?_⟩
      have ht := (List.getElem?_eq_some_iff.1 hu).1
      omega
    · refine ⟨⟨g, (k + 1) * 2, none⟩, by simp [he], fun t u hu => ?_⟩
      rw [hnews, List.getElem?_drop] at hu
      rw [add_lo]
      exact hcur _ u hu
  have s1 : Hid (news.length = (m - k) * 2) := hnl
  have s2 : Hid (∀ u ∈ news, u.oneCell' = true) := fun u hu => one_atc l u (by rw [hnews] at hu; exact List.mem_of_mem_drop hu)
  have s3 : Hid (k * 2 + news.length ≤ cur.size) := by unfold Hid; rw [hnl, hcs]; omega
  obtain ⟨cur1, hcur1⟩ : ∃ cur1, cur1 = (cur.toList.take (k * 2) ++ news ++ cur.toList.drop (k * 2 + news.length)).toArray := ⟨_, rfl⟩
  obtain ⟨W1, hW1⟩ : ∃ W1, W1 = w.drew.setRow g cur1 := ⟨_, rfl⟩
  have hg1 : W1.heap[g]? = some (.cells cur1 79 (0, 0)) := by rw [hW1]; exact setRow_heap w.drew g cur cur1 _ _ hg
  have hs1 : cur1.size = cur.size := by
    have h3 : k * 2 + news.length ≤ cur.size := s3.out
    rw [hcur1]
    simp only [List.size_toArray, List.length_append, List.length_take, List.length_drop, Array.length_toList]
    omega
  obtain ⟨cur2, hcur2⟩ : ∃ cur2, cur2 = (cur1.toList.take (m * 2) ++ [Value.string ⟨#[]⟩, Value.string ⟨#[]⟩] ++ cur1.toList.drop (m * 2 + 2)).toArray := ⟨_, rfl⟩
  have hcl : ∀ ty, (Builtin.clear_ #[37] ty #[.slice (some ⟨g, m * 2, none⟩) 1 (c - m)]).run Tryz.prog W1 = .ok (.tuple #[]) (W1.setRow g cur2) := fun ty => by
    rw [hcur2]
    exact run_clearA W1 ty g (m * 2) (c - m) cur1 hg1 (by rw [hs1, hcs]; omega)
  have HT2 : Hid (cur2.toList.take (m * 2) = atc (l.eraseIdx k) ∧ cur2.size = c * 2) := by
    have h3 : k * 2 + news.length ≤ cur.size := s3.out
    have hc3 : cur.toList.length = c * 2 := by simpa using hcs
    refine ⟨?_, ?_⟩
    · rw [hcur2]
      simp only [List.append_assoc]
      rw [List.take_append_of_le_length (by rw [List.length_take, Array.length_toList, hs1, hcs]; omega), List.take_take, Nat.min_self, hcur1]
      simp only
      rw [List.take_append_of_le_length (by rw [List.length_append, List.length_take, hnl, hc3]; omega), List.take_of_length_le (by rw [List.length_append, List.length_take, hnl, hc3]; omega), atc_erase l k (by omega), ← hnews]
      congr 1
      rw [← htk, List.take_take, Nat.min_eq_left (by omega)]
    · rw [hcur2]
      simp only [List.size_toArray, List.length_append, List.length_take, List.length_drop, Array.length_toList, List.length_cons, List.length_nil]
      rw [hs1, hcs]
      omega
  have HG1 := Lib.hid hg1
  have HG0 := Lib.hid hg
  have HW1 : Hid (W1 = w.drew.setRow g (cur.toList.take (k * 2) ++ news ++ cur.toList.drop (k * 2 + news.length)).toArray) := by unfold Hid; rw [hW1, hcur1]
  have HWW := Lib.hid hW1
  have HCC := Lib.hid hcm
  have HLL := Lib.hid hll
  have HBB := Lib.hid hb
  have hkm : k + (m - k) = m := by omega
  have hcm1 : ¬ c = m := by omega
  have hci : (c : Int) ≤ 9223372036854775807 := by unfold maxLen at hcm; omega
  have hmc : m + 1 ≤ c := hnc
  have hkc : k + 1 ≤ c := by omega
  have hkc0 : k ≤ c := by omega
  have hk1 : (0 : Int) ≤ (k : Int) + 1 := by omega
  have hm1 : (0 : Int) ≤ (m : Int) + 1 := by omega
  have hki : (k : Int) ≤ 1000000000 := by omega
  have hmi : (m : Int) ≤ 1000000000 := by omega
  have hne : ¬ (k : Int) = (k : Int) + 1 := by omega
  clear hcur hnews hnl hcur1 hcur2 hW1 hg1 hs1 hg hcs htk hxl hll hcm hnc hb
  go_enter Tryz.func63, Tryz.ntmps63
  go_upto_region 5 with fail
  go_region_law (refine step_app_row rfl (.tmp 22) (.tmp 25) 37 rfl 79 i0 2 Tryz.underlying37 hi0 hz1 g k c cur (by simp [Act.eval, Act.put]) HG0.out A (m - k) (c - (k + 1)) news (by simp [Act.eval, Act.put, hA]) s1.out hsrc.out s2.out (by omega) s3.out W1 HW1.out ?_)
  go_wp2_with fail
  go_ret
  have hg2 : (W1.setRow g cur2).heap[g]? = some (.cells cur2 79 (0, 0)) := setRow_heap W1 g cur1 cur2 _ _ HG1.out
  have hel : (l.eraseIdx k).length = m := by rw [List.length_eraseIdx_of_lt (by rw [HLL.out]; omega), HLL.out]; omega
  refine ⟨rfl, ⟨by rw [atc_len, hel], .inr ⟨g, c, cur2, rfl, HBB.out, hg2, by omega, HCC.out, HT2.out.2, HT2.out.1⟩⟩, ?_⟩
  rw [HWW.out]
  refine ⟨rfl, rfl, rfl, by simp [World.setRow], fun j hj hne => ?_⟩
  rw [setRow_other _ _ _ _ hne, setRow_other _ _ _ _ hne]
  rfl
end Go.Proofs.YtimlmekgapdkiaaGreatDoor
