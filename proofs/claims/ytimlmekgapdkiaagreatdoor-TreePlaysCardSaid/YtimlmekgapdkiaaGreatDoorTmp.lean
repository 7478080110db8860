/- the tree: New; the way down to a node; the tree: the way down to a node -/
import Derived.Test.YtimlmekgapdkiaaGreatDoorTmn
namespace Go.Proofs.YtimlmekgapdkiaaGreatDoor
set_option linter.unusedVariables false
set_option linter.unusedSimpArgs false
open Go.RowKit Go.Cas

def root0 : Nod := ⟨1, ByteArray.empty, ByteArray.empty, [], -1, []⟩
def NewRet (w : World) (e : Ending) (w' : World) : Prop := ∃ R F, e = .returned (.pointer (some ⟨R, 0, none⟩)) ∧ TS w.heap.size R [root0] [] F w' ∧ Below w.heap.size w w'
theorem c_New (w : World) : Calls Tryz.prog 4 #[] w (NewRet w) := by
  go_enter Tryz.func4, Tryz.ntmps4
  go_wp2_with fail
  go_ret
  have hs1 : ((w.alloc (.cells #[.int .i64 1, .string ByteArray.empty, .string ByteArray.empty, .slice none 0 0, .int .i64 (-1), .slice none 0 0] 40)).alloc (.cells #[.slice (some ⟨w.heap.size, 0, none⟩) 1 1, .slice none 0 0] 44)).heap.size = w.heap.size + 2 := by simp
  have hb1 : Bk ((w.alloc (.cells #[.int .i64 1, .string ByteArray.empty, .string ByteArray.empty, .slice none 0 0, .int .i64 (-1), .slice none 0 0] 40)).alloc (.cells #[.slice (some ⟨w.heap.size, 0, none⟩) 1 1, .slice none 0 0] 44)) w.heap.size 40 #[.int .i64 1, .string ByteArray.empty, .string ByteArray.empty, .slice none 0 0, .int .i64 (-1), .slice none 0 0] := (Bk.new _ _ _).alloc _
  have hb2 : Bk ((w.alloc (.cells #[.int .i64 1, .string ByteArray.empty, .string ByteArray.empty, .slice none 0 0, .int .i64 (-1), .slice none 0 0] 40)).alloc (.cells #[.slice (some ⟨w.heap.size, 0, none⟩) 1 1, .slice none 0 0] 44)) (w.heap.size + 1) 44 #[.slice (some ⟨w.heap.size, 0, none⟩) 1 1, .slice none 0 0] := bk_new' _ _ _ (by simp)
  refine ⟨w.heap.size + 1, fun k => k = w.heap.size ∨ k = w.heap.size + 1, rfl, ⟨w.heap.size, 1, .slice none 0 0, fun _ => False, [⟨root0, .slice none 0 0, .slice none 0 0⟩], ?_, rfl⟩, bl_alloc (bl_alloc (Below.refl _ _) _) _⟩
  refine ⟨⟨hb2, ⟨_, hb1, by decide, rfl⟩, ⟨Nat.le_refl _, by unfold maxLen; decide⟩, fun y hy => ?_, ⟨by omega, Nat.le_refl _, by omega⟩, fun k e => by simp [Value.ownBlock] at e, fun k e => e.elim⟩, World.ownsRow_nil _ _ _ _, trivial, fun k hk => ?_, fun k hk => ?_⟩
  · obtain rfl := List.mem_singleton.1 hy
    exact ⟨RdZ.nil _ _ _, RdZ.nil _ _ _⟩
  · rcases hk with (rfl | rfl | e) | e
    · exact .inr rfl
    · exact .inl rfl
    · simp [Value.ownBlock] at e
    · exact e.elim
  · refine ⟨by rcases hk with rfl | rfl <;> omega, Nat.lt_of_lt_of_eq ?_ hs1.symm⟩
    rcases hk with rfl | rfl <;> omega
theorem kic_get {l : List Nat} {k x : Nat} (h : l[k]? = some x) : (kic l)[k]? = some (.int .i64 (x : Int)) := by unfold kic; rw [List.getElem?_map, h]; rfl
theorem kic_set (l : List Nat) (k x : Nat) : (kic l).set k (.int .i64 (x : Int)) = kic (l.set k x) := by unfold kic; rw [List.map_set]
/-- half-way reversed -/
def RvK (l cur : List Nat) (k : Nat) : Prop := cur.length = l.length ∧ ∀ j, j < l.length → cur[j]? = if j < k ∨ l.length < j + 1 + k then l[l.length - 1 - j]? else l[j]?
theorem RvK.start (l : List Nat) : RvK l l 0 := ⟨rfl, fun j hj => by rw [if_neg (by omega)]⟩
theorem RvK.step {l cur : List Nat} {k x y : Nat} (h : RvK l cur k) (hk : 2 * k + 1 < l.length) (hx : cur[k]? = some x) (hy : cur[l.length - 1 - k]? = some y) : RvK l ((cur.set k y).set (l.length - 1 - k) x) (k + 1) := by
  refine ⟨by simp [h.1], fun j hj => ?_⟩
  have ex := h.2 k (by omega)
  rw [if_neg (by omega), hx] at ex
  have ey := h.2 (l.length - 1 - k) (by omega)
  rw [if_neg (by omega), hy] at ey
  rw [List.getElem?_set]
  split
  · rename_i e
    subst e
    rw [if_pos (by rw [List.length_set, h.1]; omega), if_pos (by omega), show l.length - 1 - (l.length - 1 - k) = k by omega]
    exact ex
  · rename_i e
    rw [List.getElem?_set]
    split
    · rename_i e2
      subst e2
      rw [if_pos (by rw [h.1]; omega), if_pos (by omega)]
      exact ey
    · rename_i e2
      rw [h.2 j hj]
      by_cases h2 : j < k ∨ l.length < j + 1 + k
      · rw [if_pos h2, if_pos (by omega)]
      · rw [if_neg h2, if_neg (by omega)]
theorem RvK.done {l cur : List Nat} {k : Nat} (h : RvK l cur k) (hk : l.length ≤ 2 * k + 1) : cur = l.reverse := by
  apply List.ext_getElem?
  intro j
  by_cases hj : j < l.length
  · rw [h.2 j hj, List.getElem?_reverse hj]
    split
    · rfl
    · rename_i e
      rw [show l.length - 1 - j = j by omega]
  · rw [List.getElem?_eq_none (by rw [h.1]; omega), List.getElem?_eq_none (by simp; omega)]
def RvRet (w : World) (base : Nat) (v : Value) (l : List Nat) (e : Ending) (w' : World) : Prop := (∃ u, e = .returned u) ∧ w'.ownsRow base 3 1 v l.length (kic l) ∧ Kept w w' (fun k => v.ownBlock = some k)
set_option maxRecDepth 100000 in
set_option maxHeartbeats 8000000 in
theorem c_Reverse {w : World} {base g c : Nat} {l : List Nat} (h : w.ownsRow base 3 1 (.slice (some ⟨g, 0, none⟩) l.length c) l.length (kic l)) (hl : l.length ≤ 1000000) (h0 : 0 < l.length) :
    Calls Tryz.prog 81 #[.slice (some ⟨g, 0, none⟩) l.length c] w (RvRet w base (.slice (some ⟨g, 0, none⟩) l.length c) l.reverse) := by
  obtain ⟨n, hn⟩ : ∃ n, n = l.length := ⟨_, rfl⟩
  rw [← hn] at h hl h0 ⊢
  have H := Lib.hid h
  have HN := Lib.hid hn
  clear h hn
  go_enter Tryz.func81, Tryz.ntmps81
  go_wp2_with fail
  go_loopw [2, 3] (fun a b wr => ∃ (k : Nat) (cur : List Nat), 2 * k ≤ n ∧ a = .int .i64 (k : Int) ∧ b = .int .i64 ((n : Int) - 1 - k) ∧ Hid (RvK l cur k) ∧ Hid (wr.ownsRow base 3 1 (.slice (some ⟨g, 0, none⟩) n c) n (kic cur)) ∧ Hid (Kept w wr (fun k => k = g))) (fun a _ _ => n - (intOf a).toNat)
  case atStart => exact ⟨0, l, by omega, rfl, by simp, RvK.start l, H.out, Kept.refl _ _⟩
  case round =>
    obtain ⟨k, cur, hk, rfl, rfl, HR, HO, HK⟩ := hrel
    by_cases hlt : 2 * k + 1 < n
    · have hcl : cur.length = n := by rw [HR.out.1]; exact HN.out.symm
      obtain ⟨m, hm⟩ : ∃ m, m = n - 1 - k := ⟨_, rfl⟩
      have hmi : (n : Int) - 1 - k = (m : Int) := by omega
      obtain ⟨x, hx⟩ : ∃ x, cur[k]? = some x := ⟨_, List.getElem?_eq_getElem (by omega)⟩
      obtain ⟨y, hy⟩ : ∃ y, cur[m]? = some y := ⟨_, List.getElem?_eq_getElem (by omega)⟩
      have hkm : k < m := by omega
      have hmn : m < n := by omega
      have d0 := HO.out.cells (g := g) rfl k _ (kic_get hx)
      have d1 := HO.out.cells (g := g) rfl m _ (kic_get hy)
      rw [add_none, Nat.zero_add] at d0 d1
      have f0 := own_free HO.out k
      have f1 := own_free HO.out m
      have hgl := (own_lt HO.out (k := g) rfl).2
      rw [hmi]
      have HX := Lib.hid hx
      have HY := Lib.hid hy
      have HM := Lib.hid hm
      have hki : (k : Int) < (m : Int) := by omega
      have hmi2 : (m : Int) < (n : Int) := by omega
      have hkn : (k : Int) < (n : Int) := by omega
      have h0k : 0 ≤ (k : Int) := by omega
      have h0m : 0 ≤ (m : Int) := by omega
      have hne : k ≠ m := by omega
      have HS : Hid (RvK l ((cur.set k y).set m x) (k + 1)) := by
        have := HR.out.step (x := x) (y := y) (by have := HN.out; omega) hx (by rw [← HN.out, ← hm]; exact hy)
        rw [← HN.out, ← hm] at this
        exact this
      clear hcl hm hx hy hmi
      go_wp2_with fail
      go_region
      all_goals
        go_wp2_with fail
        go_roundw
        case rel =>
          refine ⟨k + 1, (cur.set k y).set m x, by omega, by go_num, ?_, HS.out, ?_, ?_⟩
          · have := HM.out; congr 1; omega
          · have ho := (own_setN (own_setN (HO.out) k (.int .i64 (y : Int))) m (.int .i64 (x : Int)))
            rw [kic_set, kic_set] at ho
            exact ho
          · exact ((HK.out.drew).set_ g _ (fun _ => rfl) _).set_ g _ (fun _ => rfl) _
        case measure => simp [intOf]; omega
    · have e1 : ¬ (k : Int) < (n : Int) - 1 - k := by omega
      go_wp2_with fail
      go_end0
      refine ⟨⟨_, rfl⟩, ?_, HK.out.mono (fun a _ e => by rw [e]; rfl)⟩
      have := HR.out.done (by have := HN.out; omega)
      rw [← this, HR.out.1, ← HN.out]
      exact HO.out
end Go.Proofs.YtimlmekgapdkiaaGreatDoor
namespace Go.Proofs.YtimlmekgapdkiaaGreatDoor
set_option linter.unusedVariables false
set_option linter.unusedSimpArgs false
open Go.RowKit Go.Cas

theorem kic_snoc (l : List Nat) (x : Nat) : kic (l ++ [x]) = kic l ++ [.int .i64 (x : Int)] := by simp [kic]
def WyRet (w : World) (l : List Nat) (e : Ending) (w' : World) : Prop := ∃ v, e = .returned v ∧ w'.ownsRow w.heap.size 3 1 v l.length (kic l) ∧ Below w.heap.size w w'
set_option maxRecDepth 100000 in
set_option maxHeartbeats 8000000 in
theorem c_way {w : World} {B R i : Nat} {F : Nat → Prop} {T : List Nod} {d : Nat → Nat} {D : List (Value × List Nod)} {l : List Nat} (h : TS B R T D F w) (hW : WF T d) (hT : T.length ≤ 400) (hi : i < T.length) (hl : Go.Cas.Way T i l) (hll : l.length ≤ 1000) :
    Calls Tryz.prog 67 #[.pointer (some ⟨R, 0, none⟩), .int .i64 (i : Int)] w (WyRet w l) := by
  have H := Lib.hid h
  have HW := Lib.hid hW
  have HT := Lib.hid hT
  have HL := Lib.hid hl
  have HLL := Lib.hid hll
  have HI := Lib.hid hi
  clear h hW hT hl hi
  go_enter Tryz.func67, Tryz.ntmps67
  go_wp2_with fail
  go_loopw [1, 5] (fun c v wr => ∃ (a : Int) (acc : List Nat), c = .int .i64 a ∧ acc.length ≤ l.length ∧ Hid ((a < 0 ∧ l = acc.reverse) ∨ (∃ (q : Nat) (r : List Nat), a = (q : Int) ∧ q < T.length ∧ Go.Cas.Way T q r ∧ l = r ++ acc.reverse)) ∧ Hid (wr.ownsRow w.heap.size 3 1 v acc.length (kic acc)) ∧ Hid (Below w.heap.size w wr)) (fun c _ _ => wm d (intOf c))
  case atStart => exact ⟨(i : Int), [], rfl, by simp, .inr ⟨i, l, rfl, HI.out, HL.out, by simp⟩, World.ownsRow_nil _ _ _ _, Below.refl _ _⟩
  case round =>
    obtain ⟨a, acc, rfl, hal, HR, HO, HB⟩ := hrel
    by_cases ha : a < 0
    · have ha2 : ¬ 0 ≤ a := by omega
      have hle : Hid (l = acc.reverse) := by
        rcases HR.out with ⟨_, h⟩ | ⟨q, r, e, _⟩
        · exact h
        · omega
      have hne : acc ≠ [] := fun e => by
        have := HL.out.ne
        rw [hle.out, e] at this; exact this rfl
      have hpos : 0 < acc.length := List.length_pos_iff.2 hne
      obtain ⟨gg, cg, e, hgg, hgl⟩ := HO.out.form hpos
      subst e
      have HRV := Lib.hid (c_Reverse HO.out (by have := HLL.out; omega) hpos)
      have HGG := Lib.hid hgg
      clear ha hne hpos hgl
      go_wp2_with ((go_at_call 81; refine (HRV.out).mono ?_; rintro e w' ⟨⟨u, rfl⟩, ho, hk⟩; have HO2 := Lib.hid ho; have HK2 := Lib.hid hk; clear ho hk))
      go_ret
      have ho2 := HO2.out
      rw [List.length_reverse] at ho2
      refine ⟨_, rfl, ?_, HB.out.trans (HK2.out.below (fun k hk => ⟨Nat.lt_of_lt_of_le hk HB.out.size, fun e => by have := (own_lt HO.out e).1; omega⟩))⟩
      rw [hle.out, List.length_reverse]
      exact ho2
    · obtain ⟨q, r, rfl, hq, hwq, hlr⟩ : ∃ (q : Nat) (r : List Nat), a = (q : Int) ∧ q < T.length ∧ Go.Cas.Way T q r ∧ l = r ++ acc.reverse := by
        rcases HR.out with ⟨e, _⟩ | h
        · omega
        · exact h
      have hrl : 0 < r.length := List.length_pos_iff.2 hwq.ne
      have hlen : acc.length + 1 ≤ l.length := by rw [hlr]; simp; omega
      have HQ := Lib.hid hq
      have HWQ := Lib.hid hwq
      have HLR := Lib.hid hlr
      have hbz : w.heap.size ≤ wr.heap.size := HB.out.size
      have hb1000 : acc.length ≤ 1000 := by have := HLL.out; omega
      have ha3 : 0 ≤ (q : Int) := by omega
      have h5T := fun (v5 : Value) (w5 : World) (hp : Pushed wr w.heap.size 3 1 u5 acc.length (kic acc) [.int .i64 (q : Int)] v5 w5) => (H.out.below HB.out).kept (Kept.grown hp.grown (fun k => u5.ownBlock = some k) (fun k e => e)) (fun k e => H.out.new_ (own_lt HO.out e).1)
      have H5T := Lib.hid h5T
      clear ha hq hwq hlr hrl h5T
      go_upto_region 3 with (at_builtin; refine wp_push rfl _ _ 38 rfl w.heap.size 3 Tryz.underlying38 inf_I rfl (by decide) wr u5 acc.length (kic acc) [.int .i64 (q : Int)] rfl rfl rfl HO.out rfl (by simp [Value.oneCell']) (by omega) (by omega) hbz ?_; intro v5 w5 hpush; have HPU := Lib.hid hpush; clear hpush)
      have ht5 := H5T.out _ _ HPU.out
      obtain ⟨L, cap, uv, Z, M, h1, hM, _⟩ := ht5.ns
      have hlM : M.length = T.length := by rw [← hM]; simp
      obtain ⟨y, hy⟩ : ∃ y, M[q]? = some y := ⟨_, List.getElem?_eq_getElem (by have := HQ.out; omega)⟩
      have hyx : ndA T q = y.x := ndA_eq (by rw [← hM, List.getElem?_map, hy]; rfl)
      have HYX := Lib.hid hyx
      have hqi : (q : Int) < (M.length : Int) := by have := (List.getElem?_eq_some_iff.1 hy).1; omega
      have hl4 : M.length ≤ 400 := by have := HT.out; omega
      obtain ⟨pa, hpa⟩ : ∃ pa, pa = y.x.pa := ⟨_, rfl⟩
      have HPA := Lib.hid hpa
      obtain ⟨g0, _⟩ := h1.heads
      have hr := h1.ltR
      have hrL := h1.ltL
      obtain ⟨_, _, a4, _⟩ := h1.cell hy
      rw [← hpa] at a4
      clear ht5 h1 hM hlM hy hyx hpa
      go_wp2_with fail
      go_roundw
      case rel =>
        refine ⟨pa, acc ++ [q], rfl, by simp; omega, ?_, ?_, HPU.out.below HB.out (Nat.le_refl _) hbz⟩
        · have hwq := HWQ.out
          have hlr := HLR.out
          cases hwq with
          | root h =>
            refine .inl ⟨by rw [HPA.out, ← HYX.out]; exact h, ?_⟩
            rw [hlr]; simp
          | @step _ p r' e hw =>
            have hpT : p < T.length := by
              rcases HW.out.pa q HQ.out with e2 | ⟨_, e2⟩
              · omega
              · rw [e] at e2; exact e2
            refine .inr ⟨p, r', by rw [HPA.out, ← HYX.out, e], hpT, hw, ?_⟩
            rw [hlr]; simp
        · rw [kic_snoc, List.length_append]
          exact HPU.out.own
      case measure =>
        show wm d pa < wm d (q : Int)
        unfold wm
        rw [if_neg (by omega : ¬ (q : Int) < 0)]
        by_cases h0 : pa < 0
        · rw [if_pos h0]; omega
        · rw [if_neg h0]
          have := HW.out.ac q HQ.out (by rw [HYX.out, ← HPA.out]; omega)
          rw [HYX.out, ← HPA.out] at this
          have e : ((q : Int)).toNat = q := rfl
          rw [e]; omega
end Go.Proofs.YtimlmekgapdkiaaGreatDoor
