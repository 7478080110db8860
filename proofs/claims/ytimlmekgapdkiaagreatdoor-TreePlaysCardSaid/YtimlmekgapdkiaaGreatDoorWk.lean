/- the document's tree: changes that cannot be made; the document's tree: changes of a node that cannot be made -/
import Derived.Test.YtimlmekgapdkiaaGreatDoorWi
namespace Go.Proofs.YtimlmekgapdkiaaGreatDoor
set_option linter.unusedVariables false
set_option linter.unusedSimpArgs false
open Go.RowKit Go.Cas

theorem c_rHasNo {w : World} {B R n : Nat} {τ : Nat → Nat} {T : List Nod} (h : RS B R T n τ w) (z : Int) (hz : z < 0 ∨ (T.length : Int) ≤ z) (hT : T.length ≤ 400) :
    Calls Tryz.prog 43 #[.pointer (some ⟨R, 0, none⟩), .int .i64 z] w fun e w' => e = .returned (.bool false) ∧ w = w' := by
  obtain ⟨L, cap, tv, xs, M, h1, hM⟩ := h
  have hl : M.length = T.length := by rw [← hM]; simp
  obtain ⟨h0, _⟩ := h1.heads
  have hr := h1.ltR
  have hl4 : M.length ≤ 400 := by omega
  by_cases hz0 : z < 0
  · have hz1 : ¬ 0 ≤ z := by omega
    clear h1 hM hl hz hT
    go_enter Tryz.func43, Tryz.ntmps43
    go_wp2_with fail
    go_ret
    exact ⟨rfl, rfl⟩
  · have hz1 : 0 ≤ z := by omega
    have hz2 : ¬ z < (M.length : Int) := by omega
    clear h1 hM hl hz hT
    go_enter Tryz.func43, Tryz.ntmps43
    go_wp2_with fail
    go_ret
    exact ⟨rfl, rfl⟩
def ErR (k : Int) (w : World) (e : Ending) (w' : World) : Prop := e = .returned (.int .i64 k) ∧ Below w.heap.size w w'
def ErR2 (k : Int) (w : World) (e : Ending) (w' : World) : Prop := e = .returned (.tuple #[.int .i64 0, .int .i64 k]) ∧ Below w.heap.size w w'
section
variable {w : World} {B R n : Nat} {τ : Nat → Nat} {T : List Nod}
theorem c_rMake_name (h : RS B R T n τ w) (s : ByteArray) (hs : s.size ≤ maxLen) (hn : isNm s = false) : Calls Tryz.prog 21 #[.pointer (some ⟨R, 0, none⟩), .int .i64 2, .string s] w (ErR2 3 w) := by
  have HNM := Lib.hid (c_IsName s w hs)
  rw [hn] at HNM
  clear h hn
  go_enter Tryz.func21, Tryz.ntmps21
  go_wp2_with (go_at_call 50; refine (HNM.out).mono ?_; rintro e w' ⟨rfl, rfl⟩)
  go_ret2
  exact ⟨rfl, Below.refl _ _⟩
theorem c_rMake_full (h : RS B R T n τ w) (hT : T.length = 400) (k : Int) (s : ByteArray) (hs : s.size ≤ maxLen) (hn : k = 2 → isNm s = true) : Calls Tryz.prog 21 #[.pointer (some ⟨R, 0, none⟩), .int .i64 k, .string s] w (ErR2 2 w) := by
  have HNM := Lib.hid (c_IsName s w hs)
  obtain ⟨L, cap, tv, xs, M, h1, hM⟩ := h
  have hlM : M.length = 400 := by rw [← hT, ← hM]; simp
  obtain ⟨g0, _⟩ := h1.heads
  have hr := h1.ltR
  rw [hlM] at g0
  by_cases hk : k = 2
  · subst hk
    rw [hn rfl] at HNM
    clear h1 hM hlM hT hn
    go_enter Tryz.func21, Tryz.ntmps21
    go_wp2_with (go_at_call 50; refine (HNM.out).mono ?_; rintro e w' ⟨rfl, rfl⟩)
    go_ret2
    exact ⟨rfl, Below.refl _ _⟩
  · have hk2 : (k == 2) = false := by rw [beq_eq_false_iff_ne]; exact hk
    clear h1 hM hlM hT hn hk
    go_enter Tryz.func21, Tryz.ntmps21
    go_wp2_with (go_at_call 50; refine (HNM.out).mono ?_; rintro e w' ⟨rfl, rfl⟩)
    go_ret2
    exact ⟨rfl, Below.refl _ _⟩
theorem c_rMake_long (h : RS B R T n τ w) (hT : T.length < 400) (k : Int) (s : ByteArray) (hs : s.size ≤ maxLen) (hk : k ≠ 2) (hl : 20000 < s.size) : Calls Tryz.prog 21 #[.pointer (some ⟨R, 0, none⟩), .int .i64 k, .string s] w (ErR2 2 w) := by
  have HNM := Lib.hid (c_IsName s w hs)
  obtain ⟨L, cap, tv, xs, M, h1, hM⟩ := h
  have hlM : M.length = T.length := by rw [← hM]; simp
  have hl4 : ¬ (400 : Int) ≤ (M.length : Int) := by omega
  have hl5 : (20000 : Int) < (s.size : Int) := by omega
  obtain ⟨g0, _⟩ := h1.heads
  have hr := h1.ltR
  have hk2 : (k == 2) = false := by rw [beq_eq_false_iff_ne]; exact hk
  have hk3 : (k != 2) = true := by rw [bne_iff_ne]; exact hk
  unfold maxLen at hs
  have hs63 : (s.size : Int) ≤ 9223372036854775807 := by omega
  clear h1 hM hlM hT hk hl hs
  go_enter Tryz.func21, Tryz.ntmps21
  go_wp2_with (go_at_call 50; refine (HNM.out).mono ?_; rintro e w' ⟨rfl, rfl⟩)
  go_ret2
  exact ⟨rfl, Below.refl _ _⟩
theorem c_rTake_no (h : RS B R T n τ w) (z : Int) (hz : z < 0 ∨ (T.length : Int) ≤ z) (hT : T.length ≤ 400) : Calls Tryz.prog 29 #[.pointer (some ⟨R, 0, none⟩), .int .i64 z] w (ErR 4 w) := by
  have HH := Lib.hid (c_rHasNo h z hz hT)
  clear h hz
  go_enter Tryz.func29, Tryz.ntmps29
  go_wp2_with (go_at_call 43; refine (HH.out).mono ?_; rintro e w' ⟨rfl, rfl⟩)
  go_ret
  exact ⟨rfl, Below.refl _ _⟩
theorem c_rTake_free (h : RS B R T n τ w) {i : Nat} (hi : i < T.length) (hT : T.length ≤ 400) (hp : (ndA T i).pa < 0) : Calls Tryz.prog 29 #[.pointer (some ⟨R, 0, none⟩), .int .i64 (i : Int)] w (ErR 5 w) := by
  have HH := Lib.hid (c_rHas h i hi hT)
  obtain ⟨L, cap, tv, xs, M, h1, hM⟩ := h
  have hlM : M.length = T.length := by rw [← hM]; simp
  obtain ⟨z, hz, hzx⟩ := nv_get hM (ndA_get hi)
  obtain ⟨g0, _⟩ := h1.heads
  have hr := h1.ltR
  have hrL := h1.ltL
  obtain ⟨_, _, a4, _⟩ := h1.cell hz
  have hii : (i : Int) < (M.length : Int) := by omega
  have hl4 : M.length ≤ 400 := by omega
  obtain ⟨pz, hpz⟩ : ∃ pz, pz = z.x.pa := ⟨_, rfl⟩
  rw [← hpz] at a4
  have hp0 : pz < 0 := by rw [hpz, hzx]; exact hp
  clear h1 hM hlM hz hzx hT hi hpz hp
  go_enter Tryz.func29, Tryz.ntmps29
  go_wp2_with (go_at_call 43; refine (HH.out).mono ?_; rintro e w' ⟨rfl, rfl⟩)
  go_ret
  exact ⟨rfl, Below.refl _ _⟩
theorem c_rSay_no (h : RS B R T n τ w) (z : Int) (hz : z < 0 ∨ (T.length : Int) ≤ z) (hT : T.length ≤ 400) (s : ByteArray) : Calls Tryz.prog 34 #[.pointer (some ⟨R, 0, none⟩), .int .i64 z, .string s] w (ErR 4 w) := by
  have HH := Lib.hid (c_rHasNo h z hz hT)
  clear h hz
  go_enter Tryz.func34, Tryz.ntmps34
  go_wp2_with (go_at_call 43; refine (HH.out).mono ?_; rintro e w' ⟨rfl, rfl⟩)
  go_ret
  exact ⟨rfl, Below.refl _ _⟩
theorem c_rSet_no (h : RS B R T n τ w) (z : Int) (hz : z < 0 ∨ (T.length : Int) ≤ z) (hT : T.length ≤ 400) (s t : ByteArray) (b : Bool) : Calls Tryz.prog 31 #[.pointer (some ⟨R, 0, none⟩), .int .i64 z, .string s, .string t, .bool b] w (ErR 4 w) := by
  have HH := Lib.hid (c_rHasNo h z hz hT)
  clear h hz
  go_enter Tryz.func31, Tryz.ntmps31
  go_wp2_with (go_at_call 43; refine (HH.out).mono ?_; rintro e w' ⟨rfl, rfl⟩)
  go_ret
  exact ⟨rfl, Below.refl _ _⟩
theorem c_rCopy_no (h : RS B R T n τ w) (z : Int) (hz : z < 0 ∨ (T.length : Int) ≤ z) (hT : T.length ≤ 400) : Calls Tryz.prog 36 #[.pointer (some ⟨R, 0, none⟩), .int .i64 z] w (ErR2 4 w) := by
  have HH := Lib.hid (c_rHasNo h z hz hT)
  clear h hz
  go_enter Tryz.func36, Tryz.ntmps36
  go_wp2_with (go_at_call 43; refine (HH.out).mono ?_; rintro e w' ⟨rfl, rfl⟩)
  go_ret2
  exact ⟨rfl, Below.refl _ _⟩
theorem c_rCopy_root (h : RS B R T n τ w) (h0 : 0 < T.length) (hT : T.length ≤ 400) : Calls Tryz.prog 36 #[.pointer (some ⟨R, 0, none⟩), .int .i64 0] w (ErR2 5 w) := by
  have HH : Hid (Calls Tryz.prog 43 #[.pointer (some ⟨R, 0, none⟩), .int .i64 0] w fun e w' => e = .returned (.bool true) ∧ w = w') := c_rHas h 0 h0 hT
  clear h
  go_enter Tryz.func36, Tryz.ntmps36
  go_wp2_with (go_at_call 43; refine (HH.out).mono ?_; rintro e w' ⟨rfl, rfl⟩)
  go_ret2
  exact ⟨rfl, Below.refl _ _⟩
theorem c_rPut_no1 (h : RS B R T n τ w) (a i z : Int) (ha : a < 0 ∨ (T.length : Int) ≤ a) (hT : T.length ≤ 400) (hi : (0 ≤ i ∧ i < (T.length : Int)) ∨ (i < 0 ∨ (T.length : Int) ≤ i)) : Calls Tryz.prog 27 #[.pointer (some ⟨R, 0, none⟩), .int .i64 a, .int .i64 i, .int .i64 z] w (ErR 4 w) := by
  have HH := Lib.hid (c_rHasNo h a ha hT)
  have HI : Hid (∃ b, Calls Tryz.prog 43 #[.pointer (some ⟨R, 0, none⟩), .int .i64 i] w fun e w' => e = .returned (.bool b) ∧ w = w') := by
    rcases hi with ⟨h1, h2⟩ | h1
    · obtain ⟨q, rfl⟩ := Int.eq_ofNat_of_zero_le h1
      exact ⟨true, c_rHas h q (by omega) hT⟩
    · exact ⟨false, c_rHasNo h i h1 hT⟩
  obtain ⟨b, hb⟩ := HI.out
  have HB := Lib.hid hb
  clear h ha hi HI hb
  go_enter Tryz.func27, Tryz.ntmps27
  go_wp2_with (go_at_call 43; first | ((with_reducible refine (HH.out).mono ?_); rintro e w' ⟨rfl, rfl⟩) | ((with_reducible refine (HB.out).mono ?_); rintro e w' ⟨rfl, rfl⟩))
  go_ret
  exact ⟨rfl, Below.refl _ _⟩
theorem c_rPut_no2 (h : RS B R T n τ w) {p : Nat} (i z : Int) (hp : p < T.length) (hT : T.length ≤ 400) (hi : i < 0 ∨ (T.length : Int) ≤ i) : Calls Tryz.prog 27 #[.pointer (some ⟨R, 0, none⟩), .int .i64 (p : Int), .int .i64 i, .int .i64 z] w (ErR 4 w) := by
  have HH := Lib.hid (c_rHas h p hp hT)
  have HB := Lib.hid (c_rHasNo h i hi hT)
  clear h hp hi
  go_enter Tryz.func27, Tryz.ntmps27
  go_wp2_with (go_at_call 43; first | ((with_reducible refine (HH.out).mono ?_); rintro e w' ⟨rfl, rfl⟩) | ((with_reducible refine (HB.out).mono ?_); rintro e w' ⟨rfl, rfl⟩))
  go_ret
  exact ⟨rfl, Below.refl _ _⟩
end
end Go.Proofs.YtimlmekgapdkiaaGreatDoor
namespace Go.Proofs.YtimlmekgapdkiaaGreatDoor
set_option linter.unusedVariables false
set_option linter.unusedSimpArgs false
open Go.RowKit Go.Cas

section
variable {w : World} {B R n i : Nat} {τ : Nat → Nat} {T : List Nod}
theorem c_rSay_bad (h : RS B R T n τ w) (hi : i < T.length) (hT : T.length ≤ 400) (s : ByteArray) (hk3 : (ndA T i).k ≠ 3) (hk4 : (ndA T i).k ≠ 4) : Calls Tryz.prog 34 #[.pointer (some ⟨R, 0, none⟩), .int .i64 (i : Int), .string s] w (ErR 5 w) := by
  have HH := Lib.hid (c_rHas h i hi hT)
  obtain ⟨L, cap, tv, xs, M, h1, hM⟩ := h
  have hlM : M.length = T.length := by rw [← hM]; simp
  obtain ⟨y, hy, hyx⟩ := nv_get hM (ndA_get hi)
  obtain ⟨g0, _⟩ := h1.heads
  have hr := h1.ltR
  have hrL := h1.ltL
  obtain ⟨⟨a0, _, _⟩, _⟩ := h1.cell hy
  have hii : (i : Int) < (M.length : Int) := by omega
  have hl4 : M.length ≤ 400 := by omega
  obtain ⟨xk, hxk⟩ : ∃ xk, xk = y.x.k := ⟨_, rfl⟩
  rw [← hxk] at a0
  have b3 : (xk != 3) = true := by rw [bne_iff_ne, hxk, hyx]; exact hk3
  have b4 : (xk != 4) = true := by rw [bne_iff_ne, hxk, hyx]; exact hk4
  clear h1 hM hlM hy hyx hxk hT hi hk3 hk4
  go_enter Tryz.func34, Tryz.ntmps34
  go_wp2_with (go_at_call 43; refine (HH.out).mono ?_; rintro e w' ⟨rfl, rfl⟩)
  go_ret
  exact ⟨rfl, Below.refl _ _⟩
theorem c_rSay_long (h : RS B R T n τ w) (hi : i < T.length) (hT : T.length ≤ 400) (s : ByteArray) (hk : (ndA T i).k = 3 ∨ (ndA T i).k = 4) (hs : 20000 < s.size) (hs2 : s.size ≤ maxLen) : Calls Tryz.prog 34 #[.pointer (some ⟨R, 0, none⟩), .int .i64 (i : Int), .string s] w (ErR 2 w) := by
  have HH := Lib.hid (c_rHas h i hi hT)
  obtain ⟨L, cap, tv, xs, M, h1, hM⟩ := h
  have hlM : M.length = T.length := by rw [← hM]; simp
  obtain ⟨y, hy, hyx⟩ := nv_get hM (ndA_get hi)
  obtain ⟨g0, _⟩ := h1.heads
  have hr := h1.ltR
  have hrL := h1.ltL
  obtain ⟨⟨a0, _, _⟩, _⟩ := h1.cell hy
  have hii : (i : Int) < (M.length : Int) := by omega
  have hl4 : M.length ≤ 400 := by omega
  have hsz : (20000 : Int) < (s.size : Int) := by omega
  rw [← hyx] at hk
  obtain ⟨xk, hxk⟩ : ∃ xk, xk = y.x.k := ⟨_, rfl⟩
  rw [← hxk] at a0 hk
  clear h1 hM hlM hy hyx hxk hT hi hs hs2
  rcases hk with rfl | rfl
  all_goals
    go_enter Tryz.func34, Tryz.ntmps34
    go_wp2_with (go_at_call 43; refine (HH.out).mono ?_; rintro e w' ⟨rfl, rfl⟩)
    go_ret
    exact ⟨rfl, Below.refl _ _⟩
theorem c_rSet_kind (h : RS B R T n τ w) (hi : i < T.length) (hT : T.length ≤ 400) (nm v : ByteArray) (b : Bool) (hk : (ndA T i).k ≠ 2) : Calls Tryz.prog 31 #[.pointer (some ⟨R, 0, none⟩), .int .i64 (i : Int), .string nm, .string v, .bool b] w (ErR 5 w) := by
  have HH := Lib.hid (c_rHas h i hi hT)
  obtain ⟨L, cap, tv, xs, M, h1, hM⟩ := h
  have hlM : M.length = T.length := by rw [← hM]; simp
  obtain ⟨y, hy, hyx⟩ := nv_get hM (ndA_get hi)
  obtain ⟨g0, _⟩ := h1.heads
  have hr := h1.ltR
  have hrL := h1.ltL
  obtain ⟨⟨a0, _, _⟩, _⟩ := h1.cell hy
  have hii : (i : Int) < (M.length : Int) := by omega
  have hl4 : M.length ≤ 400 := by omega
  obtain ⟨xk, hxk⟩ : ∃ xk, xk = y.x.k := ⟨_, rfl⟩
  rw [← hxk] at a0
  have b2 : (xk != 2) = true := by rw [bne_iff_ne, hxk, hyx]; exact hk
  clear h1 hM hlM hy hyx hxk hT hi hk
  go_enter Tryz.func31, Tryz.ntmps31
  go_wp2_with (go_at_call 43; refine (HH.out).mono ?_; rintro e w' ⟨rfl, rfl⟩)
  go_ret
  exact ⟨rfl, Below.refl _ _⟩
theorem c_rSet_name (h : RS B R T n τ w) (hi : i < T.length) (hT : T.length ≤ 400) (hF : FewT T) (nm v : ByteArray) (hs : nm.size ≤ maxLen) (hk : (ndA T i).k = 2) (hnm : isNm nm = false) : Calls Tryz.prog 31 #[.pointer (some ⟨R, 0, none⟩), .int .i64 (i : Int), .string nm, .string v, .bool false] w (ErR 3 w) := by
  have HH := Lib.hid (c_rHas h i hi hT)
  have HNM := Lib.hid (c_IsName nm w hs)
  rw [hnm] at HNM
  obtain ⟨L, cap, tv, xs, M, h1, hM⟩ := h
  have hlM : M.length = T.length := by rw [← hM]; simp
  obtain ⟨y, hy, hyx⟩ := nv_get hM (ndA_get hi)
  have hfy := hF.few hM y (List.mem_of_getElem? hy)
  have HAT := Lib.hid (c_rAt (s := nm) (RdS.of_own (h1.at_ i y hy)) (by omega) (Nat.le_refl _))
  obtain ⟨g0, _⟩ := h1.heads
  have hr := h1.ltR
  have hrL := h1.ltL
  obtain ⟨⟨a0, _, _⟩, a3, _⟩ := h1.cell hy
  rw [hyx, hk] at a0
  have hii : (i : Int) < (M.length : Int) := by omega
  have hl4 : M.length ≤ 400 := by omega
  clear h1 hM hlM hy hyx hfy hF hT hi hk hnm
  go_enter Tryz.func31, Tryz.ntmps31
  go_wp2_with (first
    | (go_at_call 43; refine (HH.out).mono ?_; rintro e w' ⟨rfl, rfl⟩)
    | (go_at_call 44; refine (HAT.out).mono ?_; rintro e w' ⟨rfl, rfl⟩)
    | (go_at_call 50; refine (HNM.out).mono ?_; rintro e w' ⟨rfl, rfl⟩))
  go_ret
  exact ⟨rfl, Below.refl _ _⟩
theorem c_rSet_long (h : RS B R T n τ w) (hi : i < T.length) (hT : T.length ≤ 400) (hF : FewT T) (nm v : ByteArray) (hs : nm.size ≤ maxLen) (hk : (ndA T i).k = 2) (hnm : isNm nm = true) (hv : 20000 < v.size) : Calls Tryz.prog 31 #[.pointer (some ⟨R, 0, none⟩), .int .i64 (i : Int), .string nm, .string v, .bool false] w (ErR 2 w) := by
  have HH := Lib.hid (c_rHas h i hi hT)
  have HNM := Lib.hid (c_IsName nm w hs)
  rw [hnm] at HNM
  obtain ⟨L, cap, tv, xs, M, h1, hM⟩ := h
  have hlM : M.length = T.length := by rw [← hM]; simp
  obtain ⟨y, hy, hyx⟩ := nv_get hM (ndA_get hi)
  have hfy := hF.few hM y (List.mem_of_getElem? hy)
  have HAT := Lib.hid (c_rAt (s := nm) (RdS.of_own (h1.at_ i y hy)) (by omega) (Nat.le_refl _))
  obtain ⟨g0, _⟩ := h1.heads
  have hr := h1.ltR
  have hrL := h1.ltL
  obtain ⟨⟨a0, _, _⟩, a3, _⟩ := h1.cell hy
  rw [hyx, hk] at a0
  have hii : (i : Int) < (M.length : Int) := by omega
  have hl4 : M.length ≤ 400 := by omega
  have hsz : (20000 : Int) < (v.size : Int) := by omega
  clear h1 hM hlM hy hyx hfy hF hT hi hk hnm hv
  go_enter Tryz.func31, Tryz.ntmps31
  go_wp2_with (first
    | (go_at_call 43; refine (HH.out).mono ?_; rintro e w' ⟨rfl, rfl⟩)
    | (go_at_call 44; refine (HAT.out).mono ?_; rintro e w' ⟨rfl, rfl⟩)
    | (go_at_call 50; refine (HNM.out).mono ?_; rintro e w' ⟨rfl, rfl⟩))
  go_ret
  exact ⟨rfl, Below.refl _ _⟩
theorem c_rDrop_no (h : RS B R T n τ w) (hi : i < T.length) (hT : T.length ≤ 400) (hF : FewT T) (nm v : ByteArray) (hk : (ndA T i).k = 2) (hf : fnd (ndA T i).at_ nm = -1) : Calls Tryz.prog 31 #[.pointer (some ⟨R, 0, none⟩), .int .i64 (i : Int), .string nm, .string v, .bool true] w (ErR 3 w) := by
  have HH := Lib.hid (c_rHas h i hi hT)
  obtain ⟨L, cap, tv, xs, M, h1, hM⟩ := h
  have hlM : M.length = T.length := by rw [← hM]; simp
  obtain ⟨y, hy, hyx⟩ := nv_get hM (ndA_get hi)
  have hfy := hF.few hM y (List.mem_of_getElem? hy)
  have hat := c_rAt (s := nm) (RdS.of_own (h1.at_ i y hy)) (by omega) (Nat.le_refl _)
  rw [hyx, hf] at hat
  have HAT := Lib.hid hat
  obtain ⟨g0, _⟩ := h1.heads
  have hr := h1.ltR
  have hrL := h1.ltL
  obtain ⟨⟨a0, _, _⟩, a3, _⟩ := h1.cell hy
  rw [hyx, hk] at a0
  have hii : (i : Int) < (M.length : Int) := by omega
  have hl4 : M.length ≤ 400 := by omega
  clear h1 hM hlM hy hyx hfy hF hT hi hk hf hat
  go_enter Tryz.func31, Tryz.ntmps31
  go_wp2_with (first
    | (go_at_call 43; refine (HH.out).mono ?_; rintro e w' ⟨rfl, rfl⟩)
    | (go_at_call 44; refine (HAT.out).mono ?_; rintro e w' ⟨rfl, rfl⟩))
  go_ret
  exact ⟨rfl, Below.refl _ _⟩
theorem c_rPut_root (h : RS B R T n τ w) {p : Nat} (z : Int) (hp : p < T.length) (h0 : 0 < T.length) (hT : T.length ≤ 400) : Calls Tryz.prog 27 #[.pointer (some ⟨R, 0, none⟩), .int .i64 (p : Int), .int .i64 0, .int .i64 z] w (ErR 5 w) := by
  have HH1 := Lib.hid (c_rHas h p hp hT)
  have HH2 : Hid (Calls Tryz.prog 43 #[.pointer (some ⟨R, 0, none⟩), .int .i64 0] w fun e w' => e = .returned (.bool true) ∧ w = w') := c_rHas h 0 h0 hT
  obtain ⟨L, cap, tv, xs, M, h1, hM⟩ := h
  have hlM : M.length = T.length := by rw [← hM]; simp
  obtain ⟨y, hy, hyx⟩ := nv_get hM (ndA_get hp)
  obtain ⟨g0, _⟩ := h1.heads
  have hr := h1.ltR
  have hrL := h1.ltL
  obtain ⟨⟨a0, _, _⟩, _⟩ := h1.cell hy
  have hpi : (p : Int) < (M.length : Int) := by omega
  have h0p : 0 ≤ (p : Int) := by omega
  have hl4 : M.length ≤ 400 := by omega
  clear h1 hM hy hyx hT hlM hp
  go_enter Tryz.func27, Tryz.ntmps27
  go_wp2_with (go_at_call 43; first | ((with_reducible refine (HH1.out).mono ?_); rintro e w' ⟨rfl, rfl⟩) | ((with_reducible refine (HH2.out).mono ?_); rintro e w' ⟨rfl, rfl⟩))
  go_ret
  exact ⟨rfl, Below.refl _ _⟩
theorem c_rPut_kind (h : RS B R T n τ w) {p : Nat} (at_ : Int) (hT : T.length ≤ 400) (hp : p < T.length) (hi : i < T.length) (hi0 : i ≠ 0) (hk : (ndA T p).k = 3 ∨ (ndA T p).k = 4) :
    Calls Tryz.prog 27 #[.pointer (some ⟨R, 0, none⟩), .int .i64 (p : Int), .int .i64 (i : Int), .int .i64 at_] w (ErR 5 w) := by
  have HH1 := Lib.hid (c_rHas h p hp hT)
  have HH2 := Lib.hid (c_rHas h i hi hT)
  obtain ⟨L, cap, tv, xs, M, h1, hM⟩ := h
  have hlM : M.length = T.length := by rw [← hM]; simp
  obtain ⟨y, hy, hyx⟩ := nv_get hM (ndA_get hp)
  obtain ⟨g0, _⟩ := h1.heads
  have hr := h1.ltR
  have hrL := h1.ltL
  obtain ⟨⟨a0, _, _⟩, _⟩ := h1.cell hy
  rw [← hyx] at hk
  have bi0 : ((i : Int) == 0) = false := by rw [beq_eq_false_iff_ne]; omega
  have hpi : (p : Int) < (M.length : Int) := by omega
  have h0p : 0 ≤ (p : Int) := by omega
  have hl4 : M.length ≤ 400 := by omega
  obtain ⟨xk, hxk⟩ : ∃ xk, xk = y.x.k := ⟨_, rfl⟩
  rw [← hxk] at a0 hk
  clear h1 hM hy hyx hxk hi hT hlM hi0 hp
  rcases hk with rfl | rfl
  all_goals
    go_enter Tryz.func27, Tryz.ntmps27
    go_wp2_with (go_at_call 43; first | ((with_reducible refine (HH1.out).mono ?_); rintro e w' ⟨rfl, rfl⟩) | ((with_reducible refine (HH2.out).mono ?_); rintro e w' ⟨rfl, rfl⟩))
    go_ret
    exact ⟨rfl, Below.refl _ _⟩
theorem c_rPut_ring (h : RS B R T n τ w) {p : Nat} {d : Nat → Nat} (at_ : Int) (hW : WF T d) (hT : T.length ≤ 400) (hp : p < T.length) (hi : i < T.length) (hi0 : i ≠ 0) (hk3 : (ndA T p).k ≠ 3) (hk4 : (ndA T p).k ≠ 4) (hna : Anc T i p) :
    Calls Tryz.prog 27 #[.pointer (some ⟨R, 0, none⟩), .int .i64 (p : Int), .int .i64 (i : Int), .int .i64 at_] w (ErR 5 w) := by
  have HH1 := Lib.hid (c_rHas h p hp hT)
  have HH2 := Lib.hid (c_rHas h i hi hT)
  have hin := c_rin (i := i) h hW hT hp
  rw [show ancB T i p = true by simp [ancB, hna]] at hin
  have HIN := Lib.hid hin
  obtain ⟨L, cap, tv, xs, M, h1, hM⟩ := h
  have hlM : M.length = T.length := by rw [← hM]; simp
  obtain ⟨y, hy, hyx⟩ := nv_get hM (ndA_get hp)
  obtain ⟨g0, _⟩ := h1.heads
  have hr := h1.ltR
  have hrL := h1.ltL
  obtain ⟨⟨a0, _, _⟩, _⟩ := h1.cell hy
  have bi0 : ((i : Int) == 0) = false := by rw [beq_eq_false_iff_ne]; omega
  have hpi : (p : Int) < (M.length : Int) := by omega
  have h0p : 0 ≤ (p : Int) := by omega
  have hl4 : M.length ≤ 400 := by omega
  obtain ⟨xk, hxk⟩ : ∃ xk, xk = y.x.k := ⟨_, rfl⟩
  rw [← hxk] at a0
  have b3 : (xk == 3) = false := by rw [beq_eq_false_iff_ne, hxk, hyx]; exact hk3
  have b4 : (xk == 4) = false := by rw [beq_eq_false_iff_ne, hxk, hyx]; exact hk4
  clear h1 hM hy hyx hxk hi hT hlM hi0 hp hin hna hW hk3 hk4
  go_enter Tryz.func27, Tryz.ntmps27
  go_wp2_with (first
    | (go_at_call 43; first | ((with_reducible refine (HH1.out).mono ?_); rintro e w' ⟨rfl, rfl⟩) | ((with_reducible refine (HH2.out).mono ?_); rintro e w' ⟨rfl, rfl⟩))
    | (go_at_call 58; refine (HIN.out).mono ?_; rintro e w' ⟨rfl, rfl⟩))
  go_ret
  exact ⟨rfl, Below.refl _ _⟩
theorem c_rPut_place (h : RS B R T n τ w) {p : Nat} {d : Nat → Nat} (at_ : Int) (hW : WF T d) (hT : T.length ≤ 400) (hp : p < T.length) (hi : i < T.length) (hi0 : i ≠ 0) (hk3 : (ndA T p).k ≠ 3) (hk4 : (ndA T p).k ≠ 4) (hna : ¬ Anc T i p) (hm : at_ < 0 ∨ ((wo (ndA T p).ki i).length : Int) < at_) :
    Calls Tryz.prog 27 #[.pointer (some ⟨R, 0, none⟩), .int .i64 (p : Int), .int .i64 (i : Int), .int .i64 at_] w (ErR 5 w) := by
  have HH1 := Lib.hid (c_rHas h p hp hT)
  have HH2 := Lib.hid (c_rHas h i hi hT)
  have hin := c_rin (i := i) h hW hT hp
  rw [ancB_false.2 hna] at hin
  have HIN := Lib.hid hin
  have hkl : (ndA T p).ki.length ≤ 400 := by
    have := nodup_lt _ _ (hW.nd p hp) (fun x hx => (hW.ki p hp x hx).1)
    omega
  obtain ⟨L, cap, tv, xs, M, h1, hM⟩ := h
  have hlM : M.length = T.length := by rw [← hM]; simp
  obtain ⟨y, hy, hyx⟩ := nv_get hM (ndA_get hp)
  have hrd := (h1.ki p y hy).toS (lim := w.heap.size) (fun k hz => (h1.tB k (by rw [show τ k = 4 from hz]; omega)).2)
  obtain ⟨_, A, c, hvk, _, _⟩ := id hrd
  obtain ⟨N0, hN0⟩ : ∃ N0, N0 = y.x.ki.length := ⟨_, rfl⟩
  rw [hvk, ← hN0] at hrd
  have hcw := c_without (x := i) hrd (by rw [hN0, hyx]; omega) (Nat.le_refl _)
  rw [hyx] at hcw
  have HCW := Lib.hid hcw
  obtain ⟨g0, _⟩ := h1.heads
  have hr := h1.ltR
  have hrL := h1.ltL
  obtain ⟨⟨a0, _, _⟩, _, _, a5⟩ := h1.cell hy
  rw [hvk, ← hN0] at a5
  have bi0 : ((i : Int) == 0) = false := by rw [beq_eq_false_iff_ne]; omega
  have hpi : (p : Int) < (M.length : Int) := by omega
  have h0p : 0 ≤ (p : Int) := by omega
  have hl4 : M.length ≤ 400 := by omega
  obtain ⟨xk, hxk⟩ : ∃ xk, xk = y.x.k := ⟨_, rfl⟩
  rw [← hxk] at a0
  have b3 : (xk == 3) = false := by rw [beq_eq_false_iff_ne, hxk, hyx]; exact hk3
  have b4 : (xk == 4) = false := by rw [beq_eq_false_iff_ne, hxk, hyx]; exact hk4
  obtain ⟨N, hN⟩ : ∃ N, N = (wo (ndA T p).ki i).length := ⟨_, rfl⟩
  rw [← hN] at hm
  have HN := Lib.hid hN
  clear h1 hM hy hyx hxk hi hT hlM hi0 hp hin hna hW hk3 hk4 hrd hvk hN0 hcw hN hkl
  rcases hm with hm | hm
  all_goals
    go_enter Tryz.func27, Tryz.ntmps27
    go_wp2_with (first
      | (go_at_call 43; first | ((with_reducible refine (HH1.out).mono ?_); rintro e w' ⟨rfl, rfl⟩) | ((with_reducible refine (HH2.out).mono ?_); rintro e w' ⟨rfl, rfl⟩))
      | (go_at_call 58; refine (HIN.out).mono ?_; rintro e w' ⟨rfl, rfl⟩)
      | (go_at_call 59; refine (HCW.out).mono ?_; rintro e w1 ⟨v, rfl, ho1, hb1⟩; have HB1 := Lib.hid hb1; obtain ⟨_, A1, c1, e1, hc1, _⟩ := RdS.of_own ho1; rw [← HN.out] at e1; obtain rfl := e1; clear ho1 hb1 hc1))
    go_ret
    exact ⟨rfl, HB1.out⟩
end
end Go.Proofs.YtimlmekgapdkiaaGreatDoor
