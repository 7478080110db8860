/- the tree: what looks at a node; whether two lists are the same -/
import Derived.Test.YtimlmekgapdkiaaGreatDoorTmu
namespace Go.Proofs.YtimlmekgapdkiaaGreatDoor
set_option linter.unusedVariables false
set_option linter.unusedSimpArgs false
open Go.RowKit Go.Cas

theorem c_Kind {w : World} {B R : Nat} {F : Nat → Prop} {T : List Nod} {D : List (Value × List Nod)} {i : Nat} {x : Nod} (h : TS B R T D F w) (hT : T.length ≤ 400) (hx : T[i]? = some x) :
    Calls Tryz.prog 10 #[.pointer (some ⟨R, 0, none⟩), .int .i64 (i : Int)] w fun e w' => e = .returned (.int .i64 x.k) ∧ w = w' := by
  obtain ⟨L, cap, uv, Z, M, h1, hM, _⟩ := h.ns
  obtain ⟨y, hy, rfl⟩ := nv_get hM hx
  have hl : M.length ≤ 400 := by rw [← hM] at hT; simpa using hT
  have hi := (List.getElem?_eq_some_iff.1 hy).1
  have HI := Lib.hid (c_is_yes h1 i hi hl)
  obtain ⟨g0, _⟩ := h1.heads
  have hr := h1.ltR
  have hrL := h1.ltL
  obtain ⟨⟨a0, _, _⟩, _⟩ := h1.cell hy
  have hii : (i : Int) < (M.length : Int) := by omega
  clear h h1 hM hx hy
  go_enter Tryz.func10, Tryz.ntmps10
  go_wp2_with (go_at_call 45; refine (HI.out).mono ?_; rintro e w' ⟨rfl, rfl⟩)
  go_ret
  exact ⟨rfl, rfl⟩

theorem c_Tag {w : World} {B R : Nat} {F : Nat → Prop} {T : List Nod} {D : List (Value × List Nod)} {i : Nat} {x : Nod} (h : TS B R T D F w) (hT : T.length ≤ 400) (hx : T[i]? = some x) :
    Calls Tryz.prog 11 #[.pointer (some ⟨R, 0, none⟩), .int .i64 (i : Int)] w fun e w' => e = .returned (.string x.tag) ∧ w = w' := by
  obtain ⟨L, cap, uv, Z, M, h1, hM, _⟩ := h.ns
  obtain ⟨y, hy, rfl⟩ := nv_get hM hx
  have hl : M.length ≤ 400 := by rw [← hM] at hT; simpa using hT
  have hi := (List.getElem?_eq_some_iff.1 hy).1
  have HI := Lib.hid (c_is_yes h1 i hi hl)
  obtain ⟨g0, _⟩ := h1.heads
  have hr := h1.ltR
  have hrL := h1.ltL
  obtain ⟨⟨_, a1, _⟩, _⟩ := h1.cell hy
  have hii : (i : Int) < (M.length : Int) := by omega
  clear h h1 hM hx hy
  go_enter Tryz.func11, Tryz.ntmps11
  go_wp2_with (go_at_call 45; refine (HI.out).mono ?_; rintro e w' ⟨rfl, rfl⟩)
  go_ret
  exact ⟨rfl, rfl⟩

theorem c_Words {w : World} {B R : Nat} {F : Nat → Prop} {T : List Nod} {D : List (Value × List Nod)} {i : Nat} {x : Nod} (h : TS B R T D F w) (hT : T.length ≤ 400) (hx : T[i]? = some x) :
    Calls Tryz.prog 12 #[.pointer (some ⟨R, 0, none⟩), .int .i64 (i : Int)] w fun e w' => e = .returned (.string x.txt) ∧ w = w' := by
  obtain ⟨L, cap, uv, Z, M, h1, hM, _⟩ := h.ns
  obtain ⟨y, hy, rfl⟩ := nv_get hM hx
  have hl : M.length ≤ 400 := by rw [← hM] at hT; simpa using hT
  have hi := (List.getElem?_eq_some_iff.1 hy).1
  have HI := Lib.hid (c_is_yes h1 i hi hl)
  obtain ⟨g0, _⟩ := h1.heads
  have hr := h1.ltR
  have hrL := h1.ltL
  obtain ⟨⟨_, _, a2⟩, _⟩ := h1.cell hy
  have hii : (i : Int) < (M.length : Int) := by omega
  clear h h1 hM hx hy
  go_enter Tryz.func12, Tryz.ntmps12
  go_wp2_with (go_at_call 45; refine (HI.out).mono ?_; rintro e w' ⟨rfl, rfl⟩)
  go_ret
  exact ⟨rfl, rfl⟩

theorem c_Size {w : World} {B R : Nat} {F : Nat → Prop} {T : List Nod} {D : List (Value × List Nod)} (h : TS B R T D F w) :
    Calls Tryz.prog 9 #[.pointer (some ⟨R, 0, none⟩)] w fun e w' => e = .returned (.int .i64 (T.length : Int)) ∧ w = w' := by
  obtain ⟨L, cap, uv, Z, M, h1, hM, _⟩ := h.ns
  have hl : M.length = T.length := by rw [← hM]; simp
  obtain ⟨g0, _⟩ := h1.heads
  have hr := h1.ltR
  rw [hl] at g0
  clear h h1 hM
  go_enter Tryz.func9, Tryz.ntmps9
  go_wp2_with fail
  go_ret
  exact ⟨rfl, rfl⟩
theorem c_Attrs {w : World} {B R : Nat} {F : Nat → Prop} {T : List Nod} {D : List (Value × List Nod)} {i : Nat} {x : Nod} (h : TS B R T D F w) (hT : T.length ≤ 400) (hx : T[i]? = some x) (hk : x.at_.length ≤ 1000000) :
    Calls Tryz.prog 15 #[.pointer (some ⟨R, 0, none⟩), .int .i64 (i : Int)] w (ClRetA w x.at_.length (atc x.at_)) := by
  obtain ⟨L, cap, uv, Z, M, h1, hM, _⟩ := h.ns
  obtain ⟨y, hy, rfl⟩ := nv_get hM hx
  have hl : M.length ≤ 400 := by rw [← hM] at hT; simpa using hT
  have hi := (List.getElem?_eq_some_iff.1 hy).1
  have HI := Lib.hid (c_is_yes h1 i hi hl)
  obtain ⟨g0, _⟩ := h1.heads
  have hr := h1.ltR
  have hrL := h1.ltL
  obtain ⟨_, a3, _, _⟩ := h1.cell hy
  have hii : (i : Int) < (M.length : Int) := by omega
  have hrd := (h1.rd y (List.mem_of_getElem? hy)).1.toS (fun k hz => (h1.z k hz).2.1)
  have HC := Lib.hid (c_CloneA hrd (one_atc _) (by omega) (Nat.le_refl _))
  clear h h1 hM hx hy hrd hk
  go_enter Tryz.func15, Tryz.ntmps15
  go_wp2_with (first | (go_at_call 45; refine (HI.out).mono ?_; rintro e w' ⟨rfl, rfl⟩) | (go_at_call 46; refine (HC.out).mono ?_; rintro e w' ⟨v, rfl, h1, h2⟩; have H1 := Lib.hid h1; have H2 := Lib.hid h2; clear h1 h2))
  go_ret
  exact ⟨_, rfl, H1.out, H2.out⟩
theorem rdI_at {w : World} {lim n k : Nat} {A : Option Addr} {c : Nat} {l : List Nat} {x : Nat} (h : RdS w lim 1 (.slice A n c) n (kic l)) (hp : l[k]? = some x) : ∃ g o, A = some ⟨g, o, none⟩ ∧ g < lim ∧ w.cell? ⟨g, o + k, none⟩ = some (.int .i64 (x : Int)) := by
  have hl : l.length = n := by have := h.1; rw [kic_len] at this; omega
  have hk := (List.getElem?_eq_some_iff.1 hp).1
  obtain ⟨_, A', c', e, _, hc⟩ := h
  injection e with e1 _ e2
  subst e1 e2
  obtain ⟨g, o, e, hg, hcell⟩ := hc (by omega)
  exact ⟨g, o, e, hg, hcell k _ (by simp [kic, hp])⟩

set_option maxRecDepth 100000 in
set_option maxHeartbeats 4000000 in
theorem c_sameInts {w : World} {n lim : Nat} {v v2 : Value} {l : List Nat} (h : RdS w lim 1 v n (kic l)) (h2 : RdS w lim 1 v2 n (kic l)) (hn : n ≤ 1000000000) (hlim : lim ≤ w.heap.size) :
    Calls Tryz.prog 16 #[v, v2] w fun e w' => e = .returned (.bool true) ∧ Below w.heap.size w w' := by
  have H := Lib.hid h
  have H2 := Lib.hid h2
  have hll : l.length = n := by have := h.1; rw [kic_len] at this; omega
  obtain ⟨_, A, c, rfl, _, _⟩ := h
  obtain ⟨_, A2, c2, rfl, _, _⟩ := h2
  have HL := Lib.hid hll
  clear hll
  go_enter Tryz.func16, Tryz.ntmps16
  go_wp2_with fail
  go_loopw [5] (fun i wr => ∃ (k m : Nat), k ≤ n ∧ i = .int .i64 k ∧ wr = w.drewN m) (fun i _ => n - (intOf i).toNat)
  case atStart => exact ⟨0, 0, by omega, rfl, rfl⟩
  case round =>
    obtain ⟨k, m, hk, rfl, rfl⟩ := hrel
    by_cases hlt : k < n
    · have hik : (k : Int) < (n : Int) := by omega
      obtain ⟨x, hx⟩ : ∃ x, l[k]? = some x := ⟨_, List.getElem?_eq_getElem (by have := HL.out; omega)⟩
      obtain ⟨g, o, rfl, hg, c1⟩ := rdI_at H.out hx
      obtain ⟨g2, o2, rfl, hg2, c2⟩ := rdI_at H2.out hx
      clear hx
      go_upto_region 6 with fail
      go_quiet (fail)
      go_wp2_with fail
      go_roundw
      case rel => exact ⟨k + 1, m + nq, by omega, by go_num, rfl⟩
      case measure => simp [intOf]; omega
    · obtain rfl : k = n := by omega
      go_wp2_with fail
      go_ret
      exact ⟨rfl, bl_drewN (Below.refl _ _) m⟩

set_option maxRecDepth 100000 in
set_option maxHeartbeats 4000000 in
theorem c_sameAttrs {w : World} {n lim : Nat} {v v2 : Value} {l : List (ByteArray × ByteArray)} (h : RdS w lim 2 v n (atc l)) (h2 : RdS w lim 2 v2 n (atc l)) (hn : n ≤ 1000000000) (hlim : lim ≤ w.heap.size) :
    Calls Tryz.prog 14 #[v, v2] w fun e w' => e = .returned (.bool true) ∧ Below w.heap.size w w' := by
  have H := Lib.hid h
  have H2 := Lib.hid h2
  have hll : l.length = n := by have := h.1; rw [atc_len] at this; omega
  obtain ⟨_, A, c, rfl, _, _⟩ := h
  obtain ⟨_, A2, c2, rfl, _, _⟩ := h2
  have HL := Lib.hid hll
  clear hll
  go_enter Tryz.func14, Tryz.ntmps14
  go_wp2_with fail
  go_loopw [5] (fun i wr => ∃ (k m : Nat), k ≤ n ∧ i = .int .i64 k ∧ wr = w.drewN m) (fun i _ => n - (intOf i).toNat)
  case atStart => exact ⟨0, 0, by omega, rfl, rfl⟩
  case round =>
    obtain ⟨k, m, hk, rfl, rfl⟩ := hrel
    by_cases hlt : k < n
    · have hik : (k : Int) < (n : Int) := by omega
      obtain ⟨⟨pa, pv⟩, hx⟩ : ∃ x, l[k]? = some x := ⟨_, List.getElem?_eq_getElem (by have := HL.out; omega)⟩
      obtain ⟨g, o, rfl, hg, hc⟩ := rd_at H.out hx
      obtain ⟨c1, c2⟩ := hc w (Below.refl _ _)
      obtain ⟨g2, o2, rfl, hg2, hc2⟩ := rd_at H2.out hx
      obtain ⟨c3, c4⟩ := hc2 w (Below.refl _ _)
      clear hx hc hc2
      go_upto_region 6 with fail
      go_quiet (fail)
      go_wp2_with fail
      go_roundw
      case rel => exact ⟨k + 1, m + nq, by omega, by go_num, rfl⟩
      case measure => simp [intOf]; omega
    · obtain rfl : k = n := by omega
      go_wp2_with fail
      go_ret
      exact ⟨rfl, bl_drewN (Below.refl _ _) m⟩

end Go.Proofs.YtimlmekgapdkiaaGreatDoor
