/- the tree: Set that fails; whether a node lies in another one -/
import Derived.Test.YtimlmekgapdkiaaDoorTmi
namespace Go.Proofs.YtimlmekgapdkiaaDoor
set_option linter.unusedVariables false
set_option linter.unusedSimpArgs false
open Go.RowKit Go.Cas

theorem c_Set_no {w : World} {B R : Nat} {F : Nat → Prop} {T : List Nod} {D : List (Value × List Nod)} {a : Int} {p : Nat → Addr} (h : TS B R T D F w) (hG : GE w B p) (hT : T.length ≤ 400) (ha : a < 0 ∨ (T.length : Int) ≤ a) (nm val : ByteArray) :
    Calls Tryd.prog 43 #[.pointer (some ⟨R, 0, none⟩), .int .i64 a, .string nm, .string val] w (ErrR p 4 w) := by
  have HE := Lib.hid (c_element_no h hG hT ha)
  unfold ErrR errV at HE
  clear h hG ha
  go_enter Tryd.func43, Tryd.ntmps43
  go_wp2_with (go_at_call 81; refine (HE.out).mono ?_; rintro e w' ⟨rfl, rfl⟩)
  go_ret
  exact ⟨rfl, rfl⟩
theorem c_Set_kind {w : World} {B R i : Nat} {F : Nat → Prop} {T : List Nod} {D : List (Value × List Nod)} {x : Nod} {p : Nat → Addr} (h : TS B R T D F w) (hG : GE w B p) (hT : T.length ≤ 400) (hx : T[i]? = some x) (hk : x.k ≠ 2) (nm val : ByteArray) :
    Calls Tryd.prog 43 #[.pointer (some ⟨R, 0, none⟩), .int .i64 (i : Int), .string nm, .string val] w (ErrR p 5 w) := by
  have HE := Lib.hid (c_element_kind h hG hT hx hk)
  unfold ErrR errV at HE
  clear h hG hx hk
  go_enter Tryd.func43, Tryd.ntmps43
  go_wp2_with (go_at_call 81; refine (HE.out).mono ?_; rintro e w' ⟨rfl, rfl⟩)
  go_ret
  exact ⟨rfl, rfl⟩
theorem c_Set_name {w : World} {B R i : Nat} {F : Nat → Prop} {T : List Nod} {D : List (Value × List Nod)} {x : Nod} {p : Nat → Addr} (h : TS B R T D F w) (hG : GE w B p) (hT : T.length ≤ 400) (hx : T[i]? = some x) (hk : x.k = 2) (nm val : ByteArray) (hs : nm.size ≤ maxLen) (hn : isNm nm = false) :
    Calls Tryd.prog 43 #[.pointer (some ⟨R, 0, none⟩), .int .i64 (i : Int), .string nm, .string val] w (ErrR p 3 w) := by
  have HE := Lib.hid (c_element h hT hx hk)
  have HNM := Lib.hid (c_Name nm w hs)
  rw [hn] at HNM
  have e1 := hG.name_
  have e2 : 2 < w.heap.size := by have := hG.lt; omega
  clear h hG hx hk hs hn
  go_enter Tryd.func43, Tryd.ntmps43
  go_wp2_with (first | (go_at_call 81; refine (HE.out).mono ?_; rintro e w' ⟨rfl, rfl⟩) | (go_at_call 63; refine (HNM.out).mono ?_; rintro e w' ⟨rfl, rfl⟩))
  go_ret
  exact ⟨rfl, rfl⟩
theorem c_Set_long {w : World} {B R i : Nat} {F : Nat → Prop} {T : List Nod} {D : List (Value × List Nod)} {x : Nod} {p : Nat → Addr} (h : TS B R T D F w) (hG : GE w B p) (hT : T.length ≤ 400) (hx : T[i]? = some x) (hk : x.k = 2) (nm val : ByteArray) (hs : nm.size ≤ maxLen) (hn : isNm nm = true) (hvs : val.size ≤ maxLen) (hv : 20000 < val.size) :
    Calls Tryd.prog 43 #[.pointer (some ⟨R, 0, none⟩), .int .i64 (i : Int), .string nm, .string val] w (ErrR p 2 w) := by
  have HE := Lib.hid (c_element h hT hx hk)
  have HNM := Lib.hid (c_Name nm w hs)
  rw [hn] at HNM
  have e1 := hG.bound
  have e2 : 3 < w.heap.size := by have := hG.lt; omega
  have q : (20000 : Int) < (val.size : Int) := by omega
  unfold maxLen at hvs
  clear h hG hx hk hs hn hv
  go_enter Tryd.func43, Tryd.ntmps43
  go_wp2_with (first | (go_at_call 81; refine (HE.out).mono ?_; rintro e w' ⟨rfl, rfl⟩) | (go_at_call 63; refine (HNM.out).mono ?_; rintro e w' ⟨rfl, rfl⟩))
  go_ret
  exact ⟨rfl, rfl⟩
/-- how far the way up is -/
def wm (d : Nat → Nat) (a : Int) : Nat := if a < 0 then 0 else d a.toNat + 1
set_option maxRecDepth 100000 in
set_option maxHeartbeats 4000000 in
theorem c_within {w : World} {B R i p : Nat} {F : Nat → Prop} {T : List Nod} {d : Nat → Nat} {D : List (Value × List Nod)} (h : TS B R T D F w) (hW : WF T d) (hT : T.length ≤ 400) (hp : p < T.length) :
    Calls Tryd.prog 85 #[.pointer (some ⟨R, 0, none⟩), .int .i64 (p : Int), .int .i64 (i : Int)] w fun e w' => e = .returned (.bool (ancB T i p)) ∧ w = w' := by
  obtain ⟨L, cap, uv, Z, M, h1, hM, _⟩ := h.ns
  have hl : M.length = T.length := by rw [← hM]; simp
  obtain ⟨g0, _⟩ := h1.heads
  have hr := h1.ltR
  have hrL := h1.ltL
  have H1 := Lib.hid h1
  have HM := Lib.hid hM
  have HW := Lib.hid hW
  have HLL := Lib.hid hl
  have hl4 : M.length ≤ 400 := by omega
  have hpM : p < M.length := by omega
  clear h h1 hM hW hl hT hp
  go_enter Tryd.func85, Tryd.ntmps85
  go_wp2_with fail
  go_loop [1] (fun c => ∃ (a : Int), c = .int .i64 a ∧ Hid ((a < 0 ∧ ¬ Anc T i p) ∨ (∃ q : Nat, a = (q : Int) ∧ q < M.length ∧ (Anc T i q ↔ Anc T i p)))) (fun c => wm d (intOf c))
  case atStart => exact ⟨(p : Int), rfl, .inr ⟨p, rfl, hpM, Iff.rfl⟩⟩
  case round =>
    obtain ⟨a, rfl, HR⟩ := hrel
    by_cases ha : a < 0
    · have ha2 : ¬ 0 ≤ a := by omega
      have HF : Hid (ancB T i p = false) := by
        rcases HR.out with ⟨_, h⟩ | ⟨q, e, _⟩
        · exact ancB_false.2 h
        · omega
      clear ha
      go_wp2_with fail
      go_ret
      exact ⟨ret_bool HF.out.symm, rfl⟩
    · obtain ⟨q, rfl, hq, hiff⟩ : ∃ q : Nat, a = (q : Int) ∧ q < M.length ∧ (Anc T i q ↔ Anc T i p) := by
        rcases HR.out with ⟨e, _⟩ | h
        · omega
        · exact h
      have HI := Lib.hid hiff
      obtain ⟨y, hy⟩ : ∃ y, M[q]? = some y := ⟨_, List.getElem?_eq_getElem hq⟩
      have HY := Lib.hid hy
      obtain ⟨_, _, a4, _⟩ := H1.out.cell hy
      have hqi : (q : Int) < (M.length : Int) := by omega
      have h0q : 0 ≤ (q : Int) := by omega
      have hyx : ndA T q = y.x := ndA_eq (by rw [← HM.out, List.getElem?_map, HY.out]; rfl)
      have HYX := Lib.hid hyx
      by_cases he : q = i
      · have HF : Hid (ancB T i p = true) := ancB_true.2 (HI.out.1 (by rw [he]; exact .refl))
        have hei : (q : Int) = (i : Int) := by omega
        have hei2 : ((q : Int) == (i : Int)) = true := by rw [beq_iff_eq]; exact hei
        clear hiff hy hyx ha
        go_wp2_with fail
        go_ret
        exact ⟨ret_bool HF.out.symm, rfl⟩
      · have hei : ¬ (q : Int) = (i : Int) := by omega
        have hei2 : ((q : Int) == (i : Int)) = false := by rw [beq_eq_false_iff_ne]; exact hei
        have HNE := Lib.hid he
        obtain ⟨pa, hpa⟩ : ∃ pa, pa = y.x.pa := ⟨_, rfl⟩
        have HPA := Lib.hid hpa
        rw [← hpa] at a4
        clear hiff hy hyx ha hpa he
        go_wp2_with fail
        go_round
        case rel =>
          refine ⟨pa, rfl, ?_⟩
          by_cases h0 : pa < 0
          · refine .inl ⟨h0, fun h => anc_root ?_ HNE.out (HI.out.2 h)⟩
            rw [HYX.out, ← HPA.out]; exact h0
          · have hqT : q < T.length := by have := HLL.out; omega
            have hpq : (ndA T q).pa = ((pa.toNat : Nat) : Int) := by rw [HYX.out, ← HPA.out]; omega
            refine .inr ⟨pa.toNat, by omega, ?_, ?_⟩
            · rcases HW.out.pa q hqT with e | ⟨_, e⟩
              · omega
              · rw [hpq] at e; have := HLL.out; omega
            · exact (anc_up hpq HNE.out).symm.trans HI.out
        case measure =>
          show wm d pa < wm d (q : Int)
          unfold wm
          rw [if_neg (by omega : ¬ (q : Int) < 0)]
          by_cases h0 : pa < 0
          · rw [if_pos h0]; omega
          · rw [if_neg h0]
            have hqT : q < T.length := by have := HLL.out; omega
            have := HW.out.ac q hqT (by rw [HYX.out, ← HPA.out]; omega)
            rw [HYX.out, ← HPA.out] at this
            have e : ((q : Int)).toNat = q := rfl
            rw [e]; omega
end Go.Proofs.YtimlmekgapdkiaaDoor
