/- the document's tree: whether there is a node; where a name stands; whether one lies in another -/
import Derived.Test.YtimlmekgapdkiaaDoorUd
import Derived.Test.YtimlmekgapdkiaaDoorTmj
namespace Go.Proofs.YtimlmekgapdkiaaDoor
set_option linter.unusedVariables false
set_option linter.unusedSimpArgs false
open Go.RowKit Go.Cas

theorem c_rHas {w : World} {B R n : Nat} {τ : Nat → Nat} {T : List Nod} (h : RS B R T n τ w) (i : Nat) (hi : i < T.length) (hT : T.length ≤ 400) :
    Calls Tryd.prog 73 #[.pointer (some ⟨R, 0, none⟩), .int .i64 (i : Int)] w fun e w' => e = .returned (.bool true) ∧ w = w' := by
  obtain ⟨L, cap, tv, xs, M, h1, hM⟩ := h
  have hl : M.length = T.length := by rw [← hM]; simp
  obtain ⟨h0, _⟩ := h1.heads
  have hr := h1.ltR
  have hii : (i : Int) < (M.length : Int) := by omega
  have hl4 : M.length ≤ 400 := by omega
  clear h1 hM hl hi hT
  go_enter Tryd.func73, Tryd.ntmps73
  go_wp2_with fail
  go_ret
  exact ⟨rfl, rfl⟩
set_option maxRecDepth 100000 in
set_option maxHeartbeats 4000000 in
theorem c_rAt {w : World} {lim n : Nat} {v : Value} {l : List (ByteArray × ByteArray)} {s : ByteArray} (h : RdS w lim 2 v n (atc l)) (hn : n ≤ 1000000000) (hlim : lim ≤ w.heap.size) :
    Calls Tryd.prog 92 #[v, .string s] w fun e w' => e = .returned (.int .i64 (fnd l s)) ∧ w = w' := by
  have H := Lib.hid h
  have hll : l.length = n := by have := h.1; rw [atc_len] at this; omega
  obtain ⟨_, A, c, rfl, _, _⟩ := h
  have HL := Lib.hid hll
  clear hll
  go_enter Tryd.func92, Tryd.ntmps92
  go_wp2_with fail
  go_loop [5] (fun i => ∃ (k : Nat), k ≤ n ∧ i = .int .i64 k ∧ Hid (∀ j q, j < k → l[j]? = some q → q.1 ≠ s)) (fun i => n - (intOf i).toNat)
  case atStart => exact ⟨0, by omega, rfl, fun j q hj => by omega⟩
  case round =>
    obtain ⟨k, hk, rfl, HA⟩ := hrel
    by_cases hlt : k < n
    · have hik : (k : Int) < (n : Int) := by omega
      obtain ⟨⟨pa, pv⟩, hp⟩ : ∃ p, l[k]? = some p := ⟨_, List.getElem?_eq_getElem (by have := HL.out; omega)⟩
      have HP := Lib.hid hp
      obtain ⟨g, o, rfl, hg, hc⟩ := rd_at H.out hp
      obtain ⟨d0, d1⟩ := hc w (Below.refl _ _)
      have hbs := beq_str pa s
      by_cases he : pa = s
      · have HF : Hid (fnd l s = (k : Int)) := fnd_hit l s k _ HP.out he HA.out
        rw [decide_eq_true he] at hbs
        clear hp hc d1 he
        go_wp2_with fail
        all_goals
          first
            | (go_ret; exact ⟨ret_int HF.out.symm, rfl⟩)
      · have HE := Lib.hid he
        rw [decide_eq_false he] at hbs
        clear hp hc d1
        go_wp2_with fail
        go_round
        case rel =>
          refine ⟨k + 1, by omega, by go_num, fun j q hj hq => ?_⟩
          by_cases hjk : j = k
          · subst hjk
            have := HP.out
            rw [hq] at this
            rw [Option.some.inj this]; exact HE.out
          · exact HA.out j q (by omega) hq
        case measure => simp [intOf]; omega
    · obtain rfl : k = n := by omega
      have HF : Hid (fnd l s = -1) := fnd_miss l s (fun j q hq => HA.out j q (by have := (List.getElem?_eq_some_iff.1 hq).1; have := HL.out; omega) hq)
      go_wp2_with fail
      go_ret
      exact ⟨ret_int HF.out.symm, rfl⟩
set_option maxRecDepth 100000 in
set_option maxHeartbeats 4000000 in
theorem c_rin {w : World} {B R i p n : Nat} {τ : Nat → Nat} {T : List Nod} {d : Nat → Nat} (h : RS B R T n τ w) (hW : WF T d) (hT : T.length ≤ 400) (hp : p < T.length) :
    Calls Tryd.prog 93 #[.pointer (some ⟨R, 0, none⟩), .int .i64 (p : Int), .int .i64 (i : Int)] w fun e w' => e = .returned (.bool (ancB T i p)) ∧ w = w' := by
  obtain ⟨L, cap, tv, xs, M, h1, hM⟩ := h
  have hl : M.length = T.length := by rw [← hM]; simp
  obtain ⟨g0, _⟩ := h1.heads
  have hr := h1.ltR
  have hrL := h1.ltL
  have H1 := Lib.hid h1
  have HM := Lib.hid hM
  have HW := Lib.hid hW
  have HLL := Lib.hid hl
  have hl4 : M.length ≤ 400 := by omega
  have hpM : p < M.length := by omega
  clear h1 hM hW hl hT hp
  go_enter Tryd.func93, Tryd.ntmps93
  go_wp2_with fail
  go_loop [1] (fun c => ∃ (a : Int), c = .int .i64 a ∧ Hid ((a < 0 ∧ ¬ Anc T i p) ∨ (∃ q : Nat, a = (q : Int) ∧ q < M.length ∧ (Anc T i q ↔ Anc T i p)))) (fun c => wm d (intOf c))
  case atStart => exact ⟨(p : Int), rfl, .inr ⟨p, rfl, hpM, Iff.rfl⟩⟩
  case round =>
    obtain ⟨a, rfl, HR⟩ := hrel
    by_cases ha : a < 0
    · have ha2 : ¬ 0 ≤ a := by omega
      have HF : Hid (ancB T i p = false) := by
        rcases HR.out with ⟨_, h⟩ | ⟨q, e, _⟩
        · exact ancB_false.2 h
        · omega
      clear ha
      go_wp2_with fail
      go_ret
      exact ⟨ret_bool HF.out.symm, rfl⟩
    · obtain ⟨q, rfl, hq, hiff⟩ : ∃ q : Nat, a = (q : Int) ∧ q < M.length ∧ (Anc T i q ↔ Anc T i p) := by
        rcases HR.out with ⟨e, _⟩ | h
        · omega
        · exact h
      have HI := Lib.hid hiff
      obtain ⟨y, hy⟩ : ∃ y, M[q]? = some y := ⟨_, List.getElem?_eq_getElem hq⟩
      have HY := Lib.hid hy
      obtain ⟨_, _, a4, _⟩ := H1.out.cell hy
      have hqi : (q : Int) < (M.length : Int) := by omega
      have h0q : 0 ≤ (q : Int) := by omega
      have hyx : ndA T q = y.x := ndA_eq (by rw [← HM.out, List.getElem?_map, HY.out]; rfl)
      have HYX := Lib.hid hyx
      by_cases he : q = i
      · have HF : Hid (ancB T i p = true) := ancB_true.2 (HI.out.1 (by rw [he]; exact .refl))
        have hei : (q : Int) = (i : Int) := by omega
        have hei2 : ((q : Int) == (i : Int)) = true := by rw [beq_iff_eq]; exact hei
        clear hiff hy hyx ha
        go_wp2_with fail
        go_ret
        exact ⟨ret_bool HF.out.symm, rfl⟩
      · have hei : ¬ (q : Int) = (i : Int) := by omega
        have hei2 : ((q : Int) == (i : Int)) = false := by rw [beq_eq_false_iff_ne]; exact hei
        have HNE := Lib.hid he
        obtain ⟨pa, hpa⟩ : ∃ pa, pa = y.x.pa := ⟨_, rfl⟩
        have HPA := Lib.hid hpa
        rw [← hpa] at a4
        clear hiff hy hyx ha hpa he
        go_wp2_with fail
        go_round
        case rel =>
          refine ⟨pa, rfl, ?_⟩
          by_cases h0 : pa < 0
          · refine .inl ⟨h0, fun h => anc_root ?_ HNE.out (HI.out.2 h)⟩
            rw [HYX.out, ← HPA.out]; exact h0
          · have hqT : q < T.length := by have := HLL.out; omega
            have hpq : (ndA T q).pa = ((pa.toNat : Nat) : Int) := by rw [HYX.out, ← HPA.out]; omega
            refine .inr ⟨pa.toNat, by omega, ?_, ?_⟩
            · rcases HW.out.pa q hqT with e | ⟨_, e⟩
              · omega
              · rw [hpq] at e; have := HLL.out; omega
            · exact (anc_up hpq HNE.out).symm.trans HI.out
        case measure =>
          show wm d pa < wm d (q : Int)
          unfold wm
          rw [if_neg (by omega : ¬ (q : Int) < 0)]
          by_cases h0 : pa < 0
          · rw [if_pos h0]; omega
          · rw [if_neg h0]
            have hqT : q < T.length := by have := HLL.out; omega
            have := HW.out.ac q hqT (by rw [HYX.out, ← HPA.out]; omega)
            rw [HYX.out, ← HPA.out] at this
            have e : ((q : Int)).toNat = q := rfl
            rw [e]; omega
end Go.Proofs.YtimlmekgapdkiaaDoor
