/- few twigs; the law TreeOrders -/
import Derived.Test.YtimlmekgapdkiaaDoorTms
namespace Go.Proofs.YtimlmekgapdkiaaDoor
set_option linter.unusedVariables false
set_option linter.unusedSimpArgs false
open Go.RowKit Go.Cas

def FewX (x : Twg) : Prop := x.txt.size ≤ 300 ∧ x.tag.size ≤ 60 ∧ x.at_.length ≤ 8 ∧ x.ki.length ≤ 60 ∧ ∀ p ∈ x.at_, p.2.size ≤ 300 ∧ p.1.size ≤ 60
def FewP (l : List Twg) : Prop := l.length ≤ 60 ∧ ∀ x ∈ l, FewX x
def FwRet (l : List Twg) (w : World) (e : Ending) (w' : World) : Prop := ∃ b, e = .returned (.bool b) ∧ (b = true → FewP l) ∧ w = w'
theorem FwRet.no (l : List Twg) (w : World) : FwRet l w (.returned (.bool false)) w := ⟨false, rfl, (fun h => by cases h), rfl⟩
set_option maxRecDepth 100000 in
set_option maxHeartbeats 16000000 in
theorem c_few {w : World} {v : Value} {n : Nat} {L : List TwV} (hr : RdT w w.heap.size v n L) (hn : L.length = n) (hn2 : n ≤ maxLen) (hm : ∀ y ∈ L, y.x.at_.length ≤ maxLen ∧ y.x.ki.length ≤ maxLen) : Calls Tryd.prog 11 #[v] w (FwRet (L.map TwV.x) w) := by
  have HR := Lib.hid hr
  have HN := Lib.hid hn
  have HM := Lib.hid hm
  obtain ⟨⟨_, A, c, rfl, _, _⟩, _⟩ := hr
  unfold maxLen at hn2
  have hni : (n : Int) ≤ 9223372036854775807 := by omega
  clear hn hn2 hm
  by_cases h60 : (n : Int) ≤ 60
  case neg =>
    go_enter Tryd.func11, Tryd.ntmps11
    go_wp2_with fail
    go_ret
    exact FwRet.no _ _
  go_enter Tryd.func11, Tryd.ntmps11
  go_wp2_with fail
  go_loop [3, 4] (fun a _ => ∃ (k : Nat), a = .int .i64 (k : Int) ∧ k ≤ n ∧ Hid (∀ x ∈ (L.map TwV.x).take k, FewX x)) (fun a _ => n - (intOf a).toNat)
  case atStart => exact ⟨0, rfl, by omega, fun x hx => by simp at hx⟩
  case round =>
    obtain ⟨k, rfl, hk, HF⟩ := hrel
    have h0k : 0 ≤ (k : Int) := by omega
    by_cases hlt : k < n
    · have hik : (k : Int) < (n : Int) := by omega
      obtain ⟨y, hy⟩ : ∃ y, L[k]? = some y := ⟨_, List.getElem?_eq_getElem (by have := HN.out; omega)⟩
      obtain ⟨g, o, rfl, hg, hcell⟩ := rd_tw HR.out.1 hy
      obtain ⟨_, d1, d2, d3, d4⟩ := hcell w (Below.refl _ _)
      have hyR := HR.out.2 y (List.mem_of_getElem? hy)
      have HYR := Lib.hid hyR
      have HY := Lib.hid hy
      obtain ⟨⟨_, A3, c3, e3, _, _⟩, ⟨_, A4, c4, e4, _, _⟩, ⟨ht1, ht2⟩, _⟩ := hyR
      rw [e3] at d3
      rw [e4] at d4
      have HE3 := Lib.hid e3
      obtain ⟨hma, hmk⟩ := HM.out y (List.mem_of_getElem? hy)
      unfold maxLen at hma hmk
      have m1 : (y.x.at_.length : Int) ≤ 9223372036854775807 := by omega
      have m2 : (y.x.ki.length : Int) ≤ 9223372036854775807 := by omega
      unfold maxLen at ht1 ht2
      have s1 : (y.x.tag.size : Int) ≤ 9223372036854775807 := by omega
      have s2 : (y.x.txt.size : Int) ≤ 9223372036854775807 := by omega
      clear hcell hy e3 e4 hma hmk ht1 ht2
      by_cases f1 : (y.x.txt.size : Int) ≤ 300
      case neg =>
        go_wp2_with fail
        go_ret
        exact FwRet.no _ _
      by_cases f2 : (y.x.tag.size : Int) ≤ 60
      case neg =>
        go_wp2_with fail
        go_ret
        exact FwRet.no _ _
      by_cases f3 : (y.x.at_.length : Int) ≤ 8
      case neg =>
        go_wp2_with fail
        go_ret
        exact FwRet.no _ _
      by_cases f4 : (y.x.ki.length : Int) ≤ 60
      case neg =>
        go_wp2_with fail
        go_ret
        exact FwRet.no _ _
      go_wp2_with fail
      go_loop [4] (fun a => ∃ (m : Nat), a = .int .i64 (m : Int) ∧ m ≤ y.x.at_.length ∧ Hid (∀ q ∈ y.x.at_.take m, q.2.size ≤ 300 ∧ q.1.size ≤ 60)) (fun a => y.x.at_.length - (intOf a).toNat)
      case atStart => exact ⟨0, rfl, by omega, fun x hx => by simp at hx⟩
      case round =>
        obtain ⟨m, rfl, hm, HQ⟩ := hrel
        have h0m : 0 ≤ (m : Int) := by omega
        by_cases hml : m < y.x.at_.length
        · have hmi : (m : Int) < (y.x.at_.length : Int) := by omega
          obtain ⟨⟨pn, pv⟩, hq⟩ : ∃ q, y.x.at_[m]? = some q := ⟨_, List.getElem?_eq_getElem hml⟩
          have hrA := HYR.out.1
          rw [HE3.out] at hrA
          obtain ⟨ga, oa, rfl, hga, hca⟩ := rd_at hrA hq
          obtain ⟨a0, a1⟩ := hca w (Below.refl _ _)
          have hsz : pn.size ≤ maxLen ∧ pv.size ≤ maxLen := HYR.out.2.2.2.1 (pn, pv) (List.mem_of_getElem? hq)
          unfold maxLen at hsz
          have z1 : (pn.size : Int) ≤ 9223372036854775807 := by have := hsz.1; omega
          have z2 : (pv.size : Int) ≤ 9223372036854775807 := by have := hsz.2; omega
          have HQQ := Lib.hid hq
          clear hrA hca hsz hq
          by_cases f5 : (pv.size : Int) ≤ 300
          case neg =>
            go_wp2_with fail
            go_ret
            exact FwRet.no _ _
          by_cases f6 : (pn.size : Int) ≤ 60
          case neg =>
            go_wp2_with fail
            go_ret
            exact FwRet.no _ _
          go_wp2_with fail
          go_round
          case rel =>
            refine ⟨m + 1, by go_num, by omega, fun q hq => ?_⟩
            rw [List.take_add_one, HQQ.out] at hq
            rcases List.mem_append.1 hq with h | h
            · exact HQ.out q h
            · simp at h; subst h; exact ⟨show pv.size ≤ 300 by omega, show pn.size ≤ 60 by omega⟩
          case measure => simp [intOf]; omega
        · have hmi : ¬ (m : Int) < (y.x.at_.length : Int) := by omega
          go_wp2_with fail
          go_round
          case rel =>
            refine ⟨k + 1, by go_num, by omega, fun x hx => ?_⟩
            rw [List.take_add_one, List.getElem?_map, HY.out] at hx
            rcases List.mem_append.1 hx with h | h
            · exact HF.out x h
            · simp at h
              subst h
              refine ⟨by omega, by omega, by omega, by omega, fun q hq => HQ.out q ?_⟩
              rw [List.take_of_length_le (by omega)]; exact hq
          case measure => simp [intOf]; omega
    · have hik : ¬ (k : Int) < (n : Int) := by omega
      go_wp2_with fail
      go_ret
      refine ⟨true, rfl, fun _ => ⟨by rw [List.length_map, HN.out]; omega, fun x hx => HF.out x ?_⟩, rfl⟩
      rw [List.take_of_length_le (by rw [List.length_map, HN.out]; omega)]; exact hx
end Go.Proofs.YtimlmekgapdkiaaDoor
