/- few twigs, of the laws of events -/
import Derived.Test.YtimlmekgapdkiaaDoorTmv
namespace Go.Proofs.YtimlmekgapdkiaaDoor
set_option linter.unusedVariables false
set_option linter.unusedSimpArgs false
open Go.RowKit Go.Cas

def F5Ret (l : List Twg) (w : World) (e : Ending) (w' : World) : Prop := ∃ b, e = .returned (.bool b) ∧ (b = true → FewP l) ∧ Below w.heap.size w w'
theorem F5Ret.no (l : List Twg) {w w' : World} (h : Below w.heap.size w w') : F5Ret l w (.returned (.bool false)) w' := ⟨false, rfl, (fun h => by cases h), h⟩
set_option maxRecDepth 100000 in
set_option maxHeartbeats 16000000 in
theorem c_fewPg {w W : World} {A : Option Addr} {c n : Nat} {L : List TwV} (hr : RdT w w.heap.size (.slice A n c) n L) (hn : L.length = n) (hn2 : n ≤ maxLen) (hm : ∀ y ∈ L, y.x.at_.length ≤ maxLen ∧ y.x.ki.length ≤ maxLen) (hb : Below w.heap.size w W) :
    Calls Tryd.prog 69 #[.agg #[.slice A n c, .string (ByteArray.mk #[]), .slice none 0 0, .int .i64 0, .int .i64 0]] W (F5Ret (L.map TwV.x) w) := by
  have HR := Lib.hid hr
  have HN := Lib.hid hn
  have HM := Lib.hid hm
  have HW := Lib.hid hb
  unfold maxLen at hn2
  have hni : (n : Int) ≤ 9223372036854775807 := by omega
  clear hn hn2 hm hr hb
  have HB1 : Hid (Below w.heap.size w (W.alloc (.cells #[.slice A n c, .string (ByteArray.mk #[]), .slice none 0 0, .int .i64 0, .int .i64 0] 119))) := bl_alloc HW.out _
  have HPC : Hid (∀ W', Below (W.heap.size + 1) (W.alloc (.cells #[.slice A n c, .string (ByteArray.mk #[]), .slice none 0 0, .int .i64 0, .int .i64 0] 119)) W' → W'.cell? ⟨W.heap.size, 0, none⟩ = some (.slice A n c) ∧ W'.cell? ⟨W.heap.size, 1, none⟩ = some (.string (ByteArray.mk #[])) ∧ W'.cell? ⟨W.heap.size, 2, none⟩ = some (.slice none 0 0)) := fun W' h => by
    have hbk : Bk W' W.heap.size 119 #[.slice A n c, .string (ByteArray.mk #[]), .slice none 0 0, .int .i64 0, .int .i64 0] := (bk_new' W 119 #[.slice A n c, .string (ByteArray.mk #[]), .slice none 0 0, .int .i64 0, .int .i64 0] rfl).below h (by omega)
    exact ⟨hbk.cell 0, hbk.cell 1, hbk.cell 2⟩
  go_enter Tryd.func69, Tryd.ntmps69
  obtain ⟨W1, hW1⟩ : ∃ W1, W1 = W.alloc (.cells #[.slice A n c, .string (ByteArray.mk #[]), .slice none 0 0, .int .i64 0, .int .i64 0] 119) := ⟨_, rfl⟩
  have HWS : Hid (W1.heap.size = W.heap.size + 1) := by unfold Hid; rw [hW1]; simp
  rw [← hW1] at HB1 HPC
  have hps : W.heap.size < W1.heap.size := by have := HWS.out; omega
  obtain ⟨p0, p1, p2⟩ := HPC.out W1 (Below.refl _ _)
  go_upto_region 1 with fail
  rw [← hW1]
  clear hW1
  go_wp2_with fail
  refine wp_loop_rounds 1 ?_
  rw [rounds_succ]
  by_cases h24 : (n : Int) ≤ 24
  case neg =>
    go_wp2_with fail
    go_ret
    exact F5Ret.no _ HB1.out
  go_wp2_with fail
  clear p1 p2 p0
  go_loopw [5] (fun a wr => ∃ (k : Nat), a = .int .i64 (k : Int) ∧ k ≤ n ∧ Hid (∀ x ∈ (L.map TwV.x).take k, FewX x) ∧ Hid (Below (W.heap.size + 1) W1 wr)) (fun a _ => n - (intOf a).toNat)
  case atStart => exact ⟨0, rfl, by omega, fun x hx => by simp at hx, Below.refl _ _⟩
  case round =>
    obtain ⟨k, rfl, hk, HF, HB⟩ := hrel
    have h0k : 0 ≤ (k : Int) := by omega
    have HBR : Hid (Below w.heap.size w wr) := HB1.out.trans (HB.out.mono (by have := HW.out.size; omega))
    obtain ⟨p0, p1, p2⟩ := HPC.out wr HB.out
    have hpr : W.heap.size < wr.heap.size := Nat.lt_of_lt_of_le hps HB.out.size
    by_cases hlt : k < n
    · have hik : (k : Int) < (n : Int) := by omega
      obtain ⟨y, hy⟩ : ∃ y, L[k]? = some y := ⟨_, List.getElem?_eq_getElem (by have := HN.out; omega)⟩
      obtain ⟨g, o, rfl, hg, hcell⟩ := rd_tw HR.out.1 hy
      obtain ⟨d0, d1, d2, d3, d4⟩ := hcell wr HBR.out
      have hgr : g < wr.heap.size := Nat.lt_of_lt_of_le hg HBR.out.size
      have hyR := HR.out.2 y (List.mem_of_getElem? hy)
      have HYR := Lib.hid hyR
      have HY := Lib.hid hy
      obtain ⟨⟨_, A3, c3, e3, _, _⟩, ⟨_, A4, c4, e4, _, _⟩, ⟨ht1, ht2⟩, _⟩ := hyR
      rw [e3] at d3
      rw [e4] at d4
      have HE3 := Lib.hid e3
      obtain ⟨hma, hmk⟩ := HM.out y (List.mem_of_getElem? hy)
      unfold maxLen at hma hmk
      have m1 : (y.x.at_.length : Int) ≤ 9223372036854775807 := by omega
      have m2 : (y.x.ki.length : Int) ≤ 9223372036854775807 := by omega
      unfold maxLen at ht1 ht2
      have s1 : (y.x.tag.size : Int) ≤ 9223372036854775807 := by omega
      have s2 : (y.x.txt.size : Int) ≤ 9223372036854775807 := by omega
      clear hcell hy e3 e4 hma hmk ht1 ht2
      go_upto_region 12 with fail
      have HBK : Hid (Bk (wr.alloc (.cells #[.int .i64 y.x.k, .string y.x.tag, .string y.x.txt, .slice A3 y.x.at_.length c3, .slice A4 y.x.ki.length c4] 86)) wr.heap.size 86 #[.int .i64 y.x.k, .string y.x.tag, .string y.x.txt, .slice A3 y.x.at_.length c3, .slice A4 y.x.ki.length c4]) := Bk.new _ _ _
      have HB2 : Hid (Below w.heap.size w (wr.alloc (.cells #[.int .i64 y.x.k, .string y.x.tag, .string y.x.txt, .slice A3 y.x.at_.length c3, .slice A4 y.x.ki.length c4] 86))) := bl_alloc HBR.out _
      have HB3 : Hid (Below (W.heap.size + 1) W1 (wr.alloc (.cells #[.int .i64 y.x.k, .string y.x.tag, .string y.x.txt, .slice A3 y.x.at_.length c3, .slice A4 y.x.ki.length c4] 86))) := HB.out.alloc (by omega) _
      obtain ⟨W2, hW2⟩ : ∃ W2, W2 = wr.alloc (.cells #[.int .i64 y.x.k, .string y.x.tag, .string y.x.txt, .slice A3 y.x.at_.length c3, .slice A4 y.x.ki.length c4] 86) := ⟨_, rfl⟩
      obtain ⟨tb, htb⟩ : ∃ tb, tb = wr.heap.size := ⟨_, rfl⟩
      rw [← hW2, ← htb] at HBK
      rw [← hW2] at HB2 HB3
      rw [← hW2, ← htb]
      clear hW2 htb d0 d1 d2 d3 d4 hgr p0 p1 p2 hpr
      have q1 := HBK.out.cell 1; have q2 := HBK.out.cell 2; have q3 := HBK.out.cell 3; have q4 := HBK.out.cell 4; have q5 := HBK.out.lt
      simp only [List.getElem?_toArray, List.getElem?_cons_succ, List.getElem?_cons_zero] at q1 q2 q3 q4
      by_cases f1 : (y.x.txt.size : Int) ≤ 120
      case neg =>
        go_wp2_with fail
        go_ret
        exact F5Ret.no _ HB2.out
      by_cases f2 : (y.x.tag.size : Int) ≤ 60
      case neg =>
        go_wp2_with fail
        go_ret
        exact F5Ret.no _ HB2.out
      by_cases f3 : (y.x.at_.length : Int) ≤ 6
      case neg =>
        go_wp2_with fail
        go_ret
        exact F5Ret.no _ HB2.out
      by_cases f4 : (y.x.ki.length : Int) ≤ 40
      case neg =>
        go_wp2_with fail
        go_ret
        exact F5Ret.no _ HB2.out
      go_wp2_with fail
      go_loop [7] (fun a => ∃ (m : Nat), a = .int .i64 (m : Int) ∧ m ≤ y.x.at_.length ∧ Hid (∀ q ∈ y.x.at_.take m, q.2.size ≤ 300 ∧ q.1.size ≤ 60)) (fun a => y.x.at_.length - (intOf a).toNat)
      case atStart => exact ⟨0, rfl, by omega, fun x hx => by simp at hx⟩
      case round =>
        obtain ⟨m, rfl, hm, HQ⟩ := hrel
        have h0m : 0 ≤ (m : Int) := by omega
        by_cases hml : m < y.x.at_.length
        · have hmi : (m : Int) < (y.x.at_.length : Int) := by omega
          obtain ⟨⟨pn, pv⟩, hq⟩ : ∃ q, y.x.at_[m]? = some q := ⟨_, List.getElem?_eq_getElem hml⟩
          have hrA := HYR.out.1
          rw [HE3.out] at hrA
          obtain ⟨ga, oa, rfl, hga, hca⟩ := rd_at hrA hq
          obtain ⟨a0, a1⟩ := hca W2 HB2.out
          have hsz : pn.size ≤ maxLen ∧ pv.size ≤ maxLen := HYR.out.2.2.2.1 (pn, pv) (List.mem_of_getElem? hq)
          unfold maxLen at hsz
          have z1 : (pn.size : Int) ≤ 9223372036854775807 := by have := hsz.1; omega
          have z2 : (pv.size : Int) ≤ 9223372036854775807 := by have := hsz.2; omega
          have HQQ := Lib.hid hq
          clear hrA hca hsz hq
          by_cases f5 : (pv.size : Int) ≤ 300
          case neg =>
            go_wp2_with fail
            go_ret
            exact F5Ret.no _ HB2.out
          by_cases f6 : (pn.size : Int) ≤ 60
          case neg =>
            go_wp2_with fail
            go_ret
            exact F5Ret.no _ HB2.out
          go_wp2_with fail
          go_round
          case rel =>
            refine ⟨m + 1, by go_num, by omega, fun q hq => ?_⟩
            rw [List.take_add_one, HQQ.out] at hq
            rcases List.mem_append.1 hq with h | h
            · exact HQ.out q h
            · simp at h; subst h; exact ⟨show pv.size ≤ 300 by omega, show pn.size ≤ 60 by omega⟩
          case measure => simp [intOf]; omega
        · have hmi : ¬ (m : Int) < (y.x.at_.length : Int) := by omega
          go_wp2_with fail
          go_roundw
          case rel =>
            refine ⟨k + 1, by go_num, by omega, fun x hx => ?_, HB3.out⟩
            rw [List.take_add_one, List.getElem?_map, HY.out] at hx
            rcases List.mem_append.1 hx with h | h
            · exact HF.out x h
            · simp at h
              subst h
              refine ⟨by omega, by omega, by omega, by omega, fun q hq => HQ.out q ?_⟩
              rw [List.take_of_length_le (by omega)]; exact hq
          case measure => simp [intOf]; omega
    · have hik : ¬ (k : Int) < (n : Int) := by omega
      go_wp2_with fail
      go_ret
      refine ⟨true, rfl, fun _ => ⟨by rw [List.length_map, HN.out]; omega, fun x hx => HF.out x ?_⟩, HBR.out⟩
      rw [List.take_of_length_le (by rw [List.length_map, HN.out]; omega)]; exact hx
set_option maxRecDepth 100000 in
theorem c_few5 {w : World} {v : Value} {n : Nat} {L : List TwV} (hr : RdT w w.heap.size v n L) (hn : L.length = n) (hn2 : n ≤ maxLen) (hm : ∀ y ∈ L, y.x.at_.length ≤ maxLen ∧ y.x.ki.length ≤ maxLen) : Calls Tryd.prog 25 #[v] w (F5Ret (L.map TwV.x) w) := by
  have HR := Lib.hid hr
  obtain ⟨⟨_, A, c, rfl, _, _⟩, _⟩ := hr
  have HC := Lib.hid (c_fewPg HR.out hn hn2 hm (bl_alloc (Below.refl _ w) (.cells #[.slice A n c, .string (ByteArray.mk #[]), .slice none 0 0, .int .i64 0, .int .i64 0] 119)))
  clear hn hn2 hm
  go_enter Tryd.func25, Tryd.ntmps25
  go_wp2_with fail
  refine HC.out.mono ?_
  rintro e w' ⟨b, rfl, h1, h2⟩
  have H1 := Lib.hid h1
  have H2 := Lib.hid h2
  clear h1 h2
  go_wp2_with fail
  go_ret
  exact ⟨b, rfl, H1.out, H2.out⟩
end Go.Proofs.YtimlmekgapdkiaaDoor
