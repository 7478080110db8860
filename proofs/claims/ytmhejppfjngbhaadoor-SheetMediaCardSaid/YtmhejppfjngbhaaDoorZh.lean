/- sheets: components trimmed; tokens between commas: the document's -/
import Derived.Test.YtmhejppfjngbhaaDoorZg
import Derived.Test.YtmhejppfjngbhaaDoorZc
namespace Go.Proofs.YtmhejppfjngbhaaDoor
set_option linter.unusedVariables false
set_option linter.unusedSimpArgs false
open Go.RowKit Go.Cas

set_option maxHeartbeats 16000000 in
set_option maxRecDepth 100000 in
theorem c_rtrim (cs : List Cm) (v : Value) (lim : Nat) (w : World) (hs : szL cs ≤ 1000000000) (h : RC w (fun g => g < lim) v cs) (hlim : lim ≤ w.heap.size) : Calls Tryd.prog 12 #[v] w fun e w' => ∃ v', e = .returned v' ∧ RC w' (MdO lim w w') v' (trimC cs) ∧ Below w.heap.size w w' := by
  have H := Lib.hid h
  have HEN : Hid (∀ (l : List Cm) (u : Value), szL l ≤ 1000000000 → RC w (fun g => g < lim) u l → Calls Tryd.prog 24 #[u] w fun e w' => ∃ v', e = .returned v' ∧ RC w' (MdO lim w w') v' (endL l) ∧ Below w.heap.size w w') := fun l u h1 h2 => c_ended (szL l + 1) l u lim w (Nat.lt_succ_self _) h1 h2 hlim
  clear h
  go_enter Tryd.func12, Tryd.ntmps12
  go_wp2_with fail
  go_loopw [0] (fun u wr => ∃ (l : List Cm), Hid (RC w (fun g => g < lim) u l ∧ cs.dropWhile blm = l.dropWhile blm ∧ szL l ≤ 1000000000) ∧ w = wr) (fun u _ => slN u)
  case atStart => exact ⟨cs, ⟨H.out, rfl, hs⟩, rfl⟩
  case round =>
    obtain ⟨l, HR, rfl⟩ := hrel
    cases l with
    | nil =>
      obtain ⟨A, c, he⟩ := HR.out.1.nil
      subst he
      have HC := Lib.hid (HEN.out [] _ HR.out.2.2 HR.out.1)
      have HT : Hid (trimC cs = endL []) := by unfold Hid trimC; rw [HR.out.2.1]; rfl
      go_wp2_with (go_at_call 24; refine (HC.out).mono ?_; rintro e' w7 ⟨v7, rfl, hrc, hb⟩; have HRC7 := Lib.hid hrc; have HBE := Lib.hid hb; clear hrc hb)
      go_ret
      exact ⟨_, rfl, by rw [HT.out]; exact HRC7.out, HBE.out⟩
    | cons x l =>
      obtain ⟨g, o, c, R, he, hcap, hg, hrow, hcell⟩ := HR.out.1.form (by simp)
      subst he
      obtain ⟨kv, _, hcz⟩ := RC.cells hrow hcell (i := 0) (x := x) rfl
      have e0 : w.cell? ⟨g, o, none⟩ = some (.string (kdS x.t.k)) := hcz 0 (by decide)
      have HC := Lib.hid (HEN.out (x :: l) _ HR.out.2.2 HR.out.1)
      have HKB := Lib.hid (kdS_bl x.t.k)
      have hp0 : (0 : Int) < (l.length : Int) + 1 := by omega
      have hls : szL l ≤ 1000000000 := by have := HR.out.2.2; rw [szL] at this; omega
      have hll := szL_len l
      rw [List.length_cons] at hcap HC ⊢
      by_cases hk : x.t.k = 0
      · have hkI : ((kdS x.t.k).toList == [98, 108, 97, 110, 107]) = true := by rw [HKB.out]; exact decide_eq_true hk
        have HD : Hid (cs.dropWhile blm = l.dropWhile blm) := by
          unfold Hid; rw [HR.out.2.1, List.dropWhile_cons_of_pos (by unfold blm bl0; exact decide_eq_true hk)]
        have HS : Hid (RC w (fun g => g < lim) (.slice (if c = 1 then some ⟨g, o, none⟩ else some ⟨g, o + 8, none⟩) l.length (c - 1)) l) :=
          RC.sub (p := [x]) (l2 := l) (s := []) (a := 1) (by rw [List.append_nil]; exact hrow) hcell rfl (fun h0 => by rw [if_neg (by omega)]) hg rfl (by omega)
        have hc1 : 1 ≤ c := by omega
        clear hcz hrow hcell hk
        go_wp2_with fail
        go_roundw
        case rel => exact ⟨l, ⟨HS.out, HD.out, hls⟩, by first | rfl | trivial⟩
        case measure => simp [slN]
      · have hkI : ((kdS x.t.k).toList == [98, 108, 97, 110, 107]) = false := by rw [HKB.out]; exact decide_eq_false hk
        have HT : Hid (trimC cs = endL (x :: l)) := by
          unfold Hid trimC; rw [HR.out.2.1, List.dropWhile_cons_of_neg (by unfold blm bl0; simp [hk])]
        clear hcz hrow hcell hk
        go_wp2_with (go_at_call 24; refine (HC.out).mono ?_; rintro e' w7 ⟨v7, rfl, hrc, hb⟩; have HRC7 := Lib.hid hrc; have HBE := Lib.hid hb; clear hrc hb)
        go_ret
        exact ⟨_, rfl, by rw [HT.out]; exact HRC7.out, HBE.out⟩
end Go.Proofs.YtmhejppfjngbhaaDoor
