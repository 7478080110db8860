/- sheets: tokens trimmed: the program's -/
import Derived.Test.YtmhejppfjngbhaaDoorYr
namespace Go.Proofs.YtmhejppfjngbhaaDoor
set_option linter.unusedVariables false
set_option linter.unusedSimpArgs false
open Go.RowKit Go.Cas

/-- a slice that reads as tokens -/
def RT (w : World) (lim : Nat) (v : Value) (l : List Tk) : Prop := RdS w lim 5 v l.length (rws tkc l)
def slN : Value → Nat
  | .slice _ n _ => n
  | _ => 0
theorem RT.cons {w : World} {lim : Nat} {v : Value} {t : Tk} {l : List Tk} (h : RT w lim v (t :: l)) : ∃ g o c, v = .slice (some ⟨g, o, none⟩) (l.length + 1) c ∧ l.length + 1 ≤ c ∧ g < lim ∧ (∀ i x j, (t :: l)[i]? = some x → j < 5 → w.cell? ⟨g, o + (i * 5 + j), none⟩ = (tkc x)[j]?) := by
  obtain ⟨h1, A, c, h2, h3, h4⟩ := h
  obtain ⟨g, o, e, hg, hc⟩ := h4 (by simp)
  subst e
  refine ⟨g, o, c, h2, h3, hg, fun i x j hi hj => ?_⟩
  have := rws_get tkc_len hi hj
  have hv : (tkc x)[j]? = some ((tkc x)[j]'hj) := List.getElem?_eq_getElem hj
  rw [hv] at this ⊢
  exact hc _ _ this
theorem RT.nil {w : World} {lim : Nat} {v : Value} (h : RT w lim v []) : ∃ A c, v = .slice A 0 c := by
  obtain ⟨h1, A, c, h2, h3, h4⟩ := h
  exact ⟨A, c, h2⟩
theorem RT.mk {w : World} {lim g o n c : Nat} {A : Option Addr} {l : List Tk} (hn : n = l.length) (hc : n ≤ c) (hg : 0 < n → A = some ⟨g, o, none⟩ ∧ g < lim) (h : ∀ i x j, l[i]? = some x → j < 5 → w.cell? ⟨g, o + (i * 5 + j), none⟩ = (tkc x)[j]?) : RT w lim (.slice A n c) l := by
  subst hn
  refine ⟨rws_len tkc_len l, _, _, rfl, hc, fun hn => ⟨g, o, (hg hn).1, (hg hn).2, fun j u hu => ?_⟩⟩
  have hlt : j < l.length * 5 := by have := (List.getElem?_eq_some_iff.1 hu).1; rwa [rws_len tkc_len] at this
  have hi : j / 5 < l.length := by omega
  have h1 := rws_get tkc_len (List.getElem?_eq_getElem hi) (Nat.mod_lt j (by decide : 0 < 5))
  have hj : j / 5 * 5 + j % 5 = j := by omega
  rw [hj] at h1
  rw [h1] at hu
  have h2 := h _ _ _ (List.getElem?_eq_getElem hi) (Nat.mod_lt j (by decide : 0 < 5))
  rw [hj, hu] at h2
  exact h2
theorem RT.end_ {w : World} {lim c : Nat} {A : Option Addr} : RT w lim (.slice A 0 c) [] := ⟨rfl, _, _, rfl, Nat.zero_le _, fun h => absurd h (by simp)⟩
/-- some of the tokens from a place on -/
theorem RT.sub {w : World} {lim g o a m c' : Nat} {A : Option Addr} {l l2 : List Tk} (hA : 0 < m → A = some ⟨g, o + a * 5, none⟩) (hg : g < lim) (hm : m = l2.length) (hc : m ≤ c') (h : ∀ i x j, l[i]? = some x → j < 5 → w.cell? ⟨g, o + (i * 5 + j), none⟩ = (tkc x)[j]?) (h2 : ∀ i x, l2[i]? = some x → l[a + i]? = some x) : RT w lim (.slice A m c') l2 :=
  RT.mk (g := g) (o := o + a * 5) hm hc (fun h0 => ⟨hA h0, hg⟩) fun i x j hi hj => by
    have := h (a + i) x j (h2 i x hi) hj
    rw [show o + a * 5 + (i * 5 + j) = o + ((a + i) * 5 + j) by rw [Nat.add_mul]; omega]
    exact this
theorem rtr_bl {a : List Tk} {z : Tk} (h : z.k = 0) : rtr (a ++ [z]) = rtr a := by
  unfold rtr
  rw [List.reverse_append]
  show (List.dropWhile bl0 (z :: a.reverse)).reverse = _
  rw [List.dropWhile_cons_of_pos (by unfold bl0; simp [h])]
theorem rtr_no {a : List Tk} {z : Tk} (h : ¬ z.k = 0) : rtr (a ++ [z]) = a ++ [z] := by
  unfold rtr
  rw [List.reverse_append]
  show (List.dropWhile bl0 (z :: a.reverse)).reverse = _
  rw [List.dropWhile_cons_of_neg (by unfold bl0; simp [h])]
  simp
set_option maxHeartbeats 8000000 in
set_option maxRecDepth 100000 in
theorem c_Trim (l : List Tk) (v : Value) (lim : Nat) (w : World) (h : RT w lim v l) (hl : l.length ≤ 1000000000) : Calls Tryd.prog 6 #[v] w fun e w' => ∃ v', e = .returned v' ∧ RT w lim v' (trimT l) ∧ w = w' := by
  have H := Lib.hid h
  clear h
  go_enter Tryd.func6, Tryd.ntmps6
  go_wp2_with fail
  go_loopw [0] (fun u wr => ∃ (l' : List Tk), Hid (RT w lim u l' ∧ l.dropWhile bl0 = l'.dropWhile bl0) ∧ l'.length ≤ l.length ∧ w = wr) (fun u _ => slN u)
  case atStart => exact ⟨l, ⟨H.out, rfl⟩, Nat.le_refl _, rfl⟩
  case round =>
    obtain ⟨l', HR, hl', rfl⟩ := hrel
    cases l' with
    | nil =>
      obtain ⟨A, c, he⟩ := HR.out.1.nil
      subst he
      have HT : Hid (trimT l = []) := by unfold Hid trimT; rw [HR.out.2]; rfl
      go_wp2_with fail
      go_loopw [0] (fun u wr => u = .slice A 0 c ∧ w = wr) (fun u _ => slN u)
      case atStart => exact ⟨rfl, rfl⟩
      case round =>
        obtain ⟨rfl, rfl⟩ := hrel
        go_wp2_with fail
        go_ret
        exact ⟨_, rfl, by rw [HT.out]; exact RT.end_, rfl⟩
    | cons t l' =>
      obtain ⟨g, o, c, he, hc, hg, hcell⟩ := HR.out.1.cons
      subst he
      have d0 : w.cell? ⟨g, o, none⟩ = some (.int .i64 (t.k : Int)) := hcell 0 t 0 rfl (by decide)
      have HC := Lib.hid hcell
      by_cases hk : t.k = 0
      · have hkI : (t.k : Int) = 0 := by omega
        have hc1 : 1 ≤ c := by omega
        have HD : Hid (l.dropWhile bl0 = l'.dropWhile bl0) := by
          unfold Hid; rw [HR.out.2, List.dropWhile_cons_of_pos (by unfold bl0; simp [hk])]
        have HS : Hid (RT w lim (.slice (if c = 1 then some ⟨g, o, none⟩ else some ⟨g, o + 5, none⟩) l'.length (c - 1)) l') :=
          RT.sub (a := 1) (fun h0 => by rw [if_neg (by omega)]) hg rfl (by omega) hcell (fun i x hi => by rw [Nat.add_comm 1 i]; exact hi)
        clear hcell
        go_wp2_with fail
        go_roundw
        case rel => exact ⟨l', ⟨HS.out, HD.out⟩, by simp at hl'; omega, by first | rfl | trivial⟩
        case measure => simp [slN]
      · have hkI : ¬ (t.k : Int) = 0 := by omega
        have hkb : ((t.k : Int) == 0) = false := beq_eq_false_iff_ne.2 hkI
        have HT : Hid (trimT l = rtr (t :: l')) := by
          unfold Hid trimT; rw [HR.out.2, List.dropWhile_cons_of_neg (by unfold bl0; simp [hk])]
        have HCC := Lib.hid hcell
        obtain ⟨L, hL⟩ : ∃ L, L = t :: l' := ⟨_, rfl⟩
        rw [← hL] at HT HCC hl'
        have hln : l'.length + 1 = L.length := by rw [hL]; rfl
        have HLN := Lib.hid hln
        have hLc : L.length ≤ c := by rw [← hln]; exact hc
        clear hcell HC hln hL
        go_wp2_with fail
        go_loopw [0] (fun u wr => ∃ (l2 : List Tk), u = .slice (some ⟨g, o, none⟩) l2.length c ∧ Hid (rtr L = rtr l2 ∧ l2 <+: L) ∧ l2.length ≤ L.length ∧ w = wr) (fun u _ => slN u)
        case atStart => exact ⟨L, by rw [HLN.out], ⟨rfl, List.prefix_refl _⟩, Nat.le_refl _, rfl⟩
        case round =>
          obtain ⟨l2, rfl, HP, hl2, rfl⟩ := hrel
          have HG : Hid (∀ i x, l2[i]? = some x → L[i]? = some x) := fun i x hi => by
            obtain ⟨r, hr⟩ := HP.out.2
            rw [← hr, List.getElem?_append_left (List.getElem?_eq_some_iff.1 hi).1]; exact hi
          rcases List.eq_nil_or_concat l2 with ho | ⟨a, z, ho⟩
          · subst ho
            have HT2 : Hid (trimT l = []) := by unfold Hid; rw [HT.out, HP.out.1]; rfl
            go_wp2_with fail
            go_ret
            exact ⟨_, rfl, by rw [HT2.out]; exact RT.end_, rfl⟩
          · rw [List.concat_eq_append] at ho
            subst ho
            obtain ⟨q, hq⟩ : ∃ q, q = a.length := ⟨_, rfl⟩
            have hon : (a ++ [z]).length = q + 1 := by rw [hq]; simp
            have e0 : w.cell? ⟨g, o + q * 5, none⟩ = some (.int .i64 (z.k : Int)) := HCC.out q z 0 (HG.out q z (by rw [hq]; simp)) (by decide)
            rw [hon] at hl2
            have hqI : (q : Int) + 1 - 1 = (q : Int) := by omega
            have HQ := Lib.hid hq
            have HON := Lib.hid hon
            rw [hon]
            by_cases hz : z.k = 0
            · have hzI : (z.k : Int) = 0 := by omega
              have HRB : Hid (rtr L = rtr a) := by unfold Hid; rw [HP.out.1, rtr_bl hz]
              have hqc : (q : Int) ≤ (c : Int) := by omega
              clear hq hon
              go_wp2_with fail
              go_roundw
              case rel => exact ⟨a, by rw [← HQ.out], ⟨HRB.out, (List.prefix_append a [z]).trans HP.out.2⟩, by rw [← HQ.out]; omega, by first | rfl | trivial⟩
              case measure => simp [slN]
            · have hzI : ¬ (z.k : Int) = 0 := by omega
              have hzb : ((z.k : Int) == 0) = false := beq_eq_false_iff_ne.2 hzI
              have HT2 : Hid (trimT l = a ++ [z]) := by unfold Hid; rw [HT.out, HP.out.1, rtr_no hz]
              clear hq hon
              go_wp2_with fail
              go_ret
              refine ⟨_, rfl, ?_, rfl⟩
              rw [HT2.out]
              exact RT.sub (a := 0) (fun _ => by simp) hg HON.out.symm (by omega) HCC.out (fun i x hi => by rw [Nat.zero_add]; exact HG.out i x hi)
end Go.Proofs.YtmhejppfjngbhaaDoor
