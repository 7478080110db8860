/- the tree: where a name stands among attributes -/
import Derived.Test.YtimlmekgapdkiaaDoorTmf
namespace Go.Proofs.YtimlmekgapdkiaaDoor
set_option linter.unusedVariables false
set_option linter.unusedSimpArgs false
open Go.RowKit Go.Cas

/-- where a name stands -/
def fnd : List (ByteArray × ByteArray) → ByteArray → Int
  | [], _ => -1
  | p :: r, s => if p.1 = s then 0 else if fnd r s < 0 then -1 else fnd r s + 1
theorem fnd_hit : ∀ (l : List (ByteArray × ByteArray)) (s : ByteArray) (k : Nat) (p : ByteArray × ByteArray), l[k]? = some p → p.1 = s → (∀ j q, j < k → l[j]? = some q → q.1 ≠ s) → fnd l s = k := by
  intro l
  induction l with
  | nil => intro s k p h; simp at h
  | cons a l ih =>
    intro s k p h hp hn
    cases k with
    | zero => simp at h; subst h; simp [fnd, hp]
    | succ k =>
      have h0 := hn 0 a (by omega) rfl
      have := ih s k p (by simpa using h) hp (fun j q hj hq => hn (j + 1) q (by omega) (by simpa using hq))
      simp only [fnd, if_neg h0, this]
      rw [if_neg (by omega)]; omega
theorem fnd_miss : ∀ (l : List (ByteArray × ByteArray)) (s : ByteArray), (∀ (j : Nat) (q : ByteArray × ByteArray), l[j]? = some q → q.1 ≠ s) → fnd l s = -1 := by
  intro l
  induction l with
  | nil => intro s _; rfl
  | cons a l ih =>
    intro s hn
    have h0 := hn 0 a rfl
    have := ih s (fun j q hq => hn (j + 1) q (by simpa using hq))
    simp only [fnd, if_neg h0, this]
    rfl
theorem fnd_spec : ∀ (l : List (ByteArray × ByteArray)) (s : ByteArray), (fnd l s = -1 ∧ ∀ p ∈ l, p.1 ≠ s) ∨ (∃ k : Nat, fnd l s = (k : Int) ∧ ∃ p, l[k]? = some p ∧ p.1 = s) := by
  intro l
  induction l with
  | nil => intro s; exact .inl ⟨rfl, by simp⟩
  | cons a l ih =>
    intro s
    by_cases h0 : a.1 = s
    · exact .inr ⟨0, by simp [fnd, h0], a, rfl, h0⟩
    · rcases ih s with ⟨h1, h2⟩ | ⟨k, h1, p, h2, h3⟩
      · refine .inl ⟨by simp [fnd, h0, h1], fun p hp => ?_⟩
        rcases List.mem_cons.1 hp with rfl | hp
        · exact h0
        · exact h2 p hp
      · refine .inr ⟨k + 1, ?_, p, by simpa using h2, h3⟩
        simp only [fnd, if_neg h0, h1]
        rw [if_neg (by omega)]; omega
theorem beq_str (a s : ByteArray) : (a.toList == s.toList) = decide (a = s) := by
  rw [Bool.eq_iff_iff, beq_iff_eq, decide_eq_true_eq, ByteArray.toList_eq, ByteArray.toList_eq]
  constructor
  · intro h
    cases a; cases s
    simp at h
    simp [h]
  · intro h; rw [h]
theorem c_find1 {w : World} {b : Nat} {a v s : ByteArray} (hb : w.cell? ⟨b, 0, none⟩ = some (.string s)) (hl : b < w.heap.size) :
    Calls Tryd.prog 111 #[.agg #[.string a, .string v], .pointer (some ⟨b, 0, none⟩)] w fun e w' => e = .returned (.bool (decide (a = s))) ∧ Below w.heap.size w w' := by
  go_enter Tryd.func111, Tryd.ntmps111
  go_wp2_with fail
  go_ret
  exact ⟨ret_bool (beq_str _ _), bl_alloc (Below.refl _ _) _⟩
theorem rd_at {w : World} {lim n k : Nat} {A : Option Addr} {c : Nat} {l : List (ByteArray × ByteArray)} {p : ByteArray × ByteArray} (h : RdS w lim 2 (.slice A n c) n (atc l)) (hp : l[k]? = some p) : ∃ g o, A = some ⟨g, o, none⟩ ∧ g < lim ∧ ∀ w', Below lim w w' → (w'.cell? ⟨g, o + k * 2, none⟩ = some (.string p.1) ∧ w'.cell? ⟨g, o + k * 2 + 1, none⟩ = some (.string p.2)) := by
  have hl : l.length = n := by have := h.1; rw [atc_len] at this; omega
  have hk := (List.getElem?_eq_some_iff.1 hp).1
  obtain ⟨_, A', c', e, _, hc⟩ := h
  injection e with e1 _ e2
  subst e1 e2
  obtain ⟨g, o, e, hg, hcell⟩ := hc (by omega)
  refine ⟨g, o, e, hg, fun w' hb => ?_⟩
  have key : ∀ j, j < 2 → ∀ u, ([.string p.1, .string p.2] : List Value)[j]? = some u → w'.cell? ⟨g, o + k * 2 + j, none⟩ = some u := fun j hj u hu => by
    have := hcell (k * 2 + j) u (by unfold atc; rw [flat_get (fun p : ByteArray × ByteArray => ([.string p.1, .string p.2] : List Value)) 2 (fun _ => rfl) l k j p hp hj]; exact hu)
    rw [← Nat.add_assoc] at this
    exact (hb.cell (p := ⟨g, _, none⟩) hg).trans this
  exact ⟨key 0 (by omega) _ rfl, key 1 (by omega) _ rfl⟩
set_option maxRecDepth 100000 in
set_option maxHeartbeats 4000000 in
theorem c_IndexFunc {w : World} {lim n b : Nat} {v : Value} {l : List (ByteArray × ByteArray)} {s : ByteArray} (h : RdS w lim 2 v n (atc l)) (hn : n ≤ 1000000000) (hlim : lim ≤ w.heap.size) (hb : w.cell? ⟨b, 0, none⟩ = some (.string s)) (hl : b < w.heap.size) :
    Calls Tryd.prog 110 #[v, .func (.func 111) #[] #[.pointer (some ⟨b, 0, none⟩)]] w fun e w' => e = .returned (.int .i64 (fnd l s)) ∧ Below w.heap.size w w' := by
  have H := Lib.hid h
  have hll : l.length = n := by have := h.1; rw [atc_len] at this; omega
  obtain ⟨_, A, c, rfl, _, _⟩ := h
  have HL := Lib.hid hll
  have HB := Lib.hid hb
  clear hll hb
  go_enter Tryd.func110, Tryd.ntmps110
  go_wp2_with fail
  go_loopw [8] (fun i wr => ∃ (k : Nat), k ≤ n ∧ i = .int .i64 k ∧ Hid (∀ j q, j < k → l[j]? = some q → q.1 ≠ s) ∧ Hid (Below w.heap.size w wr)) (fun i _ => n - (intOf i).toNat)
  case atStart => exact ⟨0, by omega, rfl, fun j q hj => by omega, Below.refl _ _⟩
  case round =>
    obtain ⟨k, hk, rfl, HA, HBL⟩ := hrel
    by_cases hlt : k < n
    · have hik : (k : Int) < (n : Int) := by omega
      obtain ⟨⟨pa, pv⟩, hp⟩ : ∃ p, l[k]? = some p := ⟨_, List.getElem?_eq_getElem (by have := HL.out; omega)⟩
      have HP := Lib.hid hp
      obtain ⟨g, o, rfl, hg, hc⟩ := rd_at H.out hp
      obtain ⟨d0, d1⟩ := hc wr (HBL.out.mono hlim)
      have hbr : wr.cell? ⟨b, 0, none⟩ = some (.string s) := (HBL.out.cell (p := ⟨b, 0, none⟩) hl).trans HB.out
      have hlr : b < wr.heap.size := Nat.lt_of_lt_of_le hl HBL.out.size
      have HC := Lib.hid (c_find1 (a := pa) (v := pv) hbr hlr)
      by_cases he : pa = s
      · have HF : Hid (fnd l s = (k : Int)) := fnd_hit l s k _ HP.out he HA.out
        rw [decide_eq_true he] at HC
        clear hp hc hbr hlr he
        go_wp2_with ((go_at_call 111; refine (HC.out).mono ?_; rintro e w' ⟨rfl, hv⟩; have HV := Lib.hid hv; clear hv))
        go_ret
        exact ⟨ret_int HF.out.symm, bl_trans HBL.out HV.out⟩
      · have HE := Lib.hid he
        rw [decide_eq_false he] at HC
        clear hp hc hbr hlr he
        go_wp2_with ((go_at_call 111; refine (HC.out).mono ?_; rintro e w' ⟨rfl, hv⟩; have HV := Lib.hid hv; clear hv))
        go_roundw
        case rel =>
          refine ⟨k + 1, by omega, by go_num, fun j q hj hq => ?_, bl_trans HBL.out HV.out⟩
          by_cases hjk : j = k
          · subst hjk
            have := HP.out
            rw [hq] at this
            rw [Option.some.inj this]; exact HE.out
          · exact HA.out j q (by omega) hq
        case measure => simp [intOf]; omega
    · obtain rfl : k = n := by omega
      have HF : Hid (fnd l s = -1) := fnd_miss l s (fun j q hq => HA.out j q (by have := (List.getElem?_eq_some_iff.1 hq).1; have := HL.out; omega) hq)
      go_wp2_with fail
      go_ret
      exact ⟨ret_int HF.out.symm, HBL.out⟩
theorem c_find {w : World} {lim n : Nat} {v : Value} {l : List (ByteArray × ByteArray)} {s : ByteArray} (h : RdS w lim 2 v n (atc l)) (hn : n ≤ 1000000000) (hlim : lim ≤ w.heap.size) :
    Calls Tryd.prog 83 #[v, .string s] w fun e w' => e = .returned (.int .i64 (fnd l s)) ∧ Below w.heap.size w w' := by
  have hbl : Below w.heap.size w (w.alloc (.cells #[.string s] 9)) := bl_alloc (Below.refl _ _) _
  have HBL := Lib.hid hbl
  have HC := Lib.hid (c_IndexFunc (b := w.heap.size) (s := s) (h.below' hbl hlim) hn (Nat.le_trans hlim (by simp)) (by simp) (by simp))
  clear h hbl hn hlim
  go_enter Tryd.func83, Tryd.ntmps83
  go_wp2_with ((go_at_call 110; refine (HC.out).mono ?_; rintro e w' ⟨rfl, hv⟩; have HV := Lib.hid hv; clear hv))
  go_ret
  exact ⟨rfl, bl_trans HBL.out HV.out⟩
end Go.Proofs.YtimlmekgapdkiaaDoor
