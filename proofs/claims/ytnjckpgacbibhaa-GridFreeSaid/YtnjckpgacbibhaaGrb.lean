/- the grid: is a place free, take it -/
import Derived.Test.YtnjckpgacbibhaaGra
namespace Go.Proofs.Ytnjckpgacbibhaa
set_option linter.unusedVariables false
set_option linter.unusedSimpArgs false
open Go.RowKit Go.Cas

abbrev agI (c cs r rs : Int) : Value := .agg #[.int .i64 c, .int .i64 cs, .int .i64 r, .int .i64 rs]
def Fr (T : Int → Int → Bool) (r c : Int) (q p : Nat) : Prop := ∀ i j : Nat, i < q → j < p → T (r + i) (c + j) = false
def Mid (a : Int) : Prop := -1000000 ≤ a ∧ a ≤ 1000000
def FrRet (T : Int → Int → Bool) (r c : Int) (q p : Nat) (w : World) (e : Ending) (w' : World) : Prop := ∃ v : Bool, e = .returned (.bool v) ∧ (v = true ↔ Fr T r c q p) ∧ Below w.heap.size w w'
theorem sm_add {a : Int} {i n : Nat} (h : Mid a) (hi : i < n) (hn : n ≤ 20) : Sm (a + i) := by unfold Mid at h; unfold Sm; omega

set_option maxRecDepth 100000 in
set_option maxHeartbeats 4000000 in
theorem c_freeG (b n : Nat) (T : Int → Int → Bool) (c r : Int) (p q : Nat) (w : World) (hb : Brd w b n T) (hc : Mid c) (hr : Mid r) (hp : p ≤ 20) (hq : q ≤ 20) :
    Calls Try.prog 83 #[.map (some b), agI c p r q] w (FrRet T r c q p w) := by
  have HB := Lib.hid (hb.below (bl_alloc (Below.refl _ w) (.cells #[.int .i64 c, .int .i64 p, .int .i64 r, .int .i64 q] 99)))
  have HBL := Lib.hid (bl_alloc (Below.refl _ w) (.cells #[.int .i64 c, .int .i64 p, .int .i64 r, .int .i64 q] 99))
  clear hb
  have hr' := hr; have hc' := hc
  have HR := Lib.hid hr; have HCc := Lib.hid hc
  unfold Mid at hr' hc'
  clear hr hc
  go_enter Try.func83, Try.ntmps83
  go_wp2_with fail
  go_loop [9] (fun i => ∃ (k : Nat), k ≤ q ∧ i = .int .i64 k ∧ Hid (∀ i j : Nat, i < k → j < p → T (r + i) (c + j) = false)) (fun i => q - (intOf i).toNat)
  case atStart => exact ⟨0, by omega, rfl, fun i j h => by omega⟩
  case round =>
    obtain ⟨k, hk, rfl, H1⟩ := hrel
    by_cases hlt : k < q
    · have hik : (k : Int) < (q : Int) := by omega
      go_wp2_with fail
      go_loop [14] (fun i => ∃ (m : Nat), m ≤ p ∧ i = .int .i64 m ∧ Hid (∀ j : Nat, j < m → T (r + k) (c + j) = false)) (fun i => p - (intOf i).toNat)
      case atStart => exact ⟨0, by omega, rfl, fun j h => by omega⟩
      case round =>
        obtain ⟨m, hm, rfl, H2⟩ := hrel
        by_cases hmp : m < p
        · have hik2 : (m : Int) < (p : Int) := by omega
          have hlk := HB.out.look (sm_add HR.out hlt hq) (sm_add HCc.out hmp hp)
          rcases ht : T (r + k) (c + m)
          · rw [ht] at hlk
            have HT := Lib.hid ht
            clear ht
            go_wp2_with fail
            go_round
            case rel =>
              refine ⟨m + 1, by omega, by go_num, fun j hj => ?_⟩
              by_cases e : j = m
              · subst e; exact HT.out
              · exact H2.out j (by omega)
            case measure => simp [intOf]; omega
          · rw [ht] at hlk
            have HT := Lib.hid ht
            clear ht
            go_wp2_with fail
            go_ret
            refine ⟨_, rfl, ?_, HBL.out⟩
            constructor
            · intro h; cases h
            · intro h
              have := h k m hlt hmp
              rw [HT.out] at this; cases this
        · obtain rfl : m = p := by omega
          have hik2 : ¬ (m : Int) < (m : Int) := by omega
          go_wp2_with fail
          go_round
          case rel =>
            refine ⟨k + 1, by omega, by go_num, fun i j hi hj => ?_⟩
            by_cases e : i = k
            · subst e; exact H2.out j hj
            · exact H1.out i j (by omega) hj
          case measure => simp [intOf]; omega
    · obtain rfl : k = q := by omega
      have hik : ¬ (k : Int) < (k : Int) := by omega
      go_wp2_with fail
      go_ret
      exact ⟨_, rfl, ⟨fun _ => H1.out, fun _ => rfl⟩, HBL.out⟩

/-- the cells of a place -/
def inP (r c : Int) (q p : Nat) (a b : Int) : Bool := decide (r ≤ a ∧ a < r + q ∧ c ≤ b ∧ b < c + p)
set_option maxRecDepth 100000 in
set_option maxHeartbeats 4000000 in
theorem c_takeG (b n : Nat) (T : Int → Int → Bool) (c r : Int) (p q : Nat) (w : World) (hb : Brd w b n T) (hc : Mid c) (hr : Mid r) (hp : p ≤ 20) (hq : q ≤ 20) (hn : n ≤ 1000000) :
    Calls Try.prog 82 #[.map (some b), agI c p r q] w fun e w' => e = .returned (.tuple #[]) ∧ Hid (Brd w' b (n + 400) (fun a d => inP r c q p a d || T a d)) ∧ Hid (Kept w w' (fun k => k = b)) := by
  have HB := Lib.hid (hb.below (bl_alloc (Below.refl _ w) (.cells #[.int .i64 c, .int .i64 p, .int .i64 r, .int .i64 q] 99)))
  have HX := Lib.hid (Bk.new w 99 #[.int .i64 c, .int .i64 p, .int .i64 r, .int .i64 q])
  have HKP := Lib.hid (Kept.of_below (bl_alloc (Below.refl _ w) (.cells #[.int .i64 c, .int .i64 p, .int .i64 r, .int .i64 q] 99)) (fun k => k = b))
  have HLT := Lib.hid hb.lt
  obtain ⟨R, hR⟩ : ∃ R, R = w.heap.size := ⟨_, rfl⟩
  have hbr : b < R := by rw [hR]; exact hb.lt
  have HRR := Lib.hid hR
  rw [← hR] at HX
  clear hb hR
  have hr' := hr; have hc' := hc
  have HR := Lib.hid hr; have HCc := Lib.hid hc
  unfold Mid at hr' hc'
  clear hr hc
  go_enter Try.func82, Try.ntmps82
  go_wp2_with fail
  rw [← HRR.out]
  go_loopw [8] (fun i wr => ∃ (k : Nat), k ≤ q ∧ i = .int .i64 k ∧ Hid (Brd wr b (n + k * p) (fun a d => inP r c k p a d || T a d)) ∧ Hid (Bk wr R 99 #[.int .i64 c, .int .i64 p, .int .i64 r, .int .i64 q]) ∧ Hid (Kept w wr (fun k => k = b))) (fun i _ => q - (intOf i).toNat)
  case atStart => exact ⟨0, by omega, rfl, (HB.out.mono (by omega)).congr (fun a d _ _ => by
      have : inP r c 0 p a d = false := by simp only [inP, decide_eq_false_iff_not]; omega
      simp [this]), HX.out, HKP.out⟩
  case round =>
    obtain ⟨k, hk, rfl, HBR, HXR, HKR⟩ := hrel
    have q1 := HXR.out.cell
    by_cases hlt : k < q
    · have hik : (k : Int) < (q : Int) := by omega
      go_wp2_with fail
      clear q1
      go_loopw [13] (fun i wr => ∃ (m : Nat), m ≤ p ∧ i = .int .i64 m ∧ Hid (Brd wr b (n + k * p + m) (fun a d => inP r c k p a d || (inP (r + k) c 1 m a d || T a d))) ∧ Hid (Bk wr R 99 #[.int .i64 c, .int .i64 p, .int .i64 r, .int .i64 q]) ∧ Hid (Kept w wr (fun k => k = b))) (fun i _ => p - (intOf i).toNat)
      case atStart => exact ⟨0, by omega, rfl, HBR.out.congr (fun a d _ _ => by
        have : inP (r + k) c 1 0 a d = false := by simp only [inP, decide_eq_false_iff_not]; omega
        simp [this]), HXR.out, HKR.out⟩
      case round =>
        obtain ⟨m, hm, rfl, HB2, HX2, HK2⟩ := hrel
        have q1 := HX2.out.cell
        by_cases hmp : m < p
        · have hik2 : (m : Int) < (p : Int) := by omega
          have hnm : n + k * p + m < maxLen := by
            have : k * p ≤ 20 * 20 := Nat.mul_le_mul (by omega) (by omega)
            unfold maxLen; omega
          obtain ⟨w9, hst, hb9, hg9⟩ := HB2.out.store (sm_add HR.out hlt hq) (sm_add HCc.out hmp hp) hnm
          have HB9 := Lib.hid hb9
          have HX9 := Lib.hid (HX2.out.grown hg9 (by simp; omega))
          have HK9 := Lib.hid (HK2.out.then_ (Kept.grown hg9 (fun k => k = b) (fun k e => by injection e with e; exact e.symm)) (fun _ _ e => e))
          clear hb9 hg9
          go_wp2_with fail
          go_roundw
          case rel =>
            refine ⟨m + 1, by omega, by go_num, HB9.out.congr (fun a d _ _ => ?_), HX9.out, HK9.out⟩
            by_cases e : a = r + k ∧ d = c + m
            · rw [if_pos e]
              have : inP (r + k) c 1 (m + 1) a d = true := by simp only [inP, decide_eq_true_eq]; omega
              simp [this]
            · rw [if_neg e]
              have : inP (r + k) c 1 (m + 1) a d = inP (r + k) c 1 m a d := by
                simp only [inP, decide_eq_decide]; omega
              rw [this]
          case measure => simp [intOf]; omega
        · obtain rfl : m = p := by omega
          have hik2 : ¬ (m : Int) < (m : Int) := by omega
          go_wp2_with fail
          go_roundw
          case rel =>
            refine ⟨k + 1, by omega, by go_num, (HB2.out.mono (by rw [Nat.succ_mul]; omega)).congr (fun a d _ _ => ?_), HX2.out, HK2.out⟩
            have : inP r c (k + 1) m a d = (inP r c k m a d || inP (r + k) c 1 m a d) := by
              rw [Bool.eq_iff_iff]
              simp only [inP, Bool.or_eq_true, decide_eq_true_eq]
              omega
            rw [this, Bool.or_assoc]
          case measure => simp [intOf]; omega
    · obtain rfl : k = q := by omega
      have hik : ¬ (k : Int) < (k : Int) := by omega
      have hkp : k * p ≤ 400 := by
        have : k * p ≤ 20 * 20 := Nat.mul_le_mul (by omega) (by omega)
        omega
      go_wp2_with fail
      go_end0
      exact ⟨rfl, HBR.out.mono (by omega), HKR.out⟩
end Go.Proofs.Ytnjckpgacbibhaa
