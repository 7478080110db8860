/- the reference's width of a text; ascent, descent -/
import Derived.Test.YtnjckpgacbibhaaIe
namespace Go.Proofs.Ytnjckpgacbibhaa
set_option linter.unusedVariables false
set_option linter.unusedSimpArgs false
open Go.RowKit Go.Cas

def wSum' (z : Int) (l : List Int) : Int := (l.map fun r => z * adv r / 1000).sum
theorem wSum_eq (z : Int) (l : List (Int × Nat)) : wSum z l = wSum' z (rOf l) := by
  induction l with
  | nil => rfl
  | cons p l ih => obtain ⟨r, k⟩ := p; simp only [wSum, ih, wSum', rOf, List.map_cons, List.sum_cons]
theorem wSum'_take (z : Int) (l : List Int) (k : Nat) (h : k < l.length) : wSum' z (l.take (k + 1)) = wSum' z (l.take k) + z * adv (l[k]'h) / 1000 := by
  unfold wSum'; rw [List.take_succ_eq_append_getElem h, List.map_append, List.sum_append]; simp only [List.map_cons, List.map_nil, List.sum_cons, List.sum_nil, Int.add_zero]
theorem tail_div (x : Int) (h : 0 ≤ x) : (x - x % 1000) / 1000 = x / 1000 := by omega
theorem runes_bd (s : ByteArray) : ∀ n i, ∀ p ∈ rns s n i, 0 ≤ p.1 ∧ p.1 ≤ 1114111 := by
  intro n
  induction n with
  | zero => intro i p hp; simp [rns] at hp
  | succ n ih =>
    intro i p hp
    simp only [rns] at hp
    split at hp
    · simp only [List.mem_cons] at hp
      rcases hp with rfl | hp
      · simp only [dR]
        have h0 := (s.get! i).toNat_lt
        simp only [Utf8.decode, Utf8.runeError, Nat.add_zero]
        repeat' split
        all_goals simp_all [Utf8.valid]
        all_goals omega
      · exact ih _ _ hp
    · simp at hp
theorem runes_len (s : ByteArray) : ∀ n i, (rns s n i).length ≤ n := by
  intro n
  induction n with
  | zero => intro i; simp [rns]
  | succ n ih => intro i; simp only [rns]; split <;> simp; have := ih (i + dN s i); omega

set_option maxHeartbeats 1000000 in
theorem c_rWidth (n : Int) (s : ByteArray) (w : World) (hs : s.size ≤ 100000) : Calls Try.prog 24 #[.int .i64 n, .string s] w fun e w' => e = .returned (.int .i64 (wid (zOf n) s)) ∧ Below w.heap.size w w' := by
  have hz := zOf_bd n
  go_enter Try.func24, Try.ntmps24
  go_wp2_with (go_at_call 23; refine (c_Runes _ _ (by omega)).mono ?_; rintro e w' ⟨u, v, rfl, hu, hv, _, hb⟩)
  have hr := RdS.of_own hu
  clear hu hv
  have hlen : (rOf (runes s)).length = (runes s).length := by simp [rOf]
  have hle : (runes s).length ≤ s.size := runes_len s _ _
  have hbd : ∀ k (h : k < (rOf (runes s)).length), 0 ≤ (rOf (runes s))[k] ∧ (rOf (runes s))[k] ≤ 1114111 := by
    intro k h
    simp only [rOf, List.getElem_map]
    exact runes_bd s _ _ _ (List.getElem_mem _)
  have htot : wSum' (zOf n) (rOf (runes s)) = wid (zOf n) s := (wSum_eq _ _).symm
  have HT := Lib.hid htot
  clear htot
  generalize hN : (runes s).length = N at *
  have HN := Lib.hid hN
  clear hN
  generalize rOf (runes s) = L at *
  obtain ⟨_, A, c, rfl, hNc, hcell⟩ := hr
  obtain ⟨w1, rfl⟩ : ∃ w1, w1 = w' := ⟨_, rfl⟩
  have HB := Lib.hid hbd
  have HC := Lib.hid hcell
  have HL := Lib.hid hlen
  clear hbd hcell hlen
  go_loopw [7, 8] (fun a i wr => ∃ (k m : Nat) (acc : Int), k ≤ N ∧ wr = w1.drewN m ∧ i = .int .i64 k ∧ a = .int .i64 acc ∧ Hid (acc = wSum' (zOf n) (L.take k)) ∧ 0 ≤ acc ∧ acc ≤ 16777216 * k) (fun _ i _ => N - (intOf i).toNat)
  case atStart => exact ⟨0, 0, 0, by omega, rfl, rfl, rfl, by simp [Hid, wSum'], by omega, by omega⟩
  case round =>
    obtain ⟨k, m, acc, hk, rfl, rfl, rfl, H, h0, h1⟩ := hrel
    by_cases hlt : k < N
    · have hkL : k < L.length := by rw [HL.out]; exact hlt
      obtain ⟨g, o, rfl, hg, hc⟩ := HC.out (by omega)
      have hx := HB.out k hkL
      have hcx := hc k (.int .i64 (L[k]'hkL)) (vInts_get L k hkL)
      have hst : Hid (wSum' (zOf n) (L.take (k + 1)) = wSum' (zOf n) (L.take k) + zOf n * adv (L[k]'hkL) / 1000) := wSum'_take _ _ _ hkL
      clear hc
      generalize L[k]'hkL = x at *
      have hb1 := term_bd (zOf n) x hz.1 hz.2
      have hi : (k : Int) < (N : Int) := by omega
      go_wp2_with fail
      go_quiet ((first | (go_at_call 62; first | exact q_left (c_Held1 _ _) | exact q_add (c_Held1 _ _)) | (go_at_call 60; first | exact q_left (c_Advance _ _) | exact q_add (c_Advance _ _))))
      go_wp2_with fail
      go_roundw
      case rel => exact ⟨k + 1, _, acc + zOf n * adv x / 1000, by omega, rfl, by go_num, by rw [tail_div _ hb1.1], by have h2 := hst.out; have h3 := H.out; unfold Hid; omega, by omega, by omega⟩
      case measure => simp [intOf]; omega
    · go_wp2_with fail
      go_ret
      have e : acc = wid (zOf n) s := by rw [H.out, ← HT.out, List.take_of_length_le (by rw [HL.out]; omega)]
      exact ⟨ret_int e, belowN hb _⟩
end Go.Proofs.Ytnjckpgacbibhaa
