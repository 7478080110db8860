/- sheets: strings' forms and the search: the document's -/
import Derived.Test.YtmhejppfjngbhaaDoorYi
namespace Go.Proofs.YtmhejppfjngbhaaDoor
set_option linter.unusedVariables false
set_option linter.unusedSimpArgs false
open Go.RowKit Go.Cas

theorem ext_one {s : ByteArray} {k : Nat} (h : k < s.size) : s.extract k (k + 1) = ⟨#[s[k]]⟩ := by
  apply ByteArray.ext
  rw [ByteArray.data_extract]
  apply Array.ext'
  rw [Array.toList_extract]
  simp [List.extract]
  rw [List.drop_eq_getElem_cons (by simpa using h)]
  simp
  rfl
theorem ba_app (a b : List UInt8) : (⟨a.toArray⟩ : ByteArray) ++ ⟨b.toArray⟩ = ⟨(a ++ b).toArray⟩ := by
  apply ByteArray.ext
  simp
theorem ba_size (a : List UInt8) : (⟨a.toArray⟩ : ByteArray).size = a.length := by
  show a.toArray.size = _
  simp
set_option maxHeartbeats 4000000 in
set_option maxRecDepth 100000 in
theorem c_rQuote (s : ByteArray) (w : World) (hs : s.size ≤ 1000000000) : Calls Tryd.prog 56 #[.string s] w fun e w' => e = .returned (.string ⟨(quo s.data.toList).toArray⟩) ∧ w = w' := by
  have hsI : (s.size : Int) ≤ 1000000000 := by omega
  go_enter Tryd.func56, Tryd.ntmps56
  go_wp2_with fail
  go_loopw [3, 4] (fun o v wr => ∃ (k : Nat), k ≤ s.size ∧ v = .int .i64 (k : Int) ∧ o = .string ⟨(34 :: (s.data.toList.take k).flatMap esc).toArray⟩ ∧ w = wr) (fun _ v _ => s.size - (intOf v).toNat)
  case atStart => exact ⟨0, by omega, rfl, rfl, rfl⟩
  case round =>
    obtain ⟨k, hk, rfl, rfl, rfl⟩ := hrel
    obtain ⟨o, ho⟩ : ∃ o : ByteArray, o = ⟨(34 :: (s.data.toList.take k).flatMap esc).toArray⟩ := ⟨_, rfl⟩
    rw [← ho]
    have hoz : o.size ≤ 2 * k + 1 := by
      rw [ho, ba_size, List.length_cons]
      have h1 := esc_len (s.data.toList.take k)
      rw [List.length_take] at h1
      have h2 : min k s.data.toList.length ≤ k := Nat.min_le_left _ _
      omega
    by_cases hlt : k < s.size
    · have hki : (k : Int) < (s.size : Int) := by omega
      have hki1 : (k : Int) + 1 ≤ (s.size : Int) := by omega
      have hk0 : 0 ≤ (k : Int) := by omega
      have hkk : (k : Int) ≤ (k : Int) + 1 := by omega
      have HET := Lib.hid (esc_take hlt)
      have HX := Lib.hid (ext_one hlt)
      have HO := Lib.hid ho
      by_cases hq : s[k] = 34 ∨ s[k] = 92
      · have HR : Hid (Value.string (o ++ ⟨#[92]⟩ ++ s.extract k (k + 1)) = .string ⟨(34 :: (s.data.toList.take (k + 1)).flatMap esc).toArray⟩) := by
          unfold Hid
          rw [HX.out, HO.out, HET.out, esc_hit hq]
          show Value.string (((⟨_⟩ : ByteArray) ++ ⟨[92].toArray⟩) ++ ⟨[s[k]].toArray⟩) = _
          rw [ba_app, ba_app]
          simp
        clear ho
        rcases hq with hq | hq
        · have hq2 : (s[k].toNat : Int) = 34 := by rw [hq]; rfl
          clear hq
          go_wp2_with fail
          go_roundw
          case rel => exact ⟨k + 1, by omega, by go_num, HR.out, by first | rfl | trivial⟩
          case measure => simp [intOf]; omega
        · have hq2 : (s[k].toNat : Int) = 92 := by rw [hq]; rfl
          clear hq
          go_wp2_with fail
          go_roundw
          case rel => exact ⟨k + 1, by omega, by go_num, HR.out, by first | rfl | trivial⟩
          case measure => simp [intOf]; omega
      · have HR : Hid (Value.string (o ++ s.extract k (k + 1)) = .string ⟨(34 :: (s.data.toList.take (k + 1)).flatMap esc).toArray⟩) := by
          unfold Hid
          rw [HX.out, HO.out, HET.out, esc_miss hq]
          show Value.string ((⟨_⟩ : ByteArray) ++ ⟨[s[k]].toArray⟩) = _
          rw [ba_app]
          simp
        have q1 : ¬ (s[k].toNat : Int) = 34 := fun e => hq (.inl (UInt8.toNat_inj.1 (by have : s[k].toNat = 34 := (by omega); rw [this]; rfl)))
        have q2 : ¬ (s[k].toNat : Int) = 92 := fun e => hq (.inr (UInt8.toNat_inj.1 (by have : s[k].toNat = 92 := (by omega); rw [this]; rfl)))
        have nb1 : ((s[k].toNat : Int) == 34) = false := beq_eq_false_iff_ne.2 q1
        have nb2 : ((s[k].toNat : Int) == 92) = false := beq_eq_false_iff_ne.2 q2
        clear hq ho
        go_wp2_with fail
        go_roundw
        case rel => exact ⟨k + 1, by omega, by go_num, HR.out, by first | rfl | trivial⟩
        case measure => simp [intOf]; omega
    · obtain rfl : k = s.size := by omega
      have HF : Hid (Value.string (o ++ ⟨#[34]⟩) = .string ⟨(quo s.data.toList).toArray⟩) := by
        unfold Hid quo
        rw [ho, List.take_of_length_le (by simp)]
        show Value.string ((⟨_⟩ : ByteArray) ++ ⟨[34].toArray⟩) = _
        rw [ba_app]; rfl
      clear ho
      go_wp2_with fail
      go_ret
      exact ⟨congrArg Ending.returned HF.out, rfl⟩
/-- the end of a comment, as it is looked for from a place on -/
def ixC (s : ByteArray) (j : Nat) : Int := Lib.index (s.data.toList.drop j) [42, 47]
theorem occ2 {s : ByteArray} {j q : Nat} : Lib.occAt (s.data.toList.drop j) [42, 47] q = decide (bt s (j + q) = 42 ∧ bt s (j + q + 1) = 47) := by
  unfold Lib.occAt
  rw [List.drop_drop]
  have := hp2 (s := s) (i := j + q) (a := 42) (b := 47) (by decide) (by decide)
  rw [ext_list] at this
  exact this
theorem ixC_hit {s : ByteArray} {j n : Nat} (h1 : j ≤ n) (h2 : bt s n = 42 ∧ bt s (n + 1) = 47) (h3 : ∀ q, j ≤ q → q < n → ¬ (bt s q = 42 ∧ bt s (q + 1) = 47)) : ixC s j = ((n - j : Nat) : Int) := by
  have hlt : n < s.size := Decidable.byContradiction fun e => by rw [bt_out (by omega)] at h2; exact absurd h2.1 (by decide)
  refine Lib.index_first (by simp; have : s.data.size = s.size := rfl; omega) ?_ fun q hq => ?_
  · rw [occ2, decide_eq_true_eq, show j + (n - j) = n by omega]; exact h2
  · rw [occ2, decide_eq_false_iff_not]; exact h3 _ (by omega) (by omega)
theorem ixC_none {s : ByteArray} {j : Nat} (h3 : ∀ q, j ≤ q → ¬ (bt s q = 42 ∧ bt s (q + 1) = 47)) : ixC s j = -1 := by
  refine Lib.index_none fun q hq => ?_
  rw [occ2, decide_eq_false_iff_not]; exact h3 _ (by omega)
theorem ext_two {s : ByteArray} {k : Nat} (h : k + 2 ≤ s.size) : (s.extract k (k + 2) = ⟨#[42, 47]⟩) ↔ (bt s k = 42 ∧ bt s (k + 1) = 47) := by
  have e1 : s.extract k (k + 2) = ⟨#[s[k], s[k + 1]]⟩ := by
    apply ByteArray.ext
    rw [ByteArray.data_extract]
    apply Array.ext'
    rw [Array.toList_extract]
    simp [List.extract]
    rw [List.drop_eq_getElem_cons (by simpa using (by omega : k < s.size)), List.drop_eq_getElem_cons (by simpa using (by omega : k + 1 < s.size))]
    simp
    exact ⟨rfl, rfl⟩
  rw [e1, bt_eq (by omega : k < s.size), bt_eq (by omega : k + 1 < s.size)]
  constructor
  · intro h; injection h with h; simpa using h
  · rintro ⟨h1, h2⟩; rw [h1, h2]
/-- where it is; -1 -/
def fndV (s : ByteArray) (j : Nat) : Int := if 0 ≤ ixC s j then (j : Int) + ixC s j else -1
set_option maxHeartbeats 4000000 in
set_option maxRecDepth 100000 in
theorem c_rFind (s : ByteArray) (j : Nat) (w : World) (hj : j ≤ s.size) (hs : s.size ≤ 1000000000) : Calls Tryd.prog 22 #[.string s, .string (ByteArray.mk #[42, 47]), .int .i64 (j : Int)] w fun e w' => e = .returned (.int .i64 (fndV s j)) ∧ w = w' := by
  have hsI : (s.size : Int) ≤ 1000000000 := by omega
  go_enter Tryd.func22, Tryd.ntmps22
  go_wp2_with fail
  go_loopw [7] (fun v wr => ∃ (n : Nat), j ≤ n ∧ n ≤ s.size ∧ v = .int .i64 (n : Int) ∧ Hid (∀ q, j ≤ q → q < n → ¬ (bt s q = 42 ∧ bt s (q + 1) = 47)) ∧ w = wr) (fun v _ => s.size - (intOf v).toNat)
  case atStart => exact ⟨j, Nat.le_refl _, hj, rfl, fun q h1 h2 => by omega, rfl⟩
  case round =>
    obtain ⟨n, hjn, hn, rfl, HA, rfl⟩ := hrel
    by_cases hlt : n + 2 ≤ s.size
    · have hki : (n : Int) + 2 ≤ (s.size : Int) := by omega
      have hk0 : 0 ≤ (n : Int) := by omega
      have hkk : (n : Int) ≤ (n : Int) + 2 := by omega
      have HX := Lib.hid (ext_two hlt)
      have HL : Hid ((s.extract n (n + 2)).toList = [42, 47] ↔ s.extract n (n + 2) = ⟨#[42, 47]⟩) := by
        unfold Hid
        rw [ByteArray.toList_eq]
        constructor
        · intro h; apply ByteArray.ext; apply Array.ext'; exact h
        · intro h; rw [h]
      by_cases hq : s.extract n (n + 2) = ⟨#[42, 47]⟩
      · have HR : Hid (fndV s j = (n : Int)) := by
          unfold Hid fndV
          rw [ixC_hit hjn (HX.out.1 hq) HA.out, if_pos (by omega)]; omega
        have nb : ((s.extract n (n + 2)).toList == [42, 47]) = true := beq_iff_eq.2 (HL.out.2 hq)
        clear hq
        go_wp2_with fail
        go_ret
        exact ⟨ret_int (by rw [HR.out]), rfl⟩
      · have HN := Lib.hid (fun e => hq (HX.out.2 e))
        have nb : ((s.extract n (n + 2)).toList == [42, 47]) = false := beq_eq_false_iff_ne.2 (fun e => hq (HL.out.1 e))
        clear hq
        go_wp2_with fail
        go_roundw
        case rel => exact ⟨n + 1, by omega, by omega, by go_num, fun q h1 h2 => by
          by_cases e : q = n
          · subst e; exact HN.out
          · exact HA.out q h1 (by omega), by first | rfl | trivial⟩
        case measure => simp [intOf]; omega
    · have hki : ¬ (n : Int) + 2 ≤ (s.size : Int) := by omega
      have HR : Hid (fndV s j = -1) := by
       unfold Hid fndV
       rw [ixC_none fun q hq => by
        by_cases e : q < n
        · exact HA.out q hq e
        · intro h2
          have : q + 1 < s.size := Decidable.byContradiction fun e => by rw [bt_out (i := q + 1) (by omega)] at h2; exact absurd h2.2 (by decide)
          omega]
       rfl
      go_wp2_with fail
      go_ret
      exact ⟨ret_int (by rw [HR.out]), rfl⟩
end Go.Proofs.YtmhejppfjngbhaaDoor
