/- sheets: small letters, both sides -/
import Derived.Test.YtmhejppfjngbhaaDoorYg
namespace Go.Proofs.YtmhejppfjngbhaaDoor
set_option linter.unusedVariables false
set_option linter.unusedSimpArgs false
open Go.RowKit Go.Cas

theorem loC_val (c : UInt8) : (65 ≤ c.toNat ∧ c.toNat ≤ 90 → (loC c).toNat = c.toNat + 32) ∧ (¬ (65 ≤ c.toNat ∧ c.toNat ≤ 90) → loC c = c) := by
  unfold loC
  constructor
  · intro h
    rw [if_pos h, UInt8.toNat_add]
    have : (32 : UInt8).toNat = 32 := rfl
    omega
  · intro h; rw [if_neg h]
set_option maxRecDepth 100000 in
set_option maxHeartbeats 4000000 in
theorem c_rSmall (s : ByteArray) (w : World) (hs : s.size ≤ 140737488355328) : Calls Tryd.prog 25 #[.string s] w fun e w' => e = .returned (.string (small s)) ∧ Below w.heap.size w w' := by
  go_enter Tryd.func25, Tryd.ntmps25
  go_wp2_with fail
  go_loopw [3, 4] (fun o v wr => ∃ (k : Nat), k ≤ s.size ∧ v = .int .i64 (k : Int) ∧ o = .string ⟨((s.data.toList.take k).map loC).toArray⟩ ∧ Hid (Below w.heap.size w wr)) (fun _ v _ => s.size - (intOf v).toNat)
  case atStart => exact ⟨0, by omega, rfl, rfl, Below.refl _ _⟩
  case round =>
    obtain ⟨k, hk, rfl, rfl, HB⟩ := hrel
    by_cases hlt : k < s.size
    · have hki : (k : Int) < (s.size : Int) := by omega
      obtain ⟨o, ho⟩ : ∃ o : ByteArray, o = ⟨((s.data.toList.take k).map loC).toArray⟩ := ⟨_, rfl⟩
      rw [← ho]
      obtain ⟨c, hc⟩ : ∃ c, c = loC s[k] := ⟨_, rfl⟩
      have hcb : Sem.run Tryd.prog (convert 58 9 (.slice (some ⟨wr.heap.size, 0, none⟩) 1 1)) (wr.alloc (.cells #[.int .u8 (c.toNat : Int)] 5)) = .ok (.string ⟨#[c]⟩) (wr.alloc (.cells #[.int .u8 (c.toNat : Int)] 5)) :=
        run_convert_bytes_back (wr.alloc (.cells #[.int .u8 (c.toNat : Int)] 5)) 58 9 5 ⟨wr.heap.size, 0, none⟩ 1 [c] Tryd.underlying58 Tryd.underlying5 Tryd.underlying9 (fun j hj => by
          obtain rfl : j = 0 := by simpa using hj
          exact (Bk.new wr 5 #[.int .u8 (c.toNat : Int)]).cell 0)
      have HO : Hid (o ++ ⟨#[c]⟩ = ⟨((s.data.toList.take (k + 1)).map loC).toArray⟩) := by
        unfold Hid
        rw [ho, hc, List.take_succ_eq_append_getElem (by simpa using hlt), List.map_append]
        apply ByteArray.ext
        simp
        rfl
      have hoz : o.size = k := by
        rw [ho]
        show ((s.data.toList.take k).map loC).toArray.size = k
        have h5 : s.data.size = s.size := rfl
        simp; omega
      by_cases hu : 65 ≤ s[k].toNat ∧ s[k].toNat ≤ 90
      · have h1 : 65 ≤ (s[k].toNat : Int) := by omega
        have h2 : (s[k].toNat : Int) ≤ 90 := by omega
        have h3 : (s[k].toNat : Int) - 65 + 97 = (c.toNat : Int) := by have := (loC_val s[k]).1 hu; rw [← hc] at this; omega
        clear ho hc hu
        go_wp2_with fail
        go_roundw
        case rel => exact ⟨k + 1, by omega, by go_num, by rw [← HO.out], bl_alloc HB.out _⟩
        case measure => simp [intOf]; omega
      · have h4 := (loC_val s[k]).2 hu
        rw [← hc] at h4
        subst h4
        clear ho hc
        by_cases h5 : 65 ≤ (s[k].toNat : Int)
        · have h6 : ¬ (s[k].toNat : Int) ≤ 90 := by omega
          clear hu
          go_wp2_with fail
          go_roundw
          case rel => exact ⟨k + 1, by omega, by go_num, by rw [← HO.out], bl_alloc HB.out _⟩
          case measure => simp [intOf]; omega
        · clear hu
          go_wp2_with fail
          go_roundw
          case rel => exact ⟨k + 1, by omega, by go_num, by rw [← HO.out], bl_alloc HB.out _⟩
          case measure => simp [intOf]; omega
    · obtain rfl : k = s.size := by omega
      have HO : Hid ((⟨((s.data.toList.take s.size).map loC).toArray⟩ : ByteArray) = small s) := by
        unfold Hid small
        rw [List.take_of_length_le (by simp)]
      go_wp2_with fail
      go_ret
      exact ⟨by rw [← HO.out]; rfl, HB.out⟩
/-- the bytes of a text, small up to k -/
def SmC (b : Nat) (s : ByteArray) (k : Nat) (w : World) : Prop :=
  ∃ cur fr, w.heap[b]? = some (.cells cur 5 (fr, fr + 1)) ∧ s.size ≤ fr ∧ s.size ≤ cur.size ∧ ∀ j (h : j < s.size), cur[j]? = some (.int .u8 ((if j < k then loC s[j] else s[j]).toNat : Int))
theorem SmC.cell {b : Nat} {s : ByteArray} {k j : Nat} {w : World} (h : SmC b s k w) (hj : j < s.size) : w.cell? ⟨b, j, none⟩ = some (.int .u8 ((if j < k then loC s[j] else s[j]).toNat : Int)) ∧ w.frozen? ⟨b, j, none⟩ = false ∧ b < w.heap.size := by
  obtain ⟨cur, fr, h1, h2, h3, h4⟩ := h
  refine ⟨?_, ?_, (Array.getElem?_eq_some_iff.1 h1).1⟩
  · simp [World.cell?, h1, h4 j hj]
  · simp [World.frozen?, h1]; omega
theorem SmC.set_ {b : Nat} {s : ByteArray} {k : Nat} {w : World} (h : SmC b s k w) (hk : k < s.size) : SmC b s (k + 1) (w.setCell ⟨b, k, none⟩ (.int .u8 ((loC s[k]).toNat : Int))) := by
  obtain ⟨cur, fr, h1, h2, h3, h4⟩ := h
  refine ⟨cur.setIfInBounds k (.int .u8 ((loC s[k]).toNat : Int)), fr, by simp [World.setCell, Array.getElem?_modify, h1], h2, by simpa using h3, fun j hj => ?_⟩
  rw [Array.getElem?_setIfInBounds]
  by_cases e : k = j
  · subst e
    rw [if_pos rfl, if_pos (by omega), if_pos (by omega)]
  · rw [if_neg e, h4 j hj]
    by_cases e2 : j < k
    · rw [if_pos e2, if_pos (by omega)]
    · rw [if_neg e2, if_neg (by omega)]
theorem SmC.skip {b : Nat} {s : ByteArray} {k : Nat} {w : World} (h : SmC b s k w) (hk : k < s.size) (he : loC s[k] = s[k]) : SmC b s (k + 1) w := by
  obtain ⟨cur, fr, h1, h2, h3, h4⟩ := h
  refine ⟨cur, fr, h1, h2, h3, fun j hj => ?_⟩
  rw [h4 j hj]
  by_cases e : j = k
  · subst e
    rw [if_neg (by omega), if_pos (by omega), he]
  · by_cases e2 : j < k
    · rw [if_pos e2, if_pos (by omega)]
    · rw [if_neg e2, if_neg (by omega)]
set_option maxRecDepth 100000 in
set_option maxHeartbeats 4000000 in
theorem c_small (s : ByteArray) (w : World) (hs : s.size ≤ 140737488355328) : Calls Tryd.prog 18 #[.string s] w fun e w' => e = .returned (.string (small s)) ∧ Below w.heap.size w w' := by
  obtain ⟨cp, hcp⟩ : ∃ cp, cp = grownCap w s.size 0 5 := ⟨_, rfl⟩
  obtain ⟨w1, hw1⟩ : ∃ w1, w1 = w.drew.alloc (.cells (bytesRow s cp) 5 ((bytesRow s cp).size, (bytesRow s cp).size + 1)) := ⟨_, rfl⟩
  have hcv : Sem.run Tryd.prog (convert 9 58 (.string s)) w = .ok (.slice (some ⟨w.heap.size, 0, none⟩) s.size cp) w1 := by
    rw [hw1, hcp]
    exact run_bytes_of_string w _ _ _ s Tryd.underlying9 Tryd.underlying58 Tryd.underlying5
  have HS0 : Hid (SmC w.heap.size s 0 w1 ∧ Below w.heap.size w w1) := by
    refine ⟨⟨bytesRow s cp, (bytesRow s cp).size, ?_, ?_, ?_, fun j hj => ?_⟩, ?_⟩
    · rw [hw1]; show (w.heap.push _)[w.heap.size]? = _; simp
    · simp [bytesRow]
    · simp [bytesRow]
    · rw [if_neg (by omega)]; exact bytesRow_at s cp j hj
    · rw [hw1]; exact bl_alloc (bl_drew (Below.refl _ _)) _
  have hsI : (s.size : Int) ≤ 140737488355328 := by omega
  clear hw1 hcp
  go_enter Tryd.func18, Tryd.ntmps18
  go_wp2_with fail
  go_loopw [10] (fun v wr => ∃ (k : Nat), k ≤ s.size ∧ v = .int .i64 (k : Int) ∧ Hid (SmC w.heap.size s k wr ∧ Below w.heap.size w wr)) (fun v _ => s.size - (intOf v).toNat)
  case atStart => exact ⟨0, by omega, rfl, HS0.out⟩
  case round =>
    obtain ⟨k, hk, rfl, HS⟩ := hrel
    clear hcv
    by_cases hlt : k < s.size
    · have hki : (k : Int) < (s.size : Int) := by omega
      obtain ⟨p0, f0, l0⟩ := HS.out.1.cell hlt
      rw [if_neg (by omega)] at p0
      by_cases hu : 65 ≤ s[k].toNat ∧ s[k].toNat ≤ 90
      · have h1 : 65 ≤ (s[k].toNat : Int) := by omega
        have h2 : (s[k].toNat : Int) ≤ 90 := by omega
        have h3 : (s[k].toNat : Int) + 32 = ((loC s[k]).toNat : Int) := by have := (loC_val s[k]).1 hu; omega
        clear hu
        go_wp2_with fail
        go_roundw
        case rel => exact ⟨k + 1, by omega, by go_num, HS.out.1.set_ hlt, bl_set HS.out.2 _ _ (Nat.le_refl _) _⟩
        case measure => simp [intOf]; omega
      · have h4 := Lib.hid ((loC_val s[k]).2 hu)
        by_cases h5 : 65 ≤ (s[k].toNat : Int)
        · have h6 : ¬ (s[k].toNat : Int) ≤ 90 := by omega
          clear hu
          go_wp2_with fail
          go_roundw
          case rel => exact ⟨k + 1, by omega, by go_num, HS.out.1.skip hlt h4.out, HS.out.2⟩
          case measure => simp [intOf]; omega
        · clear hu
          go_wp2_with fail
          go_roundw
          case rel => exact ⟨k + 1, by omega, by go_num, HS.out.1.skip hlt h4.out, HS.out.2⟩
          case measure => simp [intOf]; omega
    · obtain rfl : k = s.size := by omega
      have hl : (s.data.toList.map loC).length = s.size := by simp
      have hcb : Sem.run Tryd.prog (convert 58 9 (.slice (some ⟨w.heap.size, 0, none⟩) s.size cp)) wr = .ok (.string (small s)) wr := by
        have := run_convert_bytes_back (P := Tryd.prog) wr 58 9 5 ⟨w.heap.size, 0, none⟩ cp (s.data.toList.map loC) Tryd.underlying58 Tryd.underlying5 Tryd.underlying9 (fun j hj => by
          have hj' : j < s.size := by rw [hl] at hj; exact hj
          obtain ⟨p0, _⟩ := HS.out.1.cell hj'
          rw [if_pos hj'] at p0
          rw [List.getElem_map, add_none, Nat.zero_add]
          exact p0)
        rw [hl] at this
        exact this
      go_wp2_with fail
      go_ret
      exact ⟨rfl, HS.out.2⟩
end Go.Proofs.YtmhejppfjngbhaaDoor
