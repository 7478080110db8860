/- FlexPlaces: the program's Spread -/
import Derived.Test.YtnjckpgacbibhaaSp
import Derived.Laws.MakeOwn
namespace Go.Proofs.Ytnjckpgacbibhaa
set_option linter.unusedVariables false
set_option linter.unusedSimpArgs false
open Go.RowKit Go.Cas

theorem make_ints (w : World) (n : Nat) (hn : n ≤ 1000000) : ∃ w1, (Instr.makeSlice 28 (.int .i64 (n : Int)) (.int .i64 (n : Int))).run Try.prog w = .ok (.slice (some ⟨w.heap.size, 0, none⟩) n n) w1 ∧ Bk w1 w.heap.size 3 (vInts (List.replicate n 0)).toArray ∧ Below w.heap.size w w1 ∧ w1.heap.size = w.heap.size + 1 := by
  obtain ⟨i, hi, hz, h3, h4⟩ := info_parts inf_int
  have h := run_make (P := Try.prog) w 28 3 i (.int .i64 0) Try.underlying28 hi hz .i64 .i64 n n (by omega) (Int.le_refl _) (by rw [h4]; omega) (by omega)
  simp only [Int.toNat_natCast] at h
  refine ⟨_, h, ?_, bl_alloc (Below.refl _ _) _, by simp⟩
  have e : madeCells (Value.int .i64 0).cells (n * i.size) = (vInts (List.replicate n 0)).toArray := by
    rw [h3]
    apply Array.ext'
    apply List.ext_getElem?
    intro k
    simp only [madeCells, vInts, Value.cells, Nat.mul_one, Array.toList_map, List.getElem?_map, Array.toList_range, List.map_replicate]
    by_cases hk : k < n
    · rw [List.getElem?_range hk]
      simp [hk, Nat.mod_one]
    · simp [hk]
  rw [e]
  exact Bk.new _ _ _
theorem set_step (xs : List Int) (m : Nat) (v : Int) (hm : 0 < m) : (vInts (xs ++ List.replicate m 0)).toArray.setIfInBounds xs.length (.int .i64 v) = (vInts (xs ++ [v] ++ List.replicate (m - 1) 0)).toArray := by
  obtain ⟨m, rfl⟩ : ∃ j, m = j + 1 := ⟨m - 1, by omega⟩
  simp [vInts, List.replicate_succ]
theorem rds_bk {w : World} {g : Nat} {t : TypeId} {ys : List Value} {n : Nat} (h : Bk w g t ys.toArray) (hn : ys.length = n) : RdS w w.heap.size 1 (.slice (some ⟨g, 0, none⟩) n n) n ys :=
  ⟨by omega, _, _, rfl, Nat.le_refl _, fun _ => ⟨g, 0, rfl, h.lt, fun j u hu => by rw [h.cell]; simpa using hu⟩⟩
theorem cell0 (xs : List Int) (m j : Nat) (h : xs.length = j) (hm : 0 < m) : (vInts (xs ++ List.replicate m 0)).toArray[j]? = some (.int .i64 0) := by
  subst h
  obtain ⟨m, rfl⟩ : ∃ q, m = q + 1 := ⟨m - 1, by omega⟩
  simp [vInts, List.replicate_succ]
theorem wr2 (a b c : Int) (h1 : -9223372036854775808 ≤ b) (h2 : b ≤ 9223372036854775807) (h : a - b = c) (h3 : -9223372036854775808 ≤ c) (h4 : c ≤ 9223372036854775807) : wrap64 (a - wrap64 b) = c := by
  rw [IntWalk.wrap64_in b ⟨h1, h2⟩, h, IntWalk.wrap64_in c ⟨h3, h4⟩]
theorem bk_push {wr : World} {g : Nat} {t : TypeId} {xs : List Int} {m k : Nat} {V T : Int} (h : Bk wr g t (vInts (xs ++ List.replicate m 0)).toArray) (hk : xs.length = k) {m' : Nat} (hm' : m' = m - 1) (hm : 0 < m) (hv : V = T) : Bk (wr.setCell ⟨g, k, none⟩ (.int .i64 V)) g t (vInts (xs ++ [T] ++ List.replicate m' 0)).toArray := by
  subst hv hk hm'
  rw [← set_step xs m V hm]
  exact h.set_ _ _
def sprT (how room gap : Int) (l : List Int) : List Int :=
  spr how (hld room - gpM (hld gap) l.length - sumH l) l.length (hld gap) 0 0 l

set_option maxRecDepth 100000 in
set_option maxHeartbeats 4000000 in
theorem c_SpreadF (v : Value) (l : List Int) (lim N : Nat) (room gap how : Int) (w : World) (h : RdS w lim 1 v N (vInts l)) (hN : N ≤ 1000) (hlim : lim ≤ w.heap.size) (M : Nat) (ws : List Int) (hM : M = min N 200) (hws : ws = l.take 200) : Calls Try.prog 34 #[v, .int .i64 room, .int .i64 gap, .int .i64 how] w fun e w' => ∃ u, e = .returned u ∧ RdS w' w'.heap.size 1 u M (vInts (sprT how room gap ws)) ∧ Below w.heap.size w w' := by
  have hl : l.length = N := by have := h.1; simpa [vInts] using this
  have hwl : ws.length = M := by rw [hws, hM, List.length_take, hl, Nat.min_comm]
  have hM2 : M ≤ 200 := by omega
  unfold sprT
  rw [hwl]
  have g1 := hld_bd gap
  have g2 := hld_bd room
  have hpb := gpM_bd (hld gap) M g1 (by omega)
  obtain ⟨lf, hlf⟩ : ∃ lf, lf = hld room - gpM (hld gap) M := ⟨_, rfl⟩
  have hg0 : (1 : Int) < M → hld room - hld gap * ((M : Int) - 1) = lf ∧ -16777216 * 500 ≤ hld gap * ((M : Int) - 1) ∧ hld gap * ((M : Int) - 1) ≤ 16777216 * 500 := by
    intro h1
    rw [hlf]
    unfold gpM at hpb ⊢
    rw [show max 0 ((M : Int) - 1) = (M : Int) - 1 from by omega] at hpb ⊢
    omega
  have hg1 : ¬ (1 : Int) < M → hld room = lf := by
    intro h1
    rw [hlf]
    unfold gpM
    rw [show max 0 ((M : Int) - 1) = 0 from by omega, Int.mul_zero]
    omega
  have hlb : -16777216 * 501 ≤ lf ∧ lf ≤ 16777216 * 501 := by omega
  have HT := Lib.hid hlf
  have HW := Lib.hid hwl
  have HM := Lib.hid hM
  have HWS := Lib.hid hws
  have HL := Lib.hid hl
  clear hlf hpb hwl hM hws hl
  go_enter Try.func34, Try.ntmps34
  go_wp2_with (first | (go_at_call 72; refine (c_few _ _ ws _ _ M _ h hN HM.out HWS.out).mono ?_; rintro e w' ⟨⟨u, rfl, hl2, A, c, rfl, hnc, hcell⟩, rfl⟩) | (go_at_call 73; refine (c_heldF _ _).mono ?_; rintro e w' ⟨rfl, rfl⟩))
  all_goals
    have HC := Lib.hid hcell
    clear hcell
    go_loopw [10, 34] (fun a i wr => ∃ (k : Nat), k ≤ M ∧ w = wr ∧ i = .int .i64 k ∧ a = .int .i64 (lf - sumH (ws.take k))) (fun _ i _ => M - (intOf i).toNat)
    case atStart => exact ⟨0, by omega, by first | rfl | trivial, rfl, by simp [sumH]; exact wr2 _ _ _ (by omega) (by omega) (by omega) (by omega) (by omega)⟩
    case round =>
      obtain ⟨k, hk, rfl, rfl, rfl⟩ := hrel
      by_cases hlt : k < M
      · have hkL : k < ws.length := by rw [HW.out]; exact hlt
        obtain ⟨g, o, rfl, hg, hc⟩ := HC.out (by omega)
        have hcx := hc k (.int .i64 (ws[k]'hkL)) (vInts_get ws k hkL)
        have hst := Lib.hid (sumH_take ws k _ (List.getElem?_eq_getElem hkL))
        have hsb := sumH_bd (ws.take k)
        rw [List.length_take, HW.out] at hsb
        clear hc
        generalize ws[k]'hkL = x at *
        have hxb := hld_bd x
        have hi : (k : Int) < (M : Int) := by omega
        go_wp2_with (go_at_call 73; refine (c_heldF _ _).mono ?_; rintro e w' ⟨rfl, rfl⟩)
        go_roundw
        case rel => exact ⟨k + 1, by omega, by first | rfl | trivial, by go_num, by rw [hst.out]; first | (congr 1; omega) | (rw [IntWalk.wrap64_in _ ⟨by omega, by omega⟩]; congr 1; omega)⟩
        case measure => simp [intOf]; omega
      · have ek : k = M := by omega
        subst ek
        have hk2 : ws.take k = ws := List.take_of_length_le (by rw [HW.out]; omega)
        rw [hk2]
        have hsb := sumH_bd ws
        rw [HW.out] at hsb
        obtain ⟨left, hleft⟩ : ∃ left, left = lf - sumH ws := ⟨_, rfl⟩
        rw [← hleft]
        have HLEFT := Lib.hid hleft
        have hlb2 : left ≤ 16777216 * 800 ∧ -16777216 * 800 ≤ left := by omega
        clear hleft
        have hi : ¬ (k : Int) < (k : Int) := by omega
        obtain ⟨w1, hm1, hm2, hm3, hm4⟩ := make_ints w k (by omega)
        go_wp2_with fail
        have HS := Lib.hid (spr_drop how left k (hld gap))
        have hbd1 := hm3.size
        obtain ⟨T, hT⟩ : ∃ T, T = spr how left k (hld gap) 0 0 ws := ⟨_, rfl⟩
        have HTT := Lib.hid hT
        have HK := Lib.hid hm3
        clear hT hm3 hm1 hlb hsb hg0 hg1
        by_cases h3 : how = 3
        · subst h3
          go_loopw [14, 47] (fun a i wr => ∃ (j : Nat) (at_ : Int) (xs : List Int), i = .int .i64 j ∧ j ≤ k ∧ a = .int .i64 at_ ∧ -16777216 * 2 * j ≤ at_ ∧ at_ ≤ 16777216 * 2 * j ∧ xs.length = j ∧ Hid (Bk wr w.heap.size 3 (vInts (xs ++ List.replicate (k - j) 0)).toArray) ∧ Hid (Below w.heap.size w wr) ∧ Hid (xs ++ spr 3 left k (hld gap) j at_ (ws.drop j) = T)) (fun _ i _ => k - (intOf i).toNat)
          case atStart => exact ⟨0, 0, [], rfl, by omega, rfl, by omega, by omega, rfl, hm2, HK.out, by simp [Hid, HTT.out]⟩
          case round =>
            obtain ⟨j, at_, xs, rfl, hj, rfl, ha1, ha2, hxl, HB, HBL, H⟩ := hrel
            by_cases hlt : j < k
            · have hkL : j < ws.length := by rw [HW.out]; exact hlt
              obtain ⟨g, o, rfl, hg, hc⟩ := HC.out (by omega)
              have hcx := (HBL.out.cell (p := ⟨g, o + j, none⟩) (by show g < _; omega)).trans (hc j (.int .i64 (ws[j]'hkL)) (vInts_get ws j hkL))
              have hst := Lib.hid (HS.out j at_ _ ws (List.getElem?_eq_getElem hkL))
              clear hc
              generalize ws[j]'hkL = x at *
              have hxb := hld_bd x
              obtain ⟨s1, s2, s3, s4, s5, s6⟩ := shares left j k hlb2.1 (by omega)
              unfold Hid at s1 s2 s3 s4 s5 s6
              have hi : (j : Int) < (k : Int) := by omega
              have hk0 : 0 < k := by omega
              have hc1 : wr.cell? ⟨w.heap.size, j, none⟩ = some (.int .i64 0) := (HB.out.cell j).trans (cell0 xs (k - j) j hxl (by omega))
              have hf1 := HB.out.free j
              have hlt1 := HB.out.lt
              go_wp2_with (first | (go_at_call 73; refine (c_heldF _ _).mono ?_; rintro e w' ⟨rfl, rfl⟩) | (go_at_call 74; refine (c_floor2 _ _ (by omega)).mono ?_; rintro e w' ⟨rfl, rfl⟩))
              all_goals
                go_roundw
                case rel =>
                  refine ⟨j + 1, at_ + (hld x + hld gap), xs ++ [at_ + latF 3 left k j], by go_num, by omega, by go_num, by omega, by omega, by simp [hxl], bk_push HB.out hxl (by omega) (by omega) ?_, bl_set HBL.out _ _ (Nat.le_refl _) _, ?_⟩
                  · unfold latF
                    (try simp only [beq_iff_eq, beq_eq_false_iff_ne, ne_eq] at *)
                    clear hc1 hf1 hlt1 hcx
                    repeat' split
                    all_goals first | omega | (exfalso; simp only [true_and] at *; omega)
                  · have h1 := H.out
                    rw [hst.out] at h1
                    unfold Hid
                    simpa using h1
                case measure => simp [intOf]; omega
            · have ej : j = k := by omega
              subst ej
              have hi : ¬ (j : Int) < (j : Int) := by omega
              have e : xs = T := by have := H.out; rw [List.drop_eq_nil_of_le (by rw [HW.out]; omega)] at this; simpa [spr] using this
              subst e
              have hb2 := HB.out
              rw [Nat.sub_self, List.replicate_zero, List.append_nil, HTT.out] at hb2
              have hr := rds_bk (n := j) hb2 (by simp [vInts, spr_len, HW.out])
              go_wp2_with fail
              go_ret
              have hT2 := HT.out
              have hL2 := HLEFT.out
              rw [hT2] at hL2
              rw [hL2] at hr
              exact ⟨_, rfl, hr, HBL.out⟩
        · skip
          go_loopw [14, 47] (fun a i wr => ∃ (j : Nat) (at_ : Int) (xs : List Int), i = .int .i64 j ∧ j ≤ k ∧ a = .int .i64 at_ ∧ -16777216 * 2 * j ≤ at_ ∧ at_ ≤ 16777216 * 2 * j ∧ xs.length = j ∧ Hid (Bk wr w.heap.size 3 (vInts (xs ++ List.replicate (k - j) 0)).toArray) ∧ Hid (Below w.heap.size w wr) ∧ Hid (xs ++ spr how left k (hld gap) j at_ (ws.drop j) = T)) (fun _ i _ => k - (intOf i).toNat)
          case atStart => exact ⟨0, 0, [], rfl, by omega, rfl, by omega, by omega, rfl, hm2, HK.out, by simp [Hid, HTT.out]⟩
          case round =>
            obtain ⟨j, at_, xs, rfl, hj, rfl, ha1, ha2, hxl, HB, HBL, H⟩ := hrel
            by_cases hlt : j < k
            · have hkL : j < ws.length := by rw [HW.out]; exact hlt
              obtain ⟨g, o, rfl, hg, hc⟩ := HC.out (by omega)
              have hcx := (HBL.out.cell (p := ⟨g, o + j, none⟩) (by show g < _; omega)).trans (hc j (.int .i64 (ws[j]'hkL)) (vInts_get ws j hkL))
              have hst := Lib.hid (HS.out j at_ _ ws (List.getElem?_eq_getElem hkL))
              clear hc
              generalize ws[j]'hkL = x at *
              have hxb := hld_bd x
              obtain ⟨s1, s2, s3, s4, s5, s6⟩ := shares left j k hlb2.1 (by omega)
              unfold Hid at s1 s2 s3 s4 s5 s6
              have hi : (j : Int) < (k : Int) := by omega
              have hk0 : 0 < k := by omega
              have hc1 : wr.cell? ⟨w.heap.size, j, none⟩ = some (.int .i64 0) := (HB.out.cell j).trans (cell0 xs (k - j) j hxl (by omega))
              have hf1 := HB.out.free j
              have hlt1 := HB.out.lt
              go_wp2_with (first | (go_at_call 73; refine (c_heldF _ _).mono ?_; rintro e w' ⟨rfl, rfl⟩) | (go_at_call 74; refine (c_floor2 _ _ (by omega)).mono ?_; rintro e w' ⟨rfl, rfl⟩))
              all_goals
                go_roundw
                case rel =>
                  refine ⟨j + 1, at_ + (hld x + hld gap), xs ++ [at_ + latF how left k j], by go_num, by omega, by go_num, by omega, by omega, by simp [hxl], bk_push HB.out hxl (by omega) (by omega) ?_, bl_set HBL.out _ _ (Nat.le_refl _) _, ?_⟩
                  · unfold latF
                    (try simp only [beq_iff_eq, beq_eq_false_iff_ne, ne_eq] at *)
                    clear hc1 hf1 hlt1 hcx
                    repeat' split
                    all_goals first | omega | (exfalso; simp only [true_and] at *; omega)
                  · have h1 := H.out
                    rw [hst.out] at h1
                    unfold Hid
                    simpa using h1
                case measure => simp [intOf]; omega
            · have ej : j = k := by omega
              subst ej
              have hi : ¬ (j : Int) < (j : Int) := by omega
              have e : xs = T := by have := H.out; rw [List.drop_eq_nil_of_le (by rw [HW.out]; omega)] at this; simpa [spr] using this
              subst e
              have hb2 := HB.out
              rw [Nat.sub_self, List.replicate_zero, List.append_nil, HTT.out] at hb2
              have hr := rds_bk (n := j) hb2 (by simp [vInts, spr_len, HW.out])
              go_wp2_with fail
              go_ret
              have hT2 := HT.out
              have hL2 := HLEFT.out
              rw [hT2] at hL2
              rw [hL2] at hr
              exact ⟨_, rfl, hr, HBL.out⟩
end Go.Proofs.Ytnjckpgacbibhaa
