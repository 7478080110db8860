/- seat C: shared: a part of something, piece by piece -/
import Derived.Test.YtdpnpjficcciiaaCc
import Derived.Test.YtdpnpjficcciiaaTt
namespace Go.Proofs.Ytdpnpjficcciiaa
set_option linter.unusedVariables false
set_option linter.unusedSimpArgs false
open Go.RowKit Go.Cas

theorem inf_int : (Try.prog.info? 3).map (fun i => (i.zero, i.size, i.bytes)) = some (some (.int .i64 0), 1, 8) := by kernel_rfl
theorem made_row (z : Value) (hz : z.cells = #[z]) (n : Nat) : madeCells z.cells (n * 1) = rowV n (fun _ => z) := by
  rw [hz, Nat.mul_one]
  apply Array.ext'
  apply List.ext_getElem?
  intro k
  simp only [madeCells, rowV, Array.toList_map, Array.toList_range, List.getElem?_map]
  by_cases hk : k < n
  · rw [List.getElem?_range hk]
    simp [Nat.mod_one]
  · simp [hk]
theorem make_I (w : World) (n : Nat) (hn : n ≤ 1000000) : ∃ w1, (Instr.makeSlice 27 (.int .i64 (n : Int)) (.int .i64 (n : Int))).run Try.prog w = .ok (.slice (some ⟨w.heap.size, 0, none⟩) n n) w1 ∧ Hid (w1 = w.alloc (.cells (rowV n (fun _ => .int .i64 0)) 3)) := by
  obtain ⟨i, hi, hz, h3, h4⟩ := info_parts inf_int
  have h := run_make (P := Try.prog) w 27 3 i (.int .i64 0) Try.underlying27 hi hz .i64 .i64 n n (by omega) (Int.le_refl _) (by rw [h4]; omega) (by omega)
  simp only [Int.toNat_natCast] at h
  rw [h3, made_row _ rfl] at h
  exact ⟨_, h, rfl⟩
theorem rd_int {w : World} {lim N k : Nat} {A : Option Addr} {c : Nat} {l : List Int} (h : RdS w lim 1 (.slice A N c) N (l.map (Value.int .i64))) (hk : k < N) : ∃ g o, A = some ⟨g, o, none⟩ ∧ g < lim ∧ ∀ w', Below lim w w' → w'.cell? ⟨g, o + k, none⟩ = some (.int .i64 (szA l k)) := by
  have hl : l.length = N := by have := h.1; simpa using this
  obtain ⟨_, A', c', e, _, hc⟩ := h
  injection e with e1 _ e2
  subst e1 e2
  obtain ⟨g, o, e, hg, hcell⟩ := hc (by omega)
  refine ⟨g, o, e, hg, fun w' hb => (hb.cell (p := ⟨g, _, none⟩) hg).trans (hcell k _ ?_)⟩
  rw [List.getElem?_map, List.getElem?_eq_getElem (by omega), szA_eq (List.getElem?_eq_getElem (by omega))]
  rfl
/-- what sharing leaves -/
def ShRet (w : World) (N : Nat) (f : Nat → Int) (e : Ending) (w' : World) : Prop := ∃ g, e = .returned (.slice (some ⟨g, 0, none⟩) N N) ∧ w.heap.size ≤ g ∧ Bk w' g 3 (rowV N (fun j => .int .i64 (f j))) ∧ Below w.heap.size w w'
set_option maxRecDepth 100000 in
set_option maxHeartbeats 8000000 in
theorem c_shared (a : Int) (v : Value) (l : List Int) (lim N : Nat) (w : World) (hr : RdS w lim 1 v N (l.map (Value.int .i64))) (hlim : lim ≤ w.heap.size) (hN : N ≤ 200) (hl : ∀ x ∈ l, 0 ≤ x ∧ x ≤ 16777216000000000) (ha : -4611686018427387904 ≤ a ∧ a ≤ 4611686018427387904) :
    Calls Try.prog 40 #[.int .i64 a, v] w (ShRet w N (shrD a l)) := by
  have hlen : l.length = N := by have := hr.1; simpa using this
  have HR := Lib.hid hr
  obtain ⟨_, A, c, rfl, hnc, _⟩ := hr
  have hsz : ∀ i, i < N → 0 ≤ szA l i ∧ szA l i ≤ 16777216000000000 := fun i hi => by
    rw [szA_eq (List.getElem?_eq_getElem (by omega))]; exact hl _ (List.getElem_mem (by omega))
  have hp : ∀ k, k ≤ N → 0 ≤ preF l k ∧ preF l k ≤ 3355443200000000000 ∧ preF l k ≤ preF l N := fun k hk => by
    have h1 := sumTo_bd hsz k hk
    have h2 := preF_bd (fun x hx => (hl x hx).1) (j := k) (by omega)
    rw [hlen] at h2
    unfold preF at *
    omega
  have HPB := Lib.hid hp
  have HSZ := Lib.hid hsz
  obtain ⟨W, hW⟩ : ∃ W, W = preF l N := ⟨_, rfl⟩
  have HW := Lib.hid hW
  have hWb := hp N (Nat.le_refl _)
  rw [← hW] at hWb
  have HSH : Hid (∀ j, shrD a l j = if W = 0 then 0 else a * preF l (j + 1) / W - a * preF l j / W) := fun j => by unfold shrD; rw [hlen, ← hW]
  obtain ⟨w1, hm1, HM1⟩ := make_I w N (by omega)
  have HG : Hid (Bk w1 w.heap.size 3 (rowV N (fun _ => .int .i64 0))) := by rw [HM1.out]; exact Bk.new _ _ _
  have HB1 : Hid (Below w.heap.size w w1) := by rw [HM1.out]; exact bl_alloc (Below.refl _ _) _
  clear hl hp hsz hlen
  go_enter Try.func40, Try.ntmps40
  go_wp2_with fail
  go_loop [5, 16] (fun s i => ∃ (k : Nat), k ≤ N ∧ i = .int .i64 k ∧ s = .int .i64 (preF l k)) (fun _ i => N - (intOf i).toNat)
  case atStart => exact ⟨0, by omega, rfl, rfl⟩
  case round =>
    obtain ⟨k, hk, rfl, rfl⟩ := hrel
    have hpk := HPB.out k hk
    rw [← HW.out] at hpk
    by_cases hlt : k < N
    · have hik : (k : Int) < (N : Int) := by omega
      obtain ⟨g, o, rfl, _, f⟩ := rd_int HR.out hlt
      have d0 := f w (Below.refl _ _)
      have hs := HSZ.out k hlt
      have HE : Hid (preF l (k + 1) = preF l k + szA l k) := rfl
      obtain ⟨P, hP⟩ : ∃ P, P = preF l k := ⟨_, rfl⟩
      rw [← hP] at hpk HE ⊢
      obtain ⟨z, hz⟩ : ∃ z, z = szA l k := ⟨_, rfl⟩
      rw [← hz] at d0 hs HE
      have v1 : IntKind.i64.wrap (P + z) = P + z := IntWalk.i64_in _ (by omega)
      clear f hP hz hW
      go_wp2_with fail
      go_round
      case rel => exact ⟨k + 1, by omega, by go_num, by rw [HE.out]⟩
      case measure => simp [intOf]; omega
    · obtain rfl : k = N := by omega
      have hik : ¬ (k : Int) < (k : Int) := by omega
      rw [← hW]
      clear hW hlt
      go_wp2_with fail
      obtain ⟨G, hG⟩ : ∃ G, G = w.heap.size := ⟨_, rfl⟩
      have HGG := Lib.hid hG
      rw [← hG] at HG
      try rw [← hG]
      clear hG hm1
      by_cases hW0 : W = 0
      · have HR0 : Hid (Bk w1 G 3 (rowV k (fun j => .int .i64 (shrD a l j)))) := by
          have e : rowV k (fun j => Value.int .i64 (shrD a l j)) = rowV k (fun _ => .int .i64 0) := rowV_congr (fun j _ => by rw [HSH.out, if_pos hW0])
          rw [e]; exact HG.out
        subst hW0
        by_cases hk0 : 0 < k
        · obtain ⟨g, o, rfl, hgl, f⟩ := rd_int HR.out hk0
          have d0 := f w1 (HB1.out.mono hlim)
          rw [Nat.add_zero] at d0
          have hk0i : (0 : Int) < (k : Int) := by omega
          clear f
          refine wp_loop_rounds 1 ?_
          rw [rounds_succ]
          go_wp2_with fail
          go_ret
          exact ⟨G, rfl, by rw [HGG.out]; exact Nat.le_refl _, HR0.out, HB1.out⟩
        · obtain rfl : k = 0 := by omega
          refine wp_loop_rounds 1 ?_
          rw [rounds_succ]
          go_wp2_with fail
          go_ret
          exact ⟨G, rfl, by rw [HGG.out]; exact Nat.le_refl _, HR0.out, HB1.out⟩
      · have hW1 : 0 < W := by omega
        have hWn : (W == 0) = false := by simpa using hW0
        go_loopw [9, 10, 29] (fun s h i wr => ∃ (j : Nat), j ≤ k ∧ i = .int .i64 j ∧ s = .int .i64 (preF l j) ∧ h = .int .i64 (a * preF l j / W) ∧ Hid (Bk wr G 3 (rowV k (fun q => if q < j then .int .i64 (shrD a l q) else .int .i64 0))) ∧ Hid (Below w.heap.size w wr)) (fun _ _ i _ => k - (intOf i).toNat)
        case atStart => exact ⟨0, by omega, rfl, rfl, by simp [preF, sumTo], by simpa [Hid] using HG.out, HB1.out⟩
        case round =>
          obtain ⟨j, hj, rfl, rfl, rfl, HRW, HBL⟩ := hrel
          have hpj := HPB.out j hj
          rw [← HW.out] at hpj
          by_cases hjk : j < k
          · have hik2 : (j : Int) < (k : Int) := by omega
            have hpj1 := HPB.out (j + 1) (by omega)
            rw [← HW.out] at hpj1
            obtain ⟨g, o, rfl, _, f⟩ := rd_int HR.out hjk
            have d0 := f wr (HBL.out.mono hlim)
            have hs := HSZ.out j hjk
            have q1 : wr.cell? ⟨G, j, none⟩ = some (.int .i64 0) := by rw [HRW.out.cell, rowV_get _ _ _ hjk]; simp
            have q2 := HRW.out.free j
            have q3 := HRW.out.lt
            have HT := fun W' => Lib.hid (c_Times a (preF l (j + 1)) W W' ha hpj1.1 hpj1.2.2 hW1 (by omega))
            have HT2 : Hid (∀ W', Calls Try.prog 33 #[.int .i64 a, .int .i64 (preF l (j + 1)), .int .i64 W] W' fun e w' => e = .returned (.int .i64 (a * preF l (j + 1) / W)) ∧ ∃ n, w' = W'.drewN n) := fun W' => c_Times a (preF l (j + 1)) W W' ha hpj1.1 hpj1.2.2 hW1 (by omega)
            have b1 := floor_bd (a := a) hpj.1 hpj.2.2 hW1
            have b2 := floor_bd (a := a) hpj1.1 hpj1.2.2 hW1
            have HE : Hid (preF l (j + 1) = preF l j + szA l j) := rfl
            have HSJ : Hid (shrD a l j = a * preF l (j + 1) / W - a * preF l j / W) := by unfold Hid; rw [HSH.out, if_neg hW0]
            clear HT f
            obtain ⟨P, hP⟩ : ∃ P, P = preF l j := ⟨_, rfl⟩
            obtain ⟨P2, hP2⟩ : ∃ P2, P2 = preF l (j + 1) := ⟨_, rfl⟩
            obtain ⟨z, hz⟩ : ∃ z, z = szA l j := ⟨_, rfl⟩
            rw [← hP, ← hP2, ← hz] at HE
            rw [← hP] at hpj b1
            rw [← hP2] at hpj1 b2 HT2
            rw [← hP, ← hP2] at HSJ
            rw [← hz] at d0 hs
            rw [← hP]
            obtain ⟨Fa, hFa⟩ : ∃ Fa, Fa = a * P / W := ⟨_, rfl⟩
            obtain ⟨Fb, hFb⟩ : ∃ Fb, Fb = a * P2 / W := ⟨_, rfl⟩
            rw [← hFa] at b1
            rw [← hFb] at b2 HT2
            rw [← hFa, ← hFb] at HSJ
            rw [← hFa]
            have HP2 : Hid (P2 = preF l (j + 1)) := hP2
            have HFb : Hid (Fb = a * preF l (j + 1) / W) := by rw [← hP2]; exact hFb
            have v1 : IntKind.i64.wrap (P + z) = P2 := by rw [← HE.out.symm]; exact IntWalk.i64_in _ (by have := HE.out; omega)
            have v2 : IntKind.i64.wrap (Fb - Fa) = Fb - Fa := IntWalk.i64_in _ (by omega)
            clear hP hP2 hz hFa hFb
            go_wp2_with fail
            refine (HT2.out _).mono ?_
            rintro e w5 ⟨rfl, nq, rfl⟩
            go_wp2_with fail
            go_roundw
            case rel =>
              refine ⟨j + 1, by omega, by go_num, by rw [HP2.out], by rw [HFb.out], ?_, ?_⟩
              · have h1 := (HRW.out.drewN nq).set_ j (.int .i64 (shrD a l j))
                rw [rowV_set, rowV_next k j (fun q => .int .i64 (shrD a l q)) (.int .i64 0) _ (fun q _ => rfl)] at h1
                rw [HSJ.out] at h1
                exact h1
              · exact bl_set (bl_drewN HBL.out _) G j (by rw [HGG.out]; exact Nat.le_refl _) _
            case measure => simp [intOf]; omega
          · obtain rfl : j = k := by omega
            have hik2 : ¬ (j : Int) < (j : Int) := by omega
            have HR0 : Hid (Bk wr G 3 (rowV j (fun q => .int .i64 (shrD a l q)))) := by
              have e : rowV j (fun q => Value.int .i64 (shrD a l q)) = rowV j (fun q => if q < j then .int .i64 (shrD a l q) else .int .i64 0) := rowV_congr (fun q hq => by rw [if_pos hq])
              rw [e]; exact HRW.out
            go_wp2_with fail
            go_ret
            exact ⟨G, rfl, by rw [HGG.out]; exact Nat.le_refl _, HR0.out, HBL.out⟩
end Go.Proofs.Ytdpnpjficcciiaa
