/- seat C: the reference's Within -/
import Derived.Test.YtdpnpjficcciiaaQa
import Derived.Deep.AppendLies
import Derived.Deep.DrawnRows
namespace Go.Proofs.Ytdpnpjficcciiaa
set_option linter.unusedVariables false
set_option linter.unusedSimpArgs false
open Go.RowKit Go.Cas
attribute [local go_sem ↓] Go.wp_at_zero Go.wp_at_succ

theorem bl_drewA {B : Nat} {w w' : World} (h : Below B w w') : Below B w w'.drew := ⟨h.os, h.tape, h.output, h.size, h.block⟩
theorem inf_QF : (Try.prog.info? 25).map (fun i => (i.zero, i.size, i.bytes)) = some (some (agF z0), 6, 48) := by kernel_rfl
set_option maxRecDepth 100000 in
set_option maxHeartbeats 8000000 in
theorem r_Within (v : Value) (I : List FI) (lim N : Nat) (w : World) (h : RdS w lim 6 v N (I.flatMap fi)) (hlim : lim ≤ w.heap.size) (hn : N ≤ 1000) : Calls Try.prog 21 #[v] w (AlRet w (min N 200) ((I.take 200).map hdI)) := by
  have hlen : I.length = N := by have := h.1; rw [fis_len] at this; omega
  have HLEN := Lib.hid hlen
  have HU := Lib.hid h
  obtain ⟨M, hM⟩ : ∃ M, M = min N 200 := ⟨_, rfl⟩
  have HM := Lib.hid hM
  have hM2 : M ≤ 200 ∧ M ≤ N := by omega
  have HTK : Hid (I.take 200 = I.take M) := by
    unfold Hid
    rcases Nat.lt_or_ge N 200 with h | h
    · rw [hM, Nat.min_eq_left (by omega), List.take_of_length_le (by omega), List.take_of_length_le (by omega)]
    · rw [hM, Nat.min_eq_right h]
  rw [← hM, HTK.out]
  have HB := Lib.hid (Below.refl w.heap.size w)
  obtain ⟨B, hB⟩ : ∃ B, B = w.heap.size := ⟨_, rfl⟩
  have HBE := Lib.hid hB
  rw [← hB] at HB
  have hlB : lim ≤ B := by omega
  obtain ⟨_, A, c, rfl, hnc, _⟩ := h
  clear hM hlen hB
  obtain ⟨i0, hi0, hz0, hz1, hz2⟩ := info_parts inf_QF
  go_enter Try.func21, Try.ntmps21
  go_wp2_with fail
  go_loopw [3, 4] (fun l i wr => ∃ (k : Nat), k ≤ M ∧ i = .int .i64 k ∧ Hid (wr.ownsRow B 25 6 l k (((I.take k).map hdI).flatMap fi)) ∧ Hid (Below B w wr) ∧ Hid (B ≤ wr.heap.size)) (fun _ i _ => M - (intOf i).toNat)
  case atStart => exact ⟨0, by omega, rfl, World.ownsRow_nil _ _ _ _, HB.out, by rw [HBE.out]; exact Nat.le_refl _⟩
  case round =>
    obtain ⟨k, hk, rfl, HO, HBL, HZ⟩ := hrel
    by_cases hlt : k < M
    · have hik : (k : Int) < (N : Int) := by omega
      have hik2 : (k : Int) < 200 := by omega
      obtain ⟨x, hx⟩ : ∃ x, I[k]? = some x := ⟨_, List.getElem?_eq_getElem (by rw [HLEN.out]; omega)⟩
      obtain ⟨g, o, rfl, _, f1⟩ := rd_fi HU.out (show k < N by omega) hx
      obtain ⟨d0, d1, d2, d3, d4, d5⟩ := f1 wr (HBL.out.mono hlB)
      have HTK1 : Hid (((I.take (k + 1)).map hdI).flatMap fi = ((I.take k).map hdI).flatMap fi ++ fi (hdI x)) := by
        obtain ⟨h1, h2⟩ := List.getElem?_eq_some_iff.1 hx
        unfold Hid
        rw [List.take_succ_eq_append_getElem h1, h2, List.map_append, List.flatMap_append]
        simp
      have HY : Hid (hdI x = ⟨max 0 (hld x.b), max 0 (hld x.mn), hld x.mx, hld x.ar, fac x.g, fac x.s⟩) := rfl
      clear hx f1
      obtain ⟨xb, xmn, xmx, xar, xg, xs⟩ := x
      simp only at d0 d1 d2 d3 d4 d5 HY
      rw [HY.out] at HTK1
      clear HY
      obtain ⟨R, hR⟩ : ∃ R, R = wr.heap.size := ⟨_, rfl⟩
      obtain ⟨w6, hw6⟩ : ∃ w6, w6 = wr.alloc (.cells #[.int .i64 xb, .int .i64 xmn, .int .i64 xmx, .int .i64 xar, .int .i64 xg, .int .i64 xs] 25) := ⟨_, rfl⟩
      have HX : Hid (Bk w6 R 25 #[.int .i64 xb, .int .i64 xmn, .int .i64 xmx, .int .i64 xar, .int .i64 xg, .int .i64 xs]) := by rw [hw6]; exact bk_new' _ _ _ hR
      have HB6 : Hid (Below wr.heap.size wr w6) := by rw [hw6]; exact bl_alloc (Below.refl _ _) _
      have HW6 := Lib.hid hw6
      have HRR := Lib.hid hR
      have HBX : Hid (Below B w w6) := HBL.out.trans (HB6.out.mono HZ.out)
      have HBx : Hid (B ≤ w6.heap.size) := Nat.le_trans HZ.out HB6.out.size
      have HO6 := Lib.hid ((Kept.of_below HB6.out (fun _ => False)).own HO.out (fun _ _ h => h))
      have HRB : Hid (R < w6.heap.size) := HX.out.lt
      have F : Hid (∀ w', Bk w' R 25 #[.int .i64 xb, .int .i64 xmn, .int .i64 xmx, .int .i64 xar, .int .i64 xg, .int .i64 xs] → (w'.cell? ⟨R, 0, none⟩ = some (.int .i64 xb) ∧ w'.cell? ⟨R, 1, none⟩ = some (.int .i64 xmn) ∧ w'.cell? ⟨R, 2, none⟩ = some (.int .i64 xmx) ∧ w'.cell? ⟨R, 3, none⟩ = some (.int .i64 xar) ∧ w'.cell? ⟨R, 4, none⟩ = some (.int .i64 xg) ∧ w'.cell? ⟨R, 5, none⟩ = some (.int .i64 xs))) := fun w' h => by
        have e := h.cell
        exact ⟨by rw [e]; rfl, by rw [e]; rfl, by rw [e]; rfl, by rw [e]; rfl, by rw [e]; rfl, by rw [e]; rfl⟩
      have HOF : Hid (u3.ownBlock ≠ some R) := fun e => by have := own_lt HO.out e; have := HRR.out; omega
      clear hw6 hR
      go_upto_region 6 with fail
      rw [← HRR.out, ← HW6.out]
      go_region_held3 (fun w' => w'.cell? ⟨R, 0, none⟩ = some (.int .i64 xb) ∧ w'.cell? ⟨R, 1, none⟩ = some (.int .i64 xmn) ∧ w'.cell? ⟨R, 2, none⟩ = some (.int .i64 xmx) ∧ w'.cell? ⟨R, 3, none⟩ = some (.int .i64 xar) ∧ w'.cell? ⟨R, 4, none⟩ = some (.int .i64 xg) ∧ w'.cell? ⟨R, 5, none⟩ = some (.int .i64 xs))
        (first
          | exact F.out _ HX.out
          | exact F.out _ (Bk.drew HX.out)
          | exact F.out _ (Bk.drew (HX.out.alloc _))
          | exact F.out _ HX5.out)
        ((first
          | (go_at_call 22; refine (r_Held _ _).mono ?_; rintro e w' ⟨rfl, rfl⟩)
          | (go_at_call 34; refine (r_most _ _ _).mono ?_; rintro e w' ⟨rfl, rfl⟩)
          | (go_at_call 36; refine (r_factor _ _).mono ?_; rintro e w' ⟨rfl, rfl⟩)
          | (refine step_append_lies _ (by rfl) _ _ _ (by rfl) B 25 i0 _ 6 48 Try.underlying22 hi0 hz0 hz1 hz2 rfl (by omega) u3 k (((I.take k).map hdI).flatMap fi) (by rfl) ((HO6.out.alloc _).drew) ⟨w6.heap.size, 0, none⟩ 1 1 [.int .i64 (max 0 (hld xb)), .int .i64 (max 0 (hld xmn)), .int .i64 (hld xmx), .int .i64 (hld xar), .int .i64 (fac xg), .int .i64 (fac xs)] (by rfl) (by rfl) (World.news_of_block (cs := #[.int .i64 (max 0 (hld xb)), .int .i64 (max 0 (hld xmn)), .int .i64 (hld xmx), .int .i64 (hld xar), .int .i64 (fac xg), .int .i64 (fac xs)]) (t := 25) (fr := (0, 0)) (Bk.drew (bk_new' w6 25 #[.int .i64 (max 0 (hld xb)), .int .i64 (max 0 (hld xmn)), .int .i64 (hld xmx), .int .i64 (hld xar), .int .i64 (fac xg), .int .i64 (fac xs)] rfl))) (by simp [Value.oneCell']) (by omega) (by unfold maxLen; omega) (by omega) (by have := HBx.out; simp; omega) (w6.heap.size + 1) (by simp) ?_; intro gg cap w5 hown5 hgrow5 hat5 hlt5; have HB5 := Lib.hid ((bl_drewA (HBX.out.alloc HBx.out _)).grown hgrow5 (by have := HBx.out; simp; omega) (fun k hk => (own_lt HO6.out hk).1)); have HX5 := Lib.hid ((Bk.drew (HX.out.alloc _)).grown hgrow5 (Ne.symm HOF.out)); have HW5 := Lib.hid hown5; have HZ5 := Lib.hid (Nat.lt_of_le_of_lt (own_lt hown5 (k := gg) rfl).1 hlt5); clear hown5)))
      go_wp2_with fail
      go_roundw
      case rel =>
        refine ⟨k + 1, by omega, by go_num, ?_, HB5.out, Nat.le_of_lt HZ5.out⟩
        rw [HTK1.out]; exact HW5.out
      case measure => simp [intOf]; omega
    · obtain rfl : k = M := by omega
      have htk : k = N ∨ k = 200 := by rw [HM.out]; omega
      rcases htk with rfl | rfl
      · have hik : ¬ (k : Int) < (k : Int) := by omega
        go_wp2_with fail
        go_ret
        exact ⟨u3, rfl, by have h := RdS.of_own HO.out; simpa using h, by rw [← HBE.out]; exact HBL.out⟩
      · rcases Nat.lt_or_ge 200 N with h2 | h2
        · have hik : ((200 : Nat) : Int) < (N : Int) := by omega
          go_wp2_with fail
          go_ret
          exact ⟨u3, rfl, by have h := RdS.of_own HO.out; simpa using h, by rw [← HBE.out]; exact HBL.out⟩
        · have hik : ¬ ((200 : Nat) : Int) < (N : Int) := by omega
          go_wp2_with fail
          go_ret
          exact ⟨u3, rfl, by have h := RdS.of_own HO.out; simpa using h, by rw [← HBE.out]; exact HBL.out⟩
end Go.Proofs.Ytdpnpjficcciiaa
