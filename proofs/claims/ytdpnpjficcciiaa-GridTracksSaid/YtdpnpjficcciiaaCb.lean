/- seat C: the items held; what one of them wants -/
import Derived.Test.YtdpnpjficcciiaaCa
import Derived.Test.YtdpnpjficcciiaaPa
import Derived.Deep.RegionHeld3
import Derived.IntWalk
namespace Go.Proofs.Ytdpnpjficcciiaa
set_option linter.unusedVariables false
set_option linter.unusedSimpArgs false
open Go.RowKit Go.Cas

theorem fis_len (L : List FI) : (L.flatMap fi).length = L.length * 6 := flat_len fi 6 (fun _ => rfl) L
theorem fis_get {L : List FI} {i k : Nat} {x : FI} (h : L[i]? = some x) (hk : k < 6) : (L.flatMap fi)[i * 6 + k]? = (fi x)[k]? := flat_get fi 6 (fun _ => rfl) L i k x h hk
theorem inf_FI : (Try.prog.info? 26).map (fun i => (i.zero, i.size, i.bytes)) = some (some (agF z0), 6, 48) := by kernel_rfl
theorem fi_cells {w : World} {g o : Nat} {L : List FI} {k : Nat} {x : FI} (hc : ∀ j u, (L.flatMap fi)[j]? = some u → w.cell? ⟨g, o + j, none⟩ = some u) (hk : L[k]? = some x) :
    w.cell? ⟨g, o + k * 6, none⟩ = some (.int .i64 x.b) ∧ w.cell? ⟨g, o + k * 6 + 1, none⟩ = some (.int .i64 x.mn) ∧ w.cell? ⟨g, o + k * 6 + 2, none⟩ = some (.int .i64 x.mx) ∧ w.cell? ⟨g, o + k * 6 + 3, none⟩ = some (.int .i64 x.ar) ∧ w.cell? ⟨g, o + k * 6 + 4, none⟩ = some (.int .i64 x.g) ∧ w.cell? ⟨g, o + k * 6 + 5, none⟩ = some (.int .i64 x.s) := by
  have h : ∀ j, j < 6 → ∀ u, (fi x)[j]? = some u → w.cell? ⟨g, o + k * 6 + j, none⟩ = some u := fun j hj u hu => by
    have := hc (k * 6 + j) u (by rw [fis_get hk hj]; exact hu)
    rwa [← Nat.add_assoc] at this
  exact ⟨h 0 (by omega) _ rfl, h 1 (by omega) _ rfl, h 2 (by omega) _ rfl, h 3 (by omega) _ rfl, h 4 (by omega) _ rfl, h 5 (by omega) _ rfl⟩
/-- an item's cells in each later world -/
theorem rd_fi {w : World} {lim n k : Nat} {A : Option Addr} {c : Nat} {L : List FI} {x : FI} (h : RdS w lim 6 (.slice A n c) n (L.flatMap fi)) (hk : k < n) (hx : L[k]? = some x) : ∃ g o, A = some ⟨g, o, none⟩ ∧ g < lim ∧ ∀ w', Below lim w w' →
    (w'.cell? ⟨g, o + k * 6, none⟩ = some (.int .i64 x.b) ∧ w'.cell? ⟨g, o + k * 6 + 1, none⟩ = some (.int .i64 x.mn) ∧ w'.cell? ⟨g, o + k * 6 + 2, none⟩ = some (.int .i64 x.mx) ∧ w'.cell? ⟨g, o + k * 6 + 3, none⟩ = some (.int .i64 x.ar) ∧ w'.cell? ⟨g, o + k * 6 + 4, none⟩ = some (.int .i64 x.g) ∧ w'.cell? ⟨g, o + k * 6 + 5, none⟩ = some (.int .i64 x.s)) := by
  obtain ⟨_, A', c', e, _, hc⟩ := h
  injection e with e1 _ e2
  subst e1 e2
  obtain ⟨g, o, e, hg, hcell⟩ := hc (by omega)
  exact ⟨g, o, e, hg, fun w' hb => fi_cells (fun j u hu => (hb.cell (p := ⟨g, _, none⟩) hg).trans (hcell j u hu)) hx⟩
theorem take_fis {L : List FI} {m j : Nat} {u : Value} (h : ((L.take m).flatMap fi)[j]? = some u) : (L.flatMap fi)[j]? = some u := by
  have e : L.flatMap fi = (L.take m).flatMap fi ++ (L.drop m).flatMap fi := by rw [← List.flatMap_append, List.take_append_drop]
  have hj := (List.getElem?_eq_some_iff.1 h).1
  rw [e, List.getElem?_append_left hj]
  exact h
theorem c_few (v : Value) (L : List FI) (lim N : Nat) (w : World) (h : RdS w lim 6 v N (L.flatMap fi)) (hn : N ≤ 1000) : Calls Try.prog 38 #[v] w fun e w' => (∃ u, e = .returned u ∧ RdS w lim 6 u (min N 200) ((L.take 200).flatMap fi)) ∧ w = w' := by
  obtain ⟨hl, A, c, rfl, hnc, hcell⟩ := h
  have hl' : L.length = N := by rw [fis_len] at hl; omega
  have HC := Lib.hid hcell
  have HL := Lib.hid hl'
  clear hcell hl hl'
  have hnc' : (N : Int) ≤ (c : Int) := by omega
  go_enter Try.func38, Try.ntmps38
  go_wp2_with fail
  all_goals
    go_ret
    first
    | (have e : min N 200 = 200 := by omega
       refine ⟨⟨.slice A 200 c, rfl, by rw [e, fis_len]; simp [HL.out]; omega, A, c, by rw [e], by omega, fun _ => ?_⟩, rfl⟩)
    | (have e : min N 200 = N := by omega
       refine ⟨⟨.slice A N c, rfl, by rw [e, fis_len]; simp [HL.out]; omega, A, c, by rw [e], by omega, fun _ => ?_⟩, rfl⟩)
    obtain ⟨g, o, e1, e2, e3⟩ := HC.out (by omega)
    exact ⟨g, o, e1, e2, fun j u hu => e3 j u (take_fis hu)⟩
theorem fis_snoc (L : List FI) (x : FI) : (L ++ [x]).flatMap fi = L.flatMap fi ++ fi x := by simp
def AlRet (w : World) (n : Nat) (L : List FI) (e : Ending) (w' : World) : Prop := ∃ u, e = .returned u ∧ RdS w' w'.heap.size 6 u n (L.flatMap fi) ∧ Below w.heap.size w w'
set_option maxRecDepth 100000 in
set_option maxHeartbeats 8000000 in
theorem c_all (v : Value) (I : List FI) (lim N : Nat) (w : World) (h : RdS w lim 6 v N (I.flatMap fi)) (hlim : lim ≤ w.heap.size) (hn : N ≤ 1000) : Calls Try.prog 14 #[v] w (AlRet w (min N 200) ((I.take 200).map hdI)) := by
  have HFEW := Lib.hid (c_few v I lim N w h hn)
  have hlen : I.length = N := by have := h.1; rw [fis_len] at this; omega
  have HLEN : Hid ((I.take 200).length = min N 200) := by rw [List.length_take, hlen, Nat.min_comm]; rfl
  obtain ⟨M, hM⟩ : ∃ M, M = min N 200 := ⟨_, rfl⟩
  obtain ⟨J, hJ⟩ : ∃ J, J = I.take 200 := ⟨_, rfl⟩
  have hM2 : M ≤ 200 := by omega
  rw [← hM, ← hJ]
  rw [← hM, ← hJ] at HFEW HLEN
  have HB := Lib.hid (Below.refl w.heap.size w)
  obtain ⟨B, hB⟩ : ∃ B, B = w.heap.size := ⟨_, rfl⟩
  have HBE := Lib.hid hB
  rw [← hB] at HB
  have hlB : lim ≤ B := by omega
  clear hM hJ hlen h hB
  go_enter Try.func14, Try.ntmps14
  go_wp2_with fail
  refine HFEW.out.mono ?_
  rintro e w' ⟨⟨u, rfl, hu⟩, rfl⟩
  have HU := Lib.hid hu
  obtain ⟨_, A, c, rfl, hnc, _⟩ := hu
  go_wp2_with fail
  go_loopw [3, 9] (fun l i wr => ∃ (k : Nat), k ≤ M ∧ i = .int .i64 k ∧ Hid (wr.ownsRow B 26 6 l k (((J.take k).map hdI).flatMap fi)) ∧ Hid (Below B w wr) ∧ Hid (B ≤ wr.heap.size)) (fun _ i _ => M - (intOf i).toNat)
  case atStart => exact ⟨0, by omega, rfl, World.ownsRow_nil _ _ _ _, HB.out, by rw [HBE.out]; exact Nat.le_refl _⟩
  case round =>
    obtain ⟨k, hk, rfl, HO, HBL, HZ⟩ := hrel
    by_cases hlt : k < M
    · have hik : (k : Int) < (M : Int) := by omega
      obtain ⟨x, hx⟩ : ∃ x, J[k]? = some x := ⟨_, List.getElem?_eq_getElem (by rw [HLEN.out]; exact hlt)⟩
      obtain ⟨g, o, rfl, _, f1⟩ := rd_fi HU.out hlt hx
      obtain ⟨d0, d1, d2, d3, d4, d5⟩ := f1 wr (HBL.out.mono hlB)
      have HTK : Hid (((J.take (k + 1)).map hdI).flatMap fi = ((J.take k).map hdI).flatMap fi ++ fi (hdI x)) := by
        obtain ⟨h1, h2⟩ := List.getElem?_eq_some_iff.1 hx
        unfold Hid
        rw [List.take_succ_eq_append_getElem h1, h2, List.map_append, List.flatMap_append]
        simp
      have HH := Lib.hid (c_heldI x (wr.alloc (.cells #[.int .i64 x.b, .int .i64 x.mn, .int .i64 x.mx, .int .i64 x.ar, .int .i64 x.g, .int .i64 x.s] 26)))
      clear hx f1
      obtain ⟨y, hy⟩ : ∃ y, y = hdI x := ⟨_, rfl⟩
      rw [← hy] at HH HTK
      obtain ⟨xb, xmn, xmx, xar, xg, xs⟩ := x
      obtain ⟨yb, ymn, ymx, yar, yg, ys⟩ := y
      clear hy
      simp only at d0 d1 d2 d3 d4 d5
      go_wp2_with fail
      refine HH.out.mono ?_
      rintro e w6 ⟨rfl, hb6⟩
      have HB6 := Lib.hid (bl_trans (bl_alloc (Below.refl _ wr) _) hb6)
      clear hb6 d0 d1 d2 d3 d4 d5
      have HO6 := Lib.hid ((Kept.of_below HB6.out (fun _ => False)).own HO.out (fun _ _ h => h))
      have HBX : Hid (Below B w w6) := HBL.out.trans (HB6.out.mono HZ.out)
      have hBx : B ≤ w6.heap.size := Nat.le_trans HZ.out HB6.out.size
      go_wp2_with (at_builtin; refine wp_push rfl _ _ 23 rfl B 26 Try.underlying23 inf_FI rfl (by decide) w6 u3 k (((J.take k).map hdI).flatMap fi) [.int .i64 yb, .int .i64 ymn, .int .i64 ymx, .int .i64 yar, .int .i64 yg, .int .i64 ys] rfl rfl rfl HO6.out rfl (by simp [Value.oneCell']) (by omega) (by omega) hBx ?_; intro v5 w5 hpush; have HPU := Lib.hid hpush; clear hpush)
      go_roundw
      case rel =>
        refine ⟨k + 1, by omega, by go_num, ?_, HPU.out.below HBX.out (Nat.le_refl _) hBx, Nat.le_trans hBx HPU.out.size_⟩
        rw [HTK.out]; exact HPU.out.own
      case measure => simp [intOf]; omega
    · obtain rfl : k = M := by omega
      have hik : ¬ (k : Int) < (k : Int) := by omega
      have htk : J.take k = J := List.take_of_length_le (by rw [HLEN.out]; exact Nat.le_refl _)
      rw [htk] at HO
      clear htk
      go_wp2_with fail
      go_ret
      exact ⟨u3, rfl, RdS.of_own HO.out, by rw [← HBE.out]; exact HBL.out⟩
theorem c_bounded (x : FI) (n : Int) (w : World) : Calls Try.prog 17 #[agF x, .int .i64 n] w fun e w' => e = .returned (.int .i64 (bnd x n)) ∧ Below w.heap.size w w' := by
  obtain ⟨b, mn, mx, ar, g, s⟩ := x
  have f1 := fold_max; have f2 := fold_min
  by_cases h : 0 ≤ mx
  · have R := Lib.hid (show bnd ⟨b, mn, mx, ar, g, s⟩ n = max (min n mx) mn by unfold bnd; simp only; rw [if_pos h])
    go_enter Try.func17, Try.ntmps17
    go_wp2_with fail
    go_ret
    exact ⟨ret_int (by rw [R.out]), bl_alloc (Below.refl _ _) _⟩
  · have R := Lib.hid (show bnd ⟨b, mn, mx, ar, g, s⟩ n = max n mn by unfold bnd; simp only; rw [if_neg h])
    go_enter Try.func17, Try.ntmps17
    go_wp2_with fail
    go_ret
    exact ⟨ret_int (by rw [R.out]), bl_alloc (Below.refl _ _) _⟩
set_option maxRecDepth 100000 in
theorem c_want (x : FI) (hx : FB x) (w : World) : Calls Try.prog 16 #[agF x] w fun e w' => e = .returned (.int .i64 (wantI x)) ∧ Below w.heap.size w w' := by
  have hb := bnd_bd hx x.b
  have hx1 := hx.b; have hx2 := hx.ar
  have HC := fun W => Lib.hid (c_bounded x x.b W)
  have HW : Hid (wantI x = bnd x x.b + x.ar) := rfl
  obtain ⟨q, hq⟩ : ∃ q, q = bnd x x.b := ⟨_, rfl⟩
  rw [← hq] at hb HW
  have HC2 : Hid (∀ W, Calls Try.prog 17 #[agF x, .int .i64 x.b] W fun e w' => e = .returned (.int .i64 q) ∧ Below W.heap.size W w') := fun W => by rw [hq]; exact c_bounded x x.b W
  clear hq HC
  obtain ⟨b, mn, mx, ar, g, s⟩ := x
  simp only at hb hx1 hx2
  obtain ⟨R, hR⟩ : ∃ R, R = w.heap.size := ⟨_, rfl⟩
  have HX : Hid (Bk (w.alloc (.cells #[.int .i64 b, .int .i64 mn, .int .i64 mx, .int .i64 ar, .int .i64 g, .int .i64 s] 26)) R 26 #[.int .i64 b, .int .i64 mn, .int .i64 mx, .int .i64 ar, .int .i64 g, .int .i64 s]) := bk_new' _ _ _ hR
  have HB := Lib.hid (bl_alloc (Below.refl _ w) (.cells #[.int .i64 b, .int .i64 mn, .int .i64 mx, .int .i64 ar, .int .i64 g, .int .i64 s] 26))
  have HRR := Lib.hid hR
  have F : Hid (∀ w', Bk w' R 26 #[.int .i64 b, .int .i64 mn, .int .i64 mx, .int .i64 ar, .int .i64 g, .int .i64 s] → (w'.cell? ⟨R, 0, none⟩ = some (.int .i64 b) ∧ w'.cell? ⟨R, 1, none⟩ = some (.int .i64 mn) ∧ w'.cell? ⟨R, 2, none⟩ = some (.int .i64 mx) ∧ w'.cell? ⟨R, 3, none⟩ = some (.int .i64 ar) ∧ w'.cell? ⟨R, 4, none⟩ = some (.int .i64 g) ∧ w'.cell? ⟨R, 5, none⟩ = some (.int .i64 s))) := fun w' h => by
    have e := h.cell
    exact ⟨by rw [e]; rfl, by rw [e]; rfl, by rw [e]; rfl, by rw [e]; rfl, by rw [e]; rfl, by rw [e]; rfl⟩
  have v1 : IntKind.i64.wrap (q + ar) = q + ar := IntWalk.i64_in _ (by omega)
  clear hR hx
  go_enter Try.func16, Try.ntmps16
  go_wp2_with fail
  rw [← HRR.out]
  go_region_held3 (fun w' => w'.cell? ⟨R, 0, none⟩ = some (.int .i64 b) ∧ w'.cell? ⟨R, 1, none⟩ = some (.int .i64 mn) ∧ w'.cell? ⟨R, 2, none⟩ = some (.int .i64 mx) ∧ w'.cell? ⟨R, 3, none⟩ = some (.int .i64 ar) ∧ w'.cell? ⟨R, 4, none⟩ = some (.int .i64 g) ∧ w'.cell? ⟨R, 5, none⟩ = some (.int .i64 s))
    (first | exact F.out _ HX.out | exact F.out _ (Bk.drew HX.out) | exact F.out _ HX5.out)
    ((go_at_call 17; refine (HC2.out _).mono ?_; rintro e w5 ⟨rfl, hb5⟩; have HX5 := Lib.hid ((Bk.drew HX.out).below hb5 HX.out.lt); have HB5 := Lib.hid (bl_trans (bl_drew HB.out) hb5); clear hb5))
  go_wp2_with fail
  go_ret
  exact ⟨ret_int (by rw [HW.out]), HB5.out⟩
end Go.Proofs.Ytdpnpjficcciiaa
