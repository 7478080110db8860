/- FlexShares: the walk -/
import Derived.Test.YtdpnpjficcciiaaQe
import Derived.Test.YtdpnpjficcciiaaQt
import Derived.Test.YtdpnpjficcciiaaCg
namespace Go.Proofs.Ytdpnpjficcciiaa
set_option linter.unusedVariables false
set_option linter.unusedSimpArgs false
open Go.RowKit Go.Cas Go.WideShapes Go.ChangeShapes

theorem cells_FlexQ : Try.prog.cellsOf 25 = 6 := by kernel_rfl
set_option maxRecDepth 100000 in
theorem open_FlexQ {H : Type} {enc : TypeId × Value → H} {b0 base : Nat} {r : Reach} {spare : Nat → Bool} {held : Bool} {d : DataW H} {p : List MemPlace} {v : Value} {w : World}
    (hv : Value.okWide Try.prog w r b0 22 v) (h : DataW.Trod enc Try.prog w base spare held 22 v d p) :
    ∃ (n : Nat) (L : List FI), L.length = n ∧ n ≤ maxLen ∧ RdS w w.heap.size 6 v n (L.flatMap fi) := by
  obtain ⟨n, L, h1, h2, h3, _⟩ := open_rows fi (fun _ => True) 6 (fun _ => rfl) (by omega) Try.underlying22 cells_FlexQ (fun m cs y hl hf' => by
    match cs, hl with
    | [c0, c1, c2, c3, c4, c5], _ =>
      obtain ⟨x0, e0, _⟩ := field_int (k := .i64) Try.underlying25 (by kernel_rfl) hf' rfl (i := 0) rfl Try.underlying3
      obtain ⟨x1, e1, _⟩ := field_int (k := .i64) Try.underlying25 (by kernel_rfl) hf' rfl (i := 1) rfl Try.underlying3
      obtain ⟨x2, e2, _⟩ := field_int (k := .i64) Try.underlying25 (by kernel_rfl) hf' rfl (i := 2) rfl Try.underlying3
      obtain ⟨x3, e3, _⟩ := field_int (k := .i64) Try.underlying25 (by kernel_rfl) hf' rfl (i := 3) rfl Try.underlying3
      obtain ⟨x4, e4, _⟩ := field_int (k := .i64) Try.underlying25 (by kernel_rfl) hf' rfl (i := 4) rfl Try.underlying3
      obtain ⟨x5, e5, _⟩ := field_int (k := .i64) Try.underlying25 (by kernel_rfl) hf' rfl (i := 5) rfl Try.underlying3
      simp only [List.getElem?_cons_zero, List.getElem?_cons_succ, Option.some.injEq] at e0 e1 e2 e3 e4 e5
      subst e0 e1 e2 e3 e4 e5
      exact ⟨⟨x0, x1, x2, x3, x4, x5⟩, rfl, trivial⟩) hv h
  exact ⟨n, L, h1, h2, h3⟩
set_option maxHeartbeats 1000000 in
theorem r_same (u v : Value) (xs : List Int) (l1 l2 n m : Nat) (w : World) (hu : RdS w l1 1 u n (xs.map (Value.int .i64))) (hv : RdS w l2 1 v m (xs.map (Value.int .i64))) (hn : n ≤ 100000) : Calls Try.prog 7 #[u, v] w fun e w' => e = .returned (.bool true) ∧ ∃ k, w' = w.drewN k := by
  obtain ⟨hl, A, c, rfl, hnc, hcell⟩ := hu
  obtain ⟨hl2, A2, c2, rfl, hnc2, hcell2⟩ := hv
  have hl' : xs.length = n := by simpa using hl
  have hl2' : xs.length = m := by simpa using hl2
  obtain rfl : n = m := by omega
  have HN := Lib.hid hl'
  have HC := Lib.hid hcell
  have HC2 := Lib.hid hcell2
  clear hcell hl hl' hcell2 hl2 hl2'
  go_enter Try.func7, Try.ntmps7
  go_wp2_with fail
  go_loopw [5] (fun i wr => ∃ (k d : Nat), k ≤ n ∧ wr = w.drewN d ∧ i = .int .i64 k) (fun i _ => n - (intOf i).toNat)
  case atStart => exact ⟨0, 0, by omega, rfl, rfl⟩
  case round =>
    obtain ⟨k, d, hk, rfl, rfl⟩ := hrel
    by_cases hlt : k < n
    · obtain ⟨g, o, rfl, hg, hc⟩ := HC.out (by omega)
      obtain ⟨g2, o2, rfl, hg2, hc2⟩ := HC2.out (by omega)
      have hget : (xs.map (Value.int .i64))[k]? = some (.int .i64 (szA xs k)) := by
        rw [List.getElem?_map, List.getElem?_eq_getElem (by rw [HN.out]; exact hlt), szA_eq (List.getElem?_eq_getElem (by rw [HN.out]; exact hlt))]; rfl
      have hcx := hc k _ hget
      have hcy := hc2 k _ hget
      clear hc hc2 hget
      generalize szA xs k = x at *
      have hi : (k : Int) < (n : Int) := by omega
      go_wp2_with fail
      go_quiet (fail)
      go_wp2_with fail
      go_roundw
      case rel => exact ⟨k + 1, _, by omega, by first | rfl | exact World.drewN_drewN .., by go_num⟩
      case measure => simp [intOf]; omega
    · have hi : ¬ (k : Int) < (n : Int) := by omega
      go_wp2_with fail
      go_ret
      exact ⟨rfl, _, rfl⟩
set_option maxRecDepth 100000 in
set_option maxHeartbeats 8000000 in
theorem c_flexes (v : Value) (I : List FI) (lim N : Nat) (w : World) (h : RdS w lim 6 v N (I.flatMap fi)) (hlim : lim ≤ w.heap.size) (hn : N ≤ 1000) : Calls Try.prog 9 #[v] w (AlRet w N I) := by
  have hlen : I.length = N := by have := h.1; rw [fis_len] at this; omega
  have HLEN := Lib.hid hlen
  have HU := Lib.hid h
  have HB := Lib.hid (Below.refl w.heap.size w)
  obtain ⟨B, hB⟩ : ∃ B, B = w.heap.size := ⟨_, rfl⟩
  have HBE := Lib.hid hB
  rw [← hB] at HB
  have hlB : lim ≤ B := by omega
  obtain ⟨_, A, c, rfl, hnc, _⟩ := h
  clear hlen hB
  go_enter Try.func9, Try.ntmps9
  go_wp2_with fail
  go_loopw [3, 4] (fun l i wr => ∃ (k : Nat), k ≤ N ∧ i = .int .i64 k ∧ Hid (wr.ownsRow B 26 6 l k ((I.take k).flatMap fi)) ∧ Hid (Below B w wr) ∧ Hid (B ≤ wr.heap.size)) (fun _ i _ => N - (intOf i).toNat)
  case atStart => exact ⟨0, by omega, rfl, World.ownsRow_nil _ _ _ _, HB.out, by rw [HBE.out]; exact Nat.le_refl _⟩
  case round =>
    obtain ⟨k, hk, rfl, HO, HBL, HZ⟩ := hrel
    by_cases hlt : k < N
    · have hik : (k : Int) < (N : Int) := by omega
      obtain ⟨x, hx⟩ : ∃ x, I[k]? = some x := ⟨_, List.getElem?_eq_getElem (by rw [HLEN.out]; exact hlt)⟩
      obtain ⟨g, o, rfl, _, f1⟩ := rd_fi HU.out hlt hx
      obtain ⟨d0, d1, d2, d3, d4, d5⟩ := f1 wr (HBL.out.mono hlB)
      have HTK1 : Hid ((I.take (k + 1)).flatMap fi = (I.take k).flatMap fi ++ fi x) := by
        obtain ⟨h1, h2⟩ := List.getElem?_eq_some_iff.1 hx
        unfold Hid
        rw [List.take_succ_eq_append_getElem h1, h2, List.flatMap_append]
        simp
      clear hx f1
      obtain ⟨xb, xmn, xmx, xar, xg, xs⟩ := x
      simp only at d0 d1 d2 d3 d4 d5
      obtain ⟨R, hR⟩ : ∃ R, R = wr.heap.size := ⟨_, rfl⟩
      obtain ⟨w6, hw6⟩ : ∃ w6, w6 = wr.alloc (.cells #[.int .i64 xb, .int .i64 xmn, .int .i64 xmx, .int .i64 xar, .int .i64 xg, .int .i64 xs] 25) := ⟨_, rfl⟩
      have HX : Bk w6 R 25 #[.int .i64 xb, .int .i64 xmn, .int .i64 xmx, .int .i64 xar, .int .i64 xg, .int .i64 xs] := by rw [hw6]; exact bk_new' _ _ _ hR
      have HBX : Hid (Below B w w6) := by rw [hw6]; exact HBL.out.alloc HZ.out _
      have HO6 : Hid (w6.ownsRow B 26 6 u3 k ((I.take k).flatMap fi)) := by rw [hw6]; exact HO.out.alloc _
      have hBx : B ≤ w6.heap.size := by have := HZ.out; rw [hw6]; simp; omega
      have HW6 := Lib.hid hw6
      have HRR := Lib.hid hR
      have e := HX.cell
      have e0 : w6.cell? ⟨R, 0, none⟩ = some (.int .i64 xb) := by rw [e]; rfl
      have e1 : w6.cell? ⟨R, 1, none⟩ = some (.int .i64 xmn) := by rw [e]; rfl
      have e2 : w6.cell? ⟨R, 2, none⟩ = some (.int .i64 xmx) := by rw [e]; rfl
      have e3 : w6.cell? ⟨R, 3, none⟩ = some (.int .i64 xar) := by rw [e]; rfl
      have e4 : w6.cell? ⟨R, 4, none⟩ = some (.int .i64 xg) := by rw [e]; rfl
      have e5 : w6.cell? ⟨R, 5, none⟩ = some (.int .i64 xs) := by rw [e]; rfl
      clear e hw6 hR HX
      go_upto_region 6 with fail
      rw [← HRR.out, ← HW6.out]
      go_wp2_with (at_builtin; refine wp_push rfl _ _ 23 rfl B 26 Try.underlying23 inf_FI rfl (by decide) w6 u3 k ((I.take k).flatMap fi) [.int .i64 xb, .int .i64 xmn, .int .i64 xmx, .int .i64 xar, .int .i64 xg, .int .i64 xs] rfl rfl rfl HO6.out rfl (by simp [Value.oneCell']) (by omega) (by omega) hBx ?_; intro v5 w5 hpush; have HPU := Lib.hid hpush; clear hpush)
      go_roundw
      case rel =>
        refine ⟨k + 1, by omega, by go_num, ?_, HPU.out.below HBX.out (Nat.le_refl _) hBx, Nat.le_trans hBx HPU.out.size_⟩
        rw [HTK1.out]; exact HPU.out.own
      case measure => simp [intOf]; omega
    · obtain rfl : k = N := by omega
      have hik : ¬ (k : Int) < (k : Int) := by omega
      have htk : I.take k = I := List.take_of_length_le (by rw [HLEN.out]; exact Nat.le_refl _)
      rw [htk] at HO
      clear htk
      go_wp2_with fail
      go_ret
      exact ⟨u3, rfl, RdS.of_own HO.out, by rw [← HBE.out]; exact HBL.out⟩
theorem rd_of_bk {w : World} {g n : Nat} {t : TypeId} {r : List Int} (h : Bk w g t (r.map (Value.int .i64)).toArray) (hl : r.length = n) : RdS w w.heap.size 1 (.slice (some ⟨g, 0, none⟩) n n) n (r.map (Value.int .i64)) := by
  refine ⟨by simp [hl], some ⟨g, 0, none⟩, n, rfl, Nat.le_refl _, fun _ => ⟨g, 0, rfl, h.lt, fun j u hu => ?_⟩⟩
  rw [Nat.zero_add, h.cell]
  simpa using hu
/-- the first row of the law: one item that takes all -/
def oneI : List FI := [⟨0, 0, -1, 0, 1000, 0⟩]
theorem one_run {r : List Int} (gr : Bool) (hgr : gr = decide (wantS ((oneI.take 200).map hdI) (hld 0) 1 1 < hld 7)) (hrun : ShRun ((oneI.take 200).map hdI) gr 1 (roomS ((oneI.take 200).map hdI) (hld 7) (hld 0) 1 1) (freeF ((oneI.take 200).map hdI) (iniZ gr ((oneI.take 200).map hdI) 1 1) (iniT gr ((oneI.take 200).map hdI) 1 1) (roomS ((oneI.take 200).map hdI) (hld 7) (hld 0) 1 1) 1) (iniZ gr ((oneI.take 200).map hdI) 1 1) (iniT gr ((oneI.take 200).map hdI) 1 1) r) : szA r 0 = 7 := by
  have e : (oneI.take 200).map hdI = [⟨0, 0, -1, 0, 1000, 0⟩] := by rfl
  rw [e] at hgr hrun
  have hg : gr = true := by rw [hgr]; decide
  subst hg
  have hw : ∀ x ∈ ([⟨0, 0, -1, 0, 1000, 0⟩] : List FI), Wide x := by
    intro x hx
    simp at hx
    subst hx
    refine ⟨⟨?_, ?_, ?_, ?_, ?_, ?_⟩, rfl, rfl, ?_⟩ <;> decide
  have h := sums (n := 1) rfl hw (by omega) rfl (by decide) hrun
  have h2 := h.2
  have hs : freeF [⟨0, 0, -1, 0, 1000, 0⟩] (iniZ true [⟨0, 0, -1, 0, 1000, 0⟩] 1 1) (iniT true [⟨0, 0, -1, 0, 1000, 0⟩] 1 1) (roomS [⟨0, 0, -1, 0, 1000, 0⟩] (hld 7) (hld 0) 1 1) 1 = 7 := by decide
  rw [hs] at h2
  simpa [sumTo, itA] using h2
set_option maxRecDepth 100000 in
set_option maxHeartbeats 16000000 in
theorem W_walkFH (v : Value) (N : Nat) (I : List FI) (room gap : Int) (wrp : Bool) (w : World) (hl : I.length = N) (hN : N ≤ maxLen) (hp : RdS w w.heap.size 6 v N (I.flatMap fi)) : Calls Try.prog 4 #[v, .int .i64 room, .int .i64 gap, .bool wrp] w fun e w' => e = .returned (.bool true) ∧ Below w.heap.size w w' := by
  have hN63 : (N : Int) ≤ 9223372036854775807 := by unfold maxLen at hN; omega
  have HP := Lib.hid hp
  obtain ⟨_, A, c, rfl, hnc, _⟩ := hp
  have HL := Lib.hid hl
  clear hl hN
  obtain ⟨r1, hr1⟩ := shRun_ex ((oneI.take 200).map hdI) (decide (wantS ((oneI.take 200).map hdI) (hld 0) 1 1 < hld 7)) 1 (roomS ((oneI.take 200).map hdI) (hld 7) (hld 0) 1 1) (freeF ((oneI.take 200).map hdI) (iniZ (decide (wantS ((oneI.take 200).map hdI) (hld 0) 1 1 < hld 7)) ((oneI.take 200).map hdI) 1 1) (iniT (decide (wantS ((oneI.take 200).map hdI) (hld 0) 1 1 < hld 7)) ((oneI.take 200).map hdI) 1 1) (roomS ((oneI.take 200).map hdI) (hld 7) (hld 0) 1 1) 1) _ (iniZ (decide (wantS ((oneI.take 200).map hdI) (hld 0) 1 1 < hld 7)) ((oneI.take 200).map hdI) 1 1) (iniT (decide (wantS ((oneI.take 200).map hdI) (hld 0) 1 1 < hld 7)) ((oneI.take 200).map hdI) 1 1) (iniT_len _ _ _ _) (Nat.le_refl _)
  have H7 := Lib.hid (one_run _ rfl hr1)
  have HS1 : Hid (∀ W lim v, RdS W lim 6 v 1 (oneI.flatMap fi) → lim ≤ W.heap.size → Calls Try.prog 6 #[v, .int .i64 7, .int .i64 0] W (ShaRet W 1 r1)) := fun W lim v hr hlim => c_Share v oneI lim 1 7 0 W hr hlim (by omega) 1 (by omega) _ rfl _ rfl _ _ rfl rfl r1 hr1
  clear hr1
  have HLIT : Hid (∀ w' : World, RdS (w'.alloc (.cells #[.int .i64 0, .int .i64 0, .int .i64 (-1), .int .i64 0, .int .i64 1000, .int .i64 0] 26)) (w'.heap.size + 1) 6 (.slice (some ⟨w'.heap.size, 0, none⟩) 1 1) 1 (oneI.flatMap fi)) := fun w' => by
    refine ⟨rfl, some ⟨w'.heap.size, 0, none⟩, 1, rfl, Nat.le_refl _, fun _ => ⟨w'.heap.size, 0, rfl, by omega, fun j u hu => ?_⟩⟩
    rw [Nat.zero_add, (Bk.new w' 26 #[.int .i64 0, .int .i64 0, .int .i64 (-1), .int .i64 0, .int .i64 1000, .int .i64 0]).cell]
    simpa [oneI, fi] using hu
  have HAL := Lib.hid (bl_alloc (Below.refl _ w) (.cells #[.int .i64 0, .int .i64 0, .int .i64 (-1), .int .i64 0, .int .i64 1000, .int .i64 0] 26))
  go_enter Try.func4, Try.ntmps4
  go_wp2_with fail
  refine (HS1.out _ _ _ (HLIT.out w) (by simp)).mono ?_
  rintro e w1 ⟨g1, rfl, hbk1, hrl1, hg1, hb1⟩
  have HB1 := Lib.hid (bl_trans HAL.out hb1)
  have q1 : w1.cell? ⟨g1, 0, none⟩ = some (.int .i64 7) := by
    rw [hbk1.cell, ← H7.out]
    have : r1[0]? = some (szA r1 0) := by rw [List.getElem?_eq_getElem (by omega), szA_eq (List.getElem?_eq_getElem (by omega))]
    simp [this]
  clear hbk1 hrl1 hg1 hb1
  by_cases hbig : (N : Int) > 240
  · go_wp2_with fail
    go_ret
    exact ⟨rfl, HB1.out⟩
  · have hN240 : N ≤ 240 := by omega
    have HP1 := Lib.hid (HP.out.below HB1.out)
    have hz1 : w.heap.size ≤ w1.heap.size := HB1.out.size
    -- the row
    obtain ⟨n, hn⟩ : ∃ n, n = min N 200 := ⟨_, rfl⟩
    obtain ⟨L, hL⟩ : ∃ L, L = (I.take 200).map hdI := ⟨_, rfl⟩
    obtain ⟨gr, hgr⟩ : ∃ gr, gr = decide (wantS L (hld gap) n n < hld room) := ⟨_, rfl⟩
    obtain ⟨r, hr⟩ := shRun_ex L gr n (roomS L (hld room) (hld gap) n n) (freeF L (iniZ gr L n n) (iniT gr L n n) (roomS L (hld room) (hld gap) n n) n) _ (iniZ gr L n n) (iniT gr L n n) (iniT_len _ _ _ _) (Nat.le_refl _)
    have HRF : Hid (∀ W lim v, RdS W lim 6 v N (I.flatMap fi) → lim ≤ W.heap.size → Calls Try.prog 8 #[v, .int .i64 room, .int .i64 gap, .bool wrp] W (RwRet W (rwF (wI L) wrp (hld room) (hld gap) n).1)) := fun W lim v h1 h2 => c_Rows v I lim N room gap wrp W h1 h2 (by omega) n hn L hL
    have HRR : Hid (∀ W lim v, RdS W lim 6 v N (I.flatMap fi) → lim ≤ W.heap.size → Calls Try.prog 10 #[v, .int .i64 room, .int .i64 gap, .bool wrp] W (RwRet W (rwF (wI L) wrp (hld room) (hld gap) n).1)) := fun W lim v h1 h2 => r_Rows v I lim N room gap wrp W h1 h2 (by omega) n hn L hL
    have HSF : Hid (∀ W lim v, RdS W lim 6 v N (I.flatMap fi) → lim ≤ W.heap.size → Calls Try.prog 6 #[v, .int .i64 room, .int .i64 gap] W (ShaRet W n r)) := fun W lim v h1 h2 => c_Share v I lim N room gap W h1 h2 (by omega) n hn L hL gr hgr _ _ rfl rfl r hr
    have HSR : Hid (∀ W lim v, RdS W lim 6 v N (I.flatMap fi) → lim ≤ W.heap.size → Calls Try.prog 11 #[v, .int .i64 room, .int .i64 gap] W (ShaRet W n r)) := fun W lim v h1 h2 => r_Share v I lim N room gap W h1 h2 (by omega) n hn L hL gr hgr _ _ rfl rfl r hr
    have hrw := (rwF_len (W := wI L) (wrp := wrp) (room := hld room) (gap := hld gap) n).1
    obtain ⟨rw_, hrw_⟩ : ∃ rw_, rw_ = (rwF (wI L) wrp (hld room) (hld gap) n).1 := ⟨_, rfl⟩
    rw [← hrw_] at HRF HRR hrw
    have hn2 : n ≤ 200 := by omega
    clear hn hL hgr hr hrw_
    go_wp2_with fail
    refine (c_flexes _ I _ N w1 HP1.out hz1 (by omega)).mono ?_
    rintro e w2 ⟨u2, rfl, hu2, hb2⟩
    have HU2 := Lib.hid hu2
    have HB2 := Lib.hid (HB1.out.trans (hb2.mono hz1))
    clear hu2 hb2 q1
    go_wp2_with fail
    refine (HRF.out _ _ _ HU2.out (Nat.le_refl _)).mono ?_
    rintro e w3 ⟨u3, rfl, hu3, hb3⟩
    have HU3 := Lib.hid hu3
    have HB3 := Lib.hid (bl_trans HB2.out hb3)
    have HP3 := Lib.hid (HP.out.below HB3.out)
    have hz3 : w.heap.size ≤ w3.heap.size := HB3.out.size
    clear hu3 hb3
    go_wp2_with fail
    refine (HRR.out _ _ _ HP3.out hz3).mono ?_
    rintro e w4 ⟨u4, rfl, hu4, hb4⟩
    have HU4 := Lib.hid hu4
    have HU34 := Lib.hid (HU3.out.below hb4)
    have HB4 := Lib.hid (bl_trans HB3.out hb4)
    clear hu4 hb4
    go_wp2_with fail
    refine (r_same _ _ _ _ _ _ _ _ HU34.out HU4.out (by omega)).mono ?_
    rintro e w5 ⟨rfl, k5, rfl⟩
    have HB5 := Lib.hid (belowN HB4.out k5)
    obtain ⟨w5, hw5⟩ : ∃ w5, w5 = w4.drewN k5 := ⟨_, rfl⟩
    rw [← hw5] at HB5 ⊢
    have HP5 := Lib.hid (HP.out.below HB5.out)
    have hz5 : w.heap.size ≤ w5.heap.size := HB5.out.size
    clear hw5
    go_wp2_with fail
    refine (c_flexes _ I _ N w5 HP5.out hz5 (by omega)).mono ?_
    rintro e w6 ⟨u6, rfl, hu6, hb6⟩
    have HU6 := Lib.hid hu6
    have HB6 := Lib.hid (HB5.out.trans (hb6.mono hz5))
    clear hu6 hb6
    go_wp2_with fail
    refine (HSF.out _ _ _ HU6.out (Nat.le_refl _)).mono ?_
    rintro e w7 ⟨g7, rfl, hbk7, hrl7, _, hb7⟩
    have HU7 := Lib.hid (rd_of_bk hbk7 hrl7)
    have HB7 := Lib.hid (bl_trans HB6.out hb7)
    have HP7 := Lib.hid (HP.out.below HB7.out)
    have hz7 : w.heap.size ≤ w7.heap.size := HB7.out.size
    clear hbk7 hrl7 hb7
    go_wp2_with fail
    refine (HSR.out _ _ _ HP7.out hz7).mono ?_
    rintro e w8 ⟨g8, rfl, hbk8, hrl8, _, hb8⟩
    have HU8 := Lib.hid (rd_of_bk hbk8 hrl8)
    have HU78 := Lib.hid (HU7.out.below hb8)
    have HB8 := Lib.hid (bl_trans HB7.out hb8)
    clear hbk8 hrl8 hb8
    go_wp2_with fail
    refine (r_same _ _ _ _ _ _ _ _ HU78.out HU8.out (by omega)).mono ?_
    rintro e w9 ⟨rfl, k9, rfl⟩
    go_wp2_with fail
    go_ret
    exact ⟨rfl, belowN HB8.out _⟩
set_option maxRecDepth 100000 in
theorem W_flexShares {H : Type} {enc : TypeId × Value → H} {b0 base : Nat} {r : Reach} {spare : Nat → Bool} {held : Bool} {d : DataW H} {p : List MemPlace} (v : Value) (room gap : Int) (wrp : Bool) (w : World)
    (hv : Value.okWide Try.prog w r b0 22 v) (hh : DataW.Trod enc Try.prog w base spare held 22 v d p) (_ : (Lit.int .i64 room).wf = true) (_ : (Lit.int .i64 gap).wf = true) :
    Calls Try.prog 4 #[v, .int .i64 room, .int .i64 gap, .bool wrp] w fun e w' => e = .returned (.bool true) ∧ Below w.heap.size w w' := by
  obtain ⟨n, L, h1, h2, h3⟩ := open_FlexQ hv hh
  exact W_walkFH v n L room gap wrp w h1 h2 h3
end Go.Proofs.Ytdpnpjficcciiaa
