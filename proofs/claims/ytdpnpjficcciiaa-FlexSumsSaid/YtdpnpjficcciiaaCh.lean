/- FlexSums: the walk -/
import Derived.Test.YtdpnpjficcciiaaCi
namespace Go.Proofs.Ytdpnpjficcciiaa
set_option linter.unusedVariables false
set_option linter.unusedSimpArgs false
open Go.RowKit Go.Cas Go.WideShapes Go.ChangeShapes

theorem cells_Flex : Try.prog.cellsOf 25 = 6 := by kernel_rfl
set_option maxRecDepth 100000 in
theorem open_Flex {H : Type} {enc : TypeId × Value → H} {b0 base : Nat} {r : Reach} {spare : Nat → Bool} {held : Bool} {d : DataW H} {p : List MemPlace} {v : Value} {w : World}
    (hv : Value.okWide Try.prog w r b0 22 v) (h : DataW.Trod enc Try.prog w base spare held 22 v d p) :
    ∃ (n : Nat) (L : List FI), L.length = n ∧ n ≤ maxLen ∧ RdS w w.heap.size 6 v n (L.flatMap fi) := by
  obtain ⟨n, L, h1, h2, h3, _⟩ := open_rows fi (fun _ => True) 6 (fun _ => rfl) (by omega) Try.underlying22 cells_Flex (fun m cs y hl hf' => by
    match cs, hl with
    | [c0, c1, c2, c3, c4, c5], _ =>
      obtain ⟨x0, e0, _⟩ := field_int (k := .i64) Try.underlying25 (by kernel_rfl) hf' rfl (i := 0) rfl Try.underlying3
      obtain ⟨x1, e1, _⟩ := field_int (k := .i64) Try.underlying25 (by kernel_rfl) hf' rfl (i := 1) rfl Try.underlying3
      obtain ⟨x2, e2, _⟩ := field_int (k := .i64) Try.underlying25 (by kernel_rfl) hf' rfl (i := 2) rfl Try.underlying3
      obtain ⟨x3, e3, _⟩ := field_int (k := .i64) Try.underlying25 (by kernel_rfl) hf' rfl (i := 3) rfl Try.underlying3
      obtain ⟨x4, e4, _⟩ := field_int (k := .i64) Try.underlying25 (by kernel_rfl) hf' rfl (i := 4) rfl Try.underlying3
      obtain ⟨x5, e5, _⟩ := field_int (k := .i64) Try.underlying25 (by kernel_rfl) hf' rfl (i := 5) rfl Try.underlying3
      simp only [List.getElem?_cons_zero, List.getElem?_cons_succ, Option.some.injEq] at e0 e1 e2 e3 e4 e5
      subst e0 e1 e2 e3 e4 e5
      exact ⟨⟨x0, x1, x2, x3, x4, x5⟩, rfl, trivial⟩) hv h
  exact ⟨n, L, h1, h2, h3⟩
set_option maxRecDepth 100000 in
set_option maxHeartbeats 16000000 in
theorem W_walkFS (v : Value) (n : Nat) (I : List FI) (room gap : Int) (w : World) (hl : I.length = n) (hN : n ≤ maxLen) (hp : RdS w w.heap.size 6 v n (I.flatMap fi)) : Calls Try.prog 3 #[v, .int .i64 room, .int .i64 gap] w fun e w' => e = .returned (.bool true) ∧ Below w.heap.size w w' := by
  have hN63 : (n : Int) ≤ 9223372036854775807 := by unfold maxLen at hN; omega
  have HP := Lib.hid hp
  obtain ⟨_, A, c, rfl, hnc, _⟩ := hp
  have HL := Lib.hid hl
  clear hl hN
  by_cases h0 : n = 0
  · subst h0
    go_enter Try.func3, Try.ntmps3
    go_wp2_with fail
    go_ret
    exact ⟨rfl, Below.refl _ _⟩
  have h0b : ((n : Int) == 0) = false := by simp; omega
  by_cases h60 : (n : Int) > 60
  · clear h0
    go_enter Try.func3, Try.ntmps3
    go_wp2_with fail
    go_ret
    exact ⟨rfl, Below.refl _ _⟩
  by_cases hr0 : room < 0
  · clear h0
    go_enter Try.func3, Try.ntmps3
    go_wp2_with fail
    go_ret
    exact ⟨rfl, Below.refl _ _⟩
  by_cases hr1 : room > 16777216
  · clear h0
    go_enter Try.func3, Try.ntmps3
    go_wp2_with fail
    go_ret
    exact ⟨rfl, Below.refl _ _⟩
  by_cases hg0 : gap < 0
  · clear h0
    go_enter Try.func3, Try.ntmps3
    go_wp2_with fail
    go_ret
    exact ⟨rfl, Below.refl _ _⟩
  by_cases hg1 : gap > 1000
  · clear h0
    go_enter Try.func3, Try.ntmps3
    go_wp2_with fail
    go_ret
    exact ⟨rfl, Below.refl _ _⟩
  have hn0 : 0 < n := by omega
  clear h0 hN63
  obtain ⟨GU, hGU⟩ : ∃ GU, GU = gap * ((n : Int) - 1) := ⟨_, rfl⟩
  have hGb : 0 ≤ GU ∧ GU ≤ 60000 := by
    rw [hGU]
    have a := Int.mul_nonneg (show 0 ≤ gap by omega) (show 0 ≤ (n : Int) - 1 by omega)
    have b := Int.mul_le_mul (show gap ≤ 1000 by omega) (show (n : Int) - 1 ≤ 60 by omega) (by omega) (by omega)
    omega
  have hGw : wrap64 (gap * ((n : Int) - 1)) = GU := by rw [← hGU]; exact IntWalk.wrap64_in _ ⟨by omega, by omega⟩
  have HGU := Lib.hid hGU
  have HB := Lib.hid (Below.refl w.heap.size w)
  obtain ⟨B, hB⟩ : ∃ B, B = w.heap.size := ⟨_, rfl⟩
  have HBE := Lib.hid hB
  rw [← hB] at HB
  clear hGU hB
  go_enter Try.func3, Try.ntmps3
  go_wp2_with fail
  clear hGw
  go_loopw [8, 9, 10] (fun us l i wr => ∃ (k : Nat), k ≤ n ∧ i = .int .i64 k ∧ us = .int .i64 (GU + sumTo (fun i => (itA I i).b + (itA I i).ar) k) ∧ Hid (wr.ownsRow B 26 6 l k (((I.take k).map mkI2).flatMap fi)) ∧ Hid (Below B w wr) ∧ Hid (B ≤ wr.heap.size) ∧ Hid (∀ i, i < k → OkI2 (itA I i))) (fun _ _ i _ => n - (intOf i).toNat)
  case atStart => exact ⟨0, by omega, rfl, by simp [sumTo], World.ownsRow_nil _ _ _ _, HB.out, by rw [HBE.out]; exact Nat.le_refl _, fun i h => by omega⟩
  case round =>
    obtain ⟨k, hk, rfl, rfl, HO, HBL, HZ, HOK⟩ := hrel
    by_cases hlt : k < n
    · skip
      have hik : (k : Int) < (n : Int) := by omega
      have hx : I[k]? = some (itA I k) := by rw [List.getElem?_eq_getElem (by rw [HL.out]; exact hlt), itA_eq (List.getElem?_eq_getElem (by rw [HL.out]; exact hlt))]
      obtain ⟨g, o, rfl, _, f1⟩ := rd_fi HP.out hlt hx
      obtain ⟨d0, d1, d2, d3, d4, d5⟩ := f1 wr (by rw [← HBE.out]; exact HBL.out)
      have HTK : Hid (((I.take (k + 1)).map mkI2).flatMap fi = ((I.take k).map mkI2).flatMap fi ++ fi (mkI2 (itA I k))) := by
        obtain ⟨h1, h2⟩ := List.getElem?_eq_some_iff.1 hx
        unfold Hid
        rw [List.take_succ_eq_append_getElem h1, h2, List.map_append, List.flatMap_append]
        simp
      have hus : 0 ≤ sumTo (fun i => (itA I i).b + (itA I i).ar) k ∧ sumTo (fun i => (itA I i).b + (itA I i).ar) k ≤ 200000 * k := by
        have := sumTo_bd (f := fun i => (itA I i).b + (itA I i).ar) (lo := 0) (hi := 200000) (n := k) (fun i hi => by have := HOK.out i hi; unfold OkI2 at this; omega) k (Nat.le_refl _)
        omega
      have HS1 : Hid (sumTo (fun i => (itA I i).b + (itA I i).ar) (k + 1) = sumTo (fun i => (itA I i).b + (itA I i).ar) k + ((itA I k).b + (itA I k).ar)) := rfl
      obtain ⟨US, hUS⟩ : ∃ US, US = sumTo (fun i => (itA I i).b + (itA I i).ar) k := ⟨_, rfl⟩
      rw [← hUS] at hus HS1 ⊢
      have HOKN : Hid (OkI2 (itA I k) → ∀ i, i < k + 1 → OkI2 (itA I i)) := fun h i hi => by
        by_cases e : i = k
        · subst e; exact h
        · exact HOK.out i (by omega)
      obtain ⟨x, hxe⟩ : ∃ x, x = itA I k := ⟨_, rfl⟩
      rw [← hxe] at d0 d1 d2 d3 d4 d5 HTK HS1 HOKN
      clear hx f1 hUS hxe
      obtain ⟨xb, xmn, xmx, xar, xg, xs⟩ := x
      simp only [mkI2] at d0 d1 d2 d3 d4 d5 HTK HS1
      have HBA : Hid (Below B w (wr.alloc (.cells #[.int .i64 xb, .int .i64 xmn, .int .i64 xmx, .int .i64 xar, .int .i64 xg, .int .i64 xs] 25))) := HBL.out.alloc HZ.out _
      have HOA := Lib.hid (HO.out.alloc (.cells #[.int .i64 xb, .int .i64 xmn, .int .i64 xmx, .int .i64 xar, .int .i64 xg, .int .i64 xs] 25))
      have hZA : B ≤ (wr.alloc (.cells #[.int .i64 xb, .int .i64 xmn, .int .i64 xmx, .int .i64 xar, .int .i64 xg, .int .i64 xs] 25)).heap.size := by have := HZ.out; simp; omega
      by_cases t0 : xb < 0
      · go_wp2_with fail
        go_ret
        exact ⟨rfl, by rw [← HBE.out]; exact HBA.out⟩
      by_cases t1 : xb > 100000
      · go_wp2_with fail
        go_ret
        exact ⟨rfl, by rw [← HBE.out]; exact HBA.out⟩
      by_cases t2 : xar < 0
      · go_wp2_with fail
        go_ret
        exact ⟨rfl, by rw [← HBE.out]; exact HBA.out⟩
      by_cases t3 : xar > 100000
      · go_wp2_with fail
        go_ret
        exact ⟨rfl, by rw [← HBE.out]; exact HBA.out⟩
      by_cases t4 : xg < 1000
      · go_wp2_with fail
        go_ret
        exact ⟨rfl, by rw [← HBE.out]; exact HBA.out⟩
      by_cases t5 : xg > 1000000000
      · go_wp2_with fail
        go_ret
        exact ⟨rfl, by rw [← HBE.out]; exact HBA.out⟩
      have HOK2 := Lib.hid (HOKN.out (show OkI2 ⟨xb, xmn, xmx, xar, xg, xs⟩ by unfold OkI2; simp only; omega))
      obtain ⟨W0, hW0⟩ : ∃ W0, W0 = wr.alloc (.cells #[.int .i64 xb, .int .i64 xmn, .int .i64 xmx, .int .i64 xar, .int .i64 xg, .int .i64 xs] 25) := ⟨_, rfl⟩
      have HX : Hid (Bk W0 wr.heap.size 25 #[.int .i64 xb, .int .i64 xmn, .int .i64 xmx, .int .i64 xar, .int .i64 xg, .int .i64 xs]) := by rw [hW0]; exact Bk.new _ _ _
      have HW0 := Lib.hid hW0
      rw [← hW0] at HBA HOA hZA
      clear hW0
      go_upto_region 13 with fail
      rw [← HW0.out]
      have q1 := HX.out.cell; have q2 := HX.out.lt
      clear d0 d1 d2 d3 d4 d5
      go_wp2_with (at_builtin; refine wp_push rfl _ _ 23 rfl B 26 Try.underlying23 inf_FI rfl (by decide) W0 u9 k (((I.take k).map mkI2).flatMap fi) [.int .i64 xb, .int .i64 0, .int .i64 (-1), .int .i64 xar, .int .i64 xg, .int .i64 xs] rfl rfl rfl HOA.out rfl (by simp [Value.oneCell']) (by omega) (by omega) hZA ?_; intro v5 w5 hpush; have HPU := Lib.hid hpush; clear hpush)
      go_roundw
      case rel => exact ⟨k + 1, by omega, by go_num, by rw [HS1.out]; congr 1; omega, by rw [HTK.out]; exact HPU.out.own, HPU.out.below HBA.out (Nat.le_refl _) hZA, Nat.le_trans hZA HPU.out.size_, HOK2.out⟩
      case measure => simp [intOf]; omega
    · obtain rfl : k = n := by omega
      have hik : ¬ (k : Int) < (k : Int) := by omega
      have hil : (I.map mkI2).length = k := by rw [List.length_map, HL.out]
      have htk : I.take k = I := List.take_of_length_le (by rw [HL.out]; exact Nat.le_refl _)
      rw [htk] at HO
      obtain ⟨L, hL⟩ : ∃ L, L = ((I.map mkI2).take 200).map hdI := ⟨_, rfl⟩
      obtain ⟨hW, hfin⟩ := fs_plain HL.out hn0 (by omega) (room := room) (gap := gap) ⟨by omega, by omega⟩ ⟨by omega, by omega⟩ HOK.out hL
      rw [← HGU.out] at hW hfin
      have hsb : 0 ≤ sumTo (fun i => (itA I i).b + (itA I i).ar) k ∧ sumTo (fun i => (itA I i).b + (itA I i).ar) k ≤ 200000 * k := by
        have := sumTo_bd (f := fun i => (itA I i).b + (itA I i).ar) (lo := 0) (hi := 200000) (n := k) (fun i hi => by have := HOK.out i hi; unfold OkI2 at this; omega) k (Nat.le_refl _)
        omega
      obtain ⟨US, hUS⟩ : ∃ US, US = sumTo (fun i => (itA I i).b + (itA I i).ar) k := ⟨_, rfl⟩
      rw [← hUS] at hsb hW hfin ⊢
      obtain ⟨gr, hgr⟩ : ∃ gr, gr = decide (wantS L (hld gap) k k < hld room) := ⟨_, rfl⟩
      have hroom : hld room = room := by unfold hld; omega
      have hgr2 : GU + US < room → gr = true := fun h => by rw [hgr, hW, hroom]; exact decide_eq_true h
      obtain ⟨r, hrun⟩ := shRun_ex L gr k (roomS L (hld room) (hld gap) k k) (freeF L (iniZ gr L k k) (iniT gr L k k) (roomS L (hld room) (hld gap) k k) k) _ (iniZ gr L k k) (iniT gr L k k) (iniT_len _ _ _ _) (Nat.le_refl _)
      have HSH := Lib.hid (c_Share u9 (I.map mkI2) wr.heap.size k room gap wr (RdS.of_own HO.out) (Nat.le_refl _) (by omega) k (by omega) L hL gr hgr _ _ rfl rfl r hrun)
      have HFN : Hid (GU + US < room → (∀ i, i < k → (itA I i).b ≤ szA r i) ∧ GU + sumTo (fun i => szA r i + (itA I i).ar) k = room) := fun h => by
        have e := hgr2 h
        subst e
        exact hfin r h hrun
      clear htk hil hL hW hfin hUS hgr hroom hgr2 hrun
      go_wp2_with fail
      refine HSH.out.mono ?_
      rintro e w5 ⟨g5, rfl, hbk, hrl, hg5, hb5⟩
      have HBK := Lib.hid hbk; have HRL := Lib.hid hrl
      have HB5 : Hid (Below B w w5) := HBL.out.trans (hb5.mono HZ.out)
      have hB5 : B ≤ w5.heap.size := Nat.le_trans HZ.out hb5.size
      clear hbk hrl hb5
      by_cases hu : GU + US ≥ room
      · go_wp2_with fail
        go_ret
        exact ⟨rfl, by rw [← HBE.out]; exact HB5.out⟩
      obtain ⟨hge, hsum⟩ := HFN.out (by omega)
      have HGE := Lib.hid hge; have HSUM := Lib.hid hsum
      clear hge hsum
      have hGw : wrap64 (gap * ((k : Int) - 1)) = GU := by rw [HGU.out]; exact IntWalk.wrap64_in _ ⟨by rw [← HGU.out]; omega, by rw [← HGU.out]; omega⟩
      go_wp2_with fail
      go_loopw [13, 14] (fun s i w2 => ∃ (q : Nat), q ≤ k ∧ i = .int .i64 q ∧ s = .int .i64 (GU + sumTo (fun i => szA r i + (itA I i).ar) q) ∧ Hid (Below w5.heap.size w5 w2)) (fun _ i _ => k - (intOf i).toNat)
      case atStart => exact ⟨0, by omega, rfl, by simp [sumTo]; exact hGw, Below.refl _ _⟩
      case round =>
        obtain ⟨q, hq, rfl, rfl, HB2⟩ := hrel
        clear hGw
        by_cases hqk : q < k
        · skip
          have hik2 : (q : Int) < (k : Int) := by omega
          have hx : I[q]? = some (itA I q) := by rw [List.getElem?_eq_getElem (by rw [HL.out]; exact hqk), itA_eq (List.getElem?_eq_getElem (by rw [HL.out]; exact hqk))]
          have HBw : Hid (Below w.heap.size w wr) := by rw [← HBE.out]; exact HB5.out.trans (HB2.out.mono hB5)
          obtain ⟨g, o, rfl, _, f1⟩ := rd_fi HP.out hqk hx
          obtain ⟨d0, d1, d2, d3, d4, d5⟩ := f1 _ HBw.out
          have cr : wr.cell? ⟨g5, q, none⟩ = some (.int .i64 (szA r q)) := by
            rw [HB2.out.cell (p := ⟨g5, q, none⟩) HBK.out.lt, HBK.out.cell]
            have : r[q]? = some (szA r q) := by rw [List.getElem?_eq_getElem (by rw [HRL.out]; exact hqk), szA_eq (List.getElem?_eq_getElem (by rw [HRL.out]; exact hqk))]
            simp [this]
          have hnn : ∀ i, i < k → 0 ≤ szA r i + (itA I i).ar := fun i hi => by have h1 := HGE.out i hi; have h2 := HOK.out i hi; unfold OkI2 at h2; omega
          have m1 := sumTo_mono (f := fun i => szA r i + (itA I i).ar) hnn 0 q (by omega) (by omega)
          have m2 := sumTo_mono (f := fun i => szA r i + (itA I i).ar) hnn (q + 1) k (by omega) (Nat.le_refl _)
          have hsum := HSUM.out
          have HS1 : Hid (sumTo (fun i => szA r i + (itA I i).ar) (q + 1) = sumTo (fun i => szA r i + (itA I i).ar) q + (szA r q + (itA I q).ar)) := rfl
          have hs1 := HS1.out
          have hge := HGE.out q hqk
          have hok := HOK.out q hqk
          unfold OkI2 at hok
          have e0 : sumTo (fun i => szA r i + (itA I i).ar) 0 = 0 := rfl
          rw [e0] at m1
          obtain ⟨S1, hS1⟩ : ∃ S1, S1 = sumTo (fun i => szA r i + (itA I i).ar) q := ⟨_, rfl⟩
          obtain ⟨S2, hS2⟩ : ∃ S2, S2 = sumTo (fun i => szA r i + (itA I i).ar) (q + 1) := ⟨_, rfl⟩
          obtain ⟨S3, hS3⟩ : ∃ S3, S3 = sumTo (fun i => szA r i + (itA I i).ar) k := ⟨_, rfl⟩
          rw [← hS1, ← hS2] at hs1 HS1
          rw [← hS1] at m1 ⊢
          rw [← hS2, ← hS3] at m2
          rw [← hS3] at hsum
          have HS2 := Lib.hid hS2
          obtain ⟨Z, hZ⟩ : ∃ Z, Z = szA r q := ⟨_, rfl⟩
          obtain ⟨xx, hxx⟩ : ∃ xx, xx = itA I q := ⟨_, rfl⟩
          rw [← hZ] at cr hs1 hge HS1
          rw [← hxx] at d0 d1 d2 d3 d4 d5 hs1 hge hok HS1
          have hb3 : 0 ≤ S1 + Z + xx.ar ∧ S1 + Z + xx.ar ≤ 16777216 := by omega
          have hb4 : 0 ≤ Z ∧ Z ≤ 16777216 ∧ 0 ≤ S1 ∧ S1 ≤ 16777216 := by omega
          have HE : Hid (GU + S2 = GU + S1 + Z + xx.ar) := by unfold Hid; omega
          have har := hok.2.2
          have hbx : ¬ Z < xx.b := by omega
          clear hnn m1 m2 hsum hs1 hge hok e0 hS1 hS2 hS3 hZ hxx hx f1 HS1
          obtain ⟨xb, xmn, xmx, xar, xg, xs⟩ := xx
          simp only at d0 d1 d2 d3 d4 d5 hb3 HE har hbx
          have v1 : IntKind.i64.wrap (GU + S1 + Z) = GU + S1 + Z := IntWalk.i64_in _ (by omega)
          have v2 : IntKind.i64.wrap (GU + S1 + Z + xar) = GU + S1 + Z + xar := IntWalk.i64_in _ (by omega)
          go_wp2_with fail
          go_quiet (fail)
          go_wp2_with fail
          go_quiet (fail)
          go_wp2_with fail
          go_roundw
          case rel => exact ⟨q + 1, by omega, by go_num, by rw [← HS2.out, HE.out], bl_drewN HB2.out _⟩
          case measure => simp [intOf]; omega
        · obtain rfl : q = k := by omega
          have hik2 : ¬ (q : Int) < (q : Int) := by omega
          go_wp2_with fail
          go_ret
          refine ⟨?_, ?_⟩
          · rw [HSUM.out]; simp
          · rw [← HBE.out]; exact HB5.out.trans (HB2.out.mono hB5)
set_option maxRecDepth 100000 in
theorem W_flexSums {H : Type} {enc : TypeId × Value → H} {b0 base : Nat} {r : Reach} {spare : Nat → Bool} {held : Bool} {d : DataW H} {p : List MemPlace} (v : Value) (room gap : Int) (w : World)
    (hv : Value.okWide Try.prog w r b0 22 v) (hh : DataW.Trod enc Try.prog w base spare held 22 v d p) (_ : (Lit.int .i64 room).wf = true) (_ : (Lit.int .i64 gap).wf = true) :
    Calls Try.prog 3 #[v, .int .i64 room, .int .i64 gap] w fun e w' => e = .returned (.bool true) ∧ Below w.heap.size w w' := by
  obtain ⟨n, L, h1, h2, h3⟩ := open_Flex hv hh
  exact W_walkFS v n L room gap w h1 h2 h3
end Go.Proofs.Ytdpnpjficcciiaa
