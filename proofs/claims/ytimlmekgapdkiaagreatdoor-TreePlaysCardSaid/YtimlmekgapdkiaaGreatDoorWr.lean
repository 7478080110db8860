/- the law's 'alike': two trees of the same nodes; the law's 'looked' -/
import Derived.Test.YtimlmekgapdkiaaGreatDoorWz
import Derived.Test.YtimlmekgapdkiaaGreatDoorUf
import Derived.Deep.CutBlock
import Derived.Test.YtimlmekgapdkiaaGreatDoorWp
namespace Go.Proofs.YtimlmekgapdkiaaGreatDoor
set_option linter.unusedVariables false
set_option linter.unusedSimpArgs false
open Go.RowKit Go.Cas

def AtB (T : List Nod) (b : Nat) : Prop := ∀ j, (ndA T j).at_.length ≤ b
theorem rdz_S {w : World} {B R L cap n : Nat} {tv : Value} {xs : List Value} {τ : Nat → Nat} {M : List NV} {i : Nat} {y : NV} (h : RT B R L cap n tv xs τ M w) (hy : M[i]? = some y) : RdS w w.heap.size 1 y.vk y.x.ki.length (kic y.x.ki) :=
  (h.ki i y hy).toS (fun k hz => (h.tB k (by rw [show τ k = 4 from hz]; omega)).2)
theorem le_sum : ∀ (l : List Nat) (x : Nat), x ∈ l → x ≤ l.sum := by
  intro l
  induction l with
  | nil => intro x h; simp at h
  | cons a l ih =>
    intro x h
    rw [List.sum_cons]
    rcases List.mem_cons.1 h with rfl | h
    · omega
    · have := ih x h; omega
/-- what the law knows of both trees -/
structure Two (Bt Rt : Nat) (T : List Nod) (D : List (Value × List Nod)) (F : Nat → Prop) (B R L cap nW : Nat) (tvW : Value) (xsW : List Value) (τ : Nat → Nat) (M : List NV) (w : World) : Prop where
  t : TS Bt Rt T D F w
  r : RT B R L cap nW tvW xsW τ M w
  m : M.map NV.x = T
theorem Two.below {Bt Rt B R L cap : Nat} {T : List Nod} {D : List (Value × List Nod)} {F : Nat → Prop} {τ : Nat → Nat} {M : List NV} {nW : Nat} {tvW : Value} {xsW : List Value} {w w' : World} (h : Two Bt Rt T D F B R L cap nW tvW xsW τ M w) (hb : Below w.heap.size w w') : Two Bt Rt T D F B R L cap nW tvW xsW τ M w' := ⟨h.t.below hb, h.r.below hb, h.m⟩
def AlRet (w : World) (e : Ending) (w' : World) : Prop := e = .returned (.bool true) ∧ Below w.heap.size w w'
def NdAt (W : World) (g : Nat) (y : NV) : Prop := Bk W g 46 #[.int .i64 y.x.k, .string y.x.tag, .string y.x.txt, y.va, .int .i64 y.x.pa, y.vk]
set_option maxRecDepth 100000 in
set_option maxHeartbeats 16000000 in
theorem c_alike {w : World} {Bt Rt B R L cap : Nat} {T : List Nod} {D : List (Value × List Nod)} {F : Nat → Prop} {d τ : Nat → Nat} {M : List NV} {nW : Nat} {tvW : Value} {xsW : List Value} (h : Two Bt Rt T D F B R L cap nW tvW xsW τ M w) (hW : WF T d) (hT : T.length ≤ 400) (hA : AtB T 1000) :
    Calls Tryz.prog 6 #[.pointer (some ⟨Rt, 0, none⟩), .pointer (some ⟨R, 0, none⟩)] w (AlRet w) := by
  have H := Lib.hid h
  have HW := Lib.hid hW
  have HT := Lib.hid hT
  have HA := Lib.hid hA
  have hlM : M.length = T.length := by rw [← h.m]; simp
  have HLM := Lib.hid hlM
  have HSZ : Hid (∀ n, Calls Tryz.prog 9 #[.pointer (some ⟨Rt, 0, none⟩)] (w.drewN n) fun e w' => e = .returned (.int .i64 (M.length : Int)) ∧ w.drewN n = w') := fun n => by rw [hlM]; exact c_Size (h.t.drewN n)
  obtain ⟨g0, _⟩ := h.r.heads
  have gl := h.r.ltR
  have hl4 : M.length ≤ 400 := by omega
  clear h hW hT hA hlM
  go_enter Tryz.func6, Tryz.ntmps6
  go_upto_region 1 with fail
  go_quiet ((go_at_call 9; exact q_left (HSZ.out _)))
  go_wp2_with fail
  go_loopw [5] (fun a wx => ∃ (i : Nat), a = .int .i64 (i : Int) ∧ i ≤ M.length ∧ Hid (Below w.heap.size w wx)) (fun a _ => M.length - (intOf a).toNat)
  case atStart => exact ⟨0, rfl, by omega, bl_drewN (Below.refl _ _) _⟩
  case round =>
    obtain ⟨i, rfl, hi, HB⟩ := hrel
    have h2 := H.out.below HB.out
    have HH := Lib.hid h2
    obtain ⟨r0, _⟩ := h2.r.heads
    have rl := h2.r.ltR
    have rL := h2.r.ltL
    clear g0 gl
    by_cases hlt : i < M.length
    · have hii : (i : Int) < (M.length : Int) := by omega
      obtain ⟨y, hy⟩ : ∃ y, M[i]? = some y := ⟨_, List.getElem?_eq_getElem hlt⟩
      have hTx : T[i]? = some y.x := by rw [← h2.m, List.getElem?_map, hy]; rfl
      obtain ⟨⟨a0, a1, a2⟩, a3, a4, a5⟩ := h2.r.cell hy
      have HY := Lib.hid hy
      have HTX := Lib.hid hTx
      have hiT : i < T.length := (List.getElem?_eq_some_iff.1 hTx).1
      have hyn : ndA T i = y.x := ndA_eq hTx
      have hal : y.x.at_.length ≤ 1000 := by rw [← hyn]; exact HA.out i
      have hkl : y.x.ki.length ≤ 400 := by
        have := nodup_lt _ _ (HW.out.nd i hiT) (fun a ha => (HW.out.ki i hiT a ha).1)
        have h4 := HT.out
        rw [hyn] at this
        omega
      have HYN := Lib.hid hyn
      have HIT := Lib.hid hiT
      obtain ⟨_, Aa, ca, hva, _, _⟩ := RdS.of_own (h2.r.at_ i y hy)
      obtain ⟨_, Ak, ck, hvk, _, _⟩ := rdz_S h2.r hy
      rw [hva] at a3
      rw [hvk] at a5
      have HVA := Lib.hid hva
      have HVK := Lib.hid hvk
      clear hy hTx h2 hiT hyn hva hvk
      go_upto_region 7 with fail
      obtain ⟨wq, hwq⟩ : ∃ wq, wq = wr.alloc (.cells #[.int .i64 y.x.k, .string y.x.tag, .string y.x.txt, .slice Aa y.x.at_.length ca, .int .i64 y.x.pa, .slice Ak y.x.ki.length ck] 46) := ⟨_, rfl⟩
      obtain ⟨gq, hgq⟩ : ∃ gq, gq = wr.heap.size := ⟨_, rfl⟩
      rw [← hwq, ← hgq]
      have hbq : Below wr.heap.size wr wq := by rw [hwq]; exact bl_alloc (Below.refl _ _) _
      have hnd : Bk wq gq 46 #[.int .i64 y.x.k, .string y.x.tag, .string y.x.txt, .slice Aa y.x.at_.length ca, .int .i64 y.x.pa, .slice Ak y.x.ki.length ck] := by rw [hwq]; exact bk_new' _ _ _ hgq
      have HND := Lib.hid hnd
      have HQ := Lib.hid (HH.out.below hbq)
      have HBQ : Hid (Below w.heap.size w wq) := bl_trans HB.out hbq
      have HKI : Hid (∀ n, Calls Tryz.prog 10 #[.pointer (some ⟨Rt, 0, none⟩), .int .i64 (i : Int)] (wq.drewN n) fun e w' => e = .returned (.int .i64 y.x.k) ∧ wq.drewN n = w') := fun n => c_Kind (HQ.out.t.drewN n) HT.out HTX.out
      have HTG : Hid (∀ n, Calls Tryz.prog 11 #[.pointer (some ⟨Rt, 0, none⟩), .int .i64 (i : Int)] (wq.drewN n) fun e w' => e = .returned (.string y.x.tag) ∧ wq.drewN n = w') := fun n => c_Tag (HQ.out.t.drewN n) HT.out HTX.out
      have HWD : Hid (∀ n, Calls Tryz.prog 12 #[.pointer (some ⟨Rt, 0, none⟩), .int .i64 (i : Int)] (wq.drewN n) fun e w' => e = .returned (.string y.x.txt) ∧ wq.drewN n = w') := fun n => c_Words (HQ.out.t.drewN n) HT.out HTX.out
      have HPA : Hid (∀ n, Calls Tryz.prog 13 #[.pointer (some ⟨Rt, 0, none⟩), .int .i64 (i : Int)] (wq.drewN n) fun e w' => e = .returned (.int .i64 y.x.pa) ∧ wq.drewN n = w') := fun n => c_Parent (HQ.out.t.drewN n) HT.out HTX.out
      have n0 := hnd.cell 0
      have n1 := hnd.cell 1
      have n2 := hnd.cell 2
      have n4 := hnd.cell 4
      clear hwq hgq hbq hnd a0 a1 a2 a3 a4 a5 r0 rl rL
      go_quiet ((first | (go_at_call 10; exact q_left (HKI.out _)) | (go_at_call 11; exact q_left (HTG.out _)) | (go_at_call 12; exact q_left (HWD.out _)) | (go_at_call 13; exact q_left (HPA.out _))))
      go_upto_region 9 with fail
      obtain ⟨w9, hw9⟩ : ∃ w9, w9 = wq.drewN nq := ⟨_, rfl⟩
      rw [← hw9]
      have HQ9 : Hid (Two Bt Rt T D F B R L cap nW tvW xsW τ M w9 ∧ Below w.heap.size w w9 ∧ NdAt w9 gq y) := by
        rw [hw9]
        refine ⟨HQ.out.below (bl_drewN (Below.refl _ _) _), bl_drewN HBQ.out _, ?_⟩
        have : NdAt wq gq y := by unfold NdAt; rw [HVA.out, HVK.out]; exact HND.out
        exact Bk.drewN this _
      clear hw9 n0 n1 n2 n4 HQ HBQ HND HKI HTG HWD HPA
      go_cut [7] (fun v7 wx => v7 = .bool true ∧ Hid (Two Bt Rt T D F B R L cap nW tvW xsW τ M wx ∧ Below w.heap.size w wx ∧ NdAt wx gq y))
      case first =>
        have HAT : Hid (∀ W', Below w9.heap.size w9 W' → Calls Tryz.prog 15 #[.pointer (some ⟨Rt, 0, none⟩), .int .i64 (i : Int)] W' (ClRetA W' y.x.at_.length (atc y.x.at_))) := fun W' hb => c_Attrs (HQ9.out.1.t.below hb) HT.out HTX.out (by omega)
        have HS : Hid (∀ W', Below w9.heap.size w9 W' → W'.cell? ⟨gq, 3, none⟩ = some (.slice Aa y.x.at_.length ca)) := fun W' hb => by
          have h3 : Bk W' gq 46 #[.int .i64 y.x.k, .string y.x.tag, .string y.x.txt, y.va, .int .i64 y.x.pa, y.vk] := Bk.below HQ9.out.2.2 hb (Bk.lt HQ9.out.2.2)
          rw [h3.cell 3]
          show some y.va = _
          rw [HVA.out]
        have HRA : Hid (∀ W', Below w9.heap.size w9 W' → RdS W' w9.heap.size 2 (.slice Aa y.x.at_.length ca) y.x.at_.length (atc y.x.at_)) := fun W' hb => by
          have := RdS.of_own (HQ9.out.1.r.at_ i y HY.out)
          rw [HVA.out] at this
          exact this.below hb
        go_region_held3 (fun w' => w'.cell? ⟨gq, 3, none⟩ = some (.slice Aa y.x.at_.length ca))
          (first | with_reducible exact HS.out _ (Below.refl _ _) | with_reducible exact HS.out _ (bl_drew (Below.refl _ _)) | with_reducible exact HS.out _ HBA.out | with_reducible exact HS.out _ HBS.out)
          (first
            | (go_at_call 15; (with_reducible refine (HAT.out _ (bl_drew (Below.refl _ _))).mono ?_); rintro e wa ⟨va, rfl, hoa, hba⟩; have HOA := Lib.hid hoa; have HBA : Hid (Below w9.heap.size w9 wa) := bl_trans (bl_drew (Below.refl _ _)) hba; clear hoa hba)
            | (go_at_call 14; (with_reducible refine (c_sameAttrs (lim := wa.heap.size) (RdS.of_own HOA.out) ((HRA.out wa HBA.out).mono HBA.out.size) (by omega) (Nat.le_refl _)).mono ?_); rintro e ws ⟨rfl, hbs⟩; have HBS : Hid (Below w9.heap.size w9 ws) := bl_trans HBA.out hbs; clear hbs))
        all_goals
          go_wp2_with fail
          go_meet
          exact ⟨rfl, HQ9.out.1.below HBS.out, bl_trans HQ9.out.2.1 HBS.out, Bk.below HQ9.out.2.2 HBS.out (Bk.lt HQ9.out.2.2)⟩
      case rest =>
        obtain ⟨rfl, h10⟩ := hcut
        obtain ⟨w10, rfl⟩ : ∃ w10 : World, w10 = wc := ⟨_, rfl⟩
        clear HQ9
        go_upto_region 10 with fail
        go_cut [8] (fun v8 wx => v8 = .bool true ∧ Hid (Two Bt Rt T D F B R L cap nW tvW xsW τ M wx ∧ Below w.heap.size w wx ∧ NdAt wx gq y))
        case first =>
          have HAT : Hid (∀ W', Below w10.heap.size w10 W' → Calls Tryz.prog 17 #[.pointer (some ⟨Rt, 0, none⟩), .int .i64 (i : Int)] W' (ClRetI W' y.x.ki.length (kic y.x.ki))) := fun W' hb => c_Kids (h10.out.1.t.below hb) HT.out HTX.out (by omega)
          have HS : Hid (∀ W', Below w10.heap.size w10 W' → W'.cell? ⟨gq, 5, none⟩ = some (.slice Ak y.x.ki.length ck)) := fun W' hb => by
            have h3 : Bk W' gq 46 #[.int .i64 y.x.k, .string y.x.tag, .string y.x.txt, y.va, .int .i64 y.x.pa, y.vk] := Bk.below h10.out.2.2 hb (Bk.lt h10.out.2.2)
            rw [h3.cell 5]
            show some y.vk = _
            rw [HVK.out]
          have HRA : Hid (∀ W', Below w10.heap.size w10 W' → RdS W' w10.heap.size 1 (.slice Ak y.x.ki.length ck) y.x.ki.length (kic y.x.ki)) := fun W' hb => by
            have := rdz_S h10.out.1.r HY.out
            rw [HVK.out] at this
            exact this.below hb
          go_region_held3 (fun w' => w'.cell? ⟨gq, 5, none⟩ = some (.slice Ak y.x.ki.length ck))
            (first | with_reducible exact HS.out _ (Below.refl _ _) | with_reducible exact HS.out _ (bl_drew (Below.refl _ _)) | with_reducible exact HS.out _ HBA.out | with_reducible exact HS.out _ HBS.out)
            (first
              | (go_at_call 17; (with_reducible refine (HAT.out _ (bl_drew (Below.refl _ _))).mono ?_); rintro e wa ⟨va, rfl, hoa, hba⟩; have HOA := Lib.hid hoa; have HBA : Hid (Below w10.heap.size w10 wa) := bl_trans (bl_drew (Below.refl _ _)) hba; clear hoa hba)
              | (go_at_call 16; (with_reducible refine (c_sameInts (lim := wa.heap.size) (RdS.of_own HOA.out) ((HRA.out wa HBA.out).mono HBA.out.size) (by omega) (Nat.le_refl _)).mono ?_); rintro e ws ⟨rfl, hbs⟩; have HBS : Hid (Below w10.heap.size w10 ws) := bl_trans HBA.out hbs; clear hbs))
          all_goals
            go_wp2_with fail
            go_meet
            exact ⟨rfl, h10.out.1.below HBS.out, bl_trans h10.out.2.1 HBS.out, Bk.below h10.out.2.2 HBS.out (Bk.lt h10.out.2.2)⟩
        case rest =>
          obtain ⟨rfl, h11⟩ := hcut
          obtain ⟨w11, rfl⟩ : ∃ w11 : World, w11 = wc := ⟨_, rfl⟩
          clear h10
          have hulen : ∀ f, (und T f i).length ≤ 400 := fun f => Nat.le_trans (und_len HW.out f i HIT.out) HT.out
          have HUL := Lib.hid hulen
          obtain ⟨f, HU1, HU2⟩ : ∃ f, Hid (∀ W', Below w11.heap.size w11 W' → Calls Tryz.prog 18 #[.pointer (some ⟨Rt, 0, none⟩), .int .i64 (i : Int)] W' (WyRet W' (und T f i))) ∧ Hid (∀ W', Below w11.heap.size w11 W' → Calls Tryz.prog 19 #[.pointer (some ⟨R, 0, none⟩), .int .i64 (i : Int)] W' (WyRet W' (und T f i))) := by
            obtain ⟨Dm, hD⟩ : ∃ Dm, ∀ k, k < T.length → d k ≤ Dm := ⟨((List.range T.length).map d).sum, fun k hk => by
              have : d k ∈ (List.range T.length).map d := List.mem_map_of_mem (List.mem_range.2 hk)
              exact le_sum _ _ this⟩
            exact ⟨Dm + 1, fun W' hb => c_UnderF HW.out hD HT.out (Dm + 1) W' i (h11.out.1.t.below hb) HIT.out (by omega), fun W' hb => c_rUnderF HW.out hD HT.out (Dm + 1) W' i ⟨L, cap, _, _, M, h11.out.1.r.below hb, h11.out.1.m⟩ HIT.out (by omega)⟩
          clear hulen
          go_wp2_with (first
            | (go_at_call 18; (with_reducible refine (HU1.out _ (Below.refl _ _)).mono ?_); rintro e wu ⟨vu, rfl, hou, hbu⟩; have HOU := Lib.hid hou; have HBU := Lib.hid hbu; clear hou hbu)
            | (go_at_call 19; (with_reducible refine (HU2.out _ HBU.out).mono ?_); rintro e wv ⟨vv, rfl, hov, hbv⟩; have HOV := Lib.hid hov; have HBV := Lib.hid hbv; clear hov hbv)
            | (go_at_call 16; (with_reducible refine (c_sameInts (lim := wv.heap.size) (((RdS.of_own HOU.out).below HBV.out).mono HBV.out.size) (RdS.of_own HOV.out) (by have := HUL.out f; omega) (Nat.le_refl _)).mono ?_); rintro e ws ⟨rfl, hbs⟩; have HBS : Hid (Below w11.heap.size w11 ws) := bl_trans (bl_trans HBU.out HBV.out) hbs; clear hbs))
          go_roundw
          case rel => exact ⟨i + 1, by go_num, by omega, bl_trans h11.out.2.1 HBS.out⟩
          case measure => simp [intOf]; omega
    · have hlt' : ¬ (i : Int) < (M.length : Int) := by omega
      go_wp2_with fail
      go_ret
      exact ⟨rfl, HB.out⟩
end Go.Proofs.YtimlmekgapdkiaaGreatDoor
namespace Go.Proofs.YtimlmekgapdkiaaGreatDoor
set_option linter.unusedVariables false
set_option linter.unusedSimpArgs false
open Go.RowKit Go.Cas

theorem ord_any {T : List Nod} {d : Nat → Nat} (hW : WF T d) (hT : T.length ≤ 400) (a b : Int) : ∃ oo : Int × Bool,
    (∀ (B R : Nat) (F : Nat → Prop) (D : List (Value × List Nod)) (w : World), TS B R T D F w → Calls Tryz.prog 40 #[.pointer (some ⟨R, 0, none⟩), .int .i64 a, .int .i64 b] w (OrRet w oo)) ∧
    (∀ (B R n : Nat) (τ : Nat → Nat) (w : World), RS B R T n τ w → Calls Tryz.prog 41 #[.pointer (some ⟨R, 0, none⟩), .int .i64 a, .int .i64 b] w (OrRet w oo)) := by
  by_cases hn : a < 0 ∨ (T.length : Int) ≤ a ∨ b < 0 ∨ (T.length : Int) ≤ b
  · refine ⟨(0, false), fun B R F D w h => (c_Order_no h hT a b hn).mono ?_, fun B R n τ w h => c_rOrder_no h hT a b hn⟩
    rintro e w' ⟨rfl, hb⟩
    exact ⟨rfl, by first | exact hb | (rw [hb]; exact Below.refl _ _)⟩
  · obtain ⟨i, rfl⟩ := Int.eq_ofNat_of_zero_le (show 0 ≤ a by omega)
    obtain ⟨j, rfl⟩ := Int.eq_ofNat_of_zero_le (show 0 ≤ b by omega)
    have hi : i < T.length := by omega
    have hj : j < T.length := by omega
    obtain ⟨X, hX⟩ := Way.ex hW _ i (Nat.le_refl _) hi
    obtain ⟨Y, hY⟩ := Way.ex hW _ j (Nat.le_refl _) hj
    have h1 := hX.short hW hi
    have h2 := hY.short hW hj
    exact ⟨ordW T X Y, fun B R F D w h => c_Order h hW hT hi hj hX hY (by omega) (by omega), fun B R n τ w h => c_rOrder h hW hT hi hj hX hY⟩
theorem c_AttrZ {w : World} {B R : Nat} {F : Nat → Prop} {T : List Nod} {D : List (Value × List Nod)} {z : Int} (h : TS B R T D F w) (hT : T.length ≤ 400) (hz : z < 0 ∨ (T.length : Int) ≤ z) (nm : ByteArray) : Calls Tryz.prog 42 #[.pointer (some ⟨R, 0, none⟩), .int .i64 z, .string nm] w fun e w' => e = .returned (.tuple #[.string ByteArray.empty, .bool false]) ∧ w = w' := by
  obtain ⟨L, cap, uv, Z, M, h1, hM, _⟩ := h.ns
  have hlM : M.length = T.length := by rw [← hM]; simp
  have HI := Lib.hid (c_is_no h1 z (by omega) (by omega))
  clear h h1 hM hlM hz
  go_enter Tryz.func42, Tryz.ntmps42
  go_wp2_with (go_at_call 45; refine (HI.out).mono ?_; rintro e w' ⟨rfl, rfl⟩)
  go_ret2
  exact ⟨rfl, rfl⟩
set_option maxRecDepth 100000 in
set_option maxHeartbeats 16000000 in
theorem c_looked {w : World} {Bt Rt B R L cap nW : Nat} {tvW : Value} {xsW : List Value} {T : List Nod} {D : List (Value × List Nod)} {F : Nat → Prop} {d τ : Nat → Nat} {M : List NV} (h : Two Bt Rt T D F B R L cap nW tvW xsW τ M w) (hW : WF T d) (hT : T.length ≤ 400) (hA : AtB T 1000) (a b : Int) (nm : ByteArray) :
    Calls Tryz.prog 8 #[.pointer (some ⟨Rt, 0, none⟩), .pointer (some ⟨R, 0, none⟩), .int .i64 a, .int .i64 b, .string nm] w (AlRet w) := by
  obtain ⟨⟨ox, ok⟩, hO1, hO2⟩ := ord_any hW hT a b
  have HH : Hid (∀ W', Below w.heap.size w W' → Two Bt Rt T D F B R L cap nW tvW xsW τ M W') := fun W' hb => h.below hb
  have HP : Hid (∀ W', Below w.heap.size w W' → Calls Tryz.prog 40 #[.pointer (some ⟨Rt, 0, none⟩), .int .i64 a, .int .i64 b] W' (OrRet W' (ox, ok))) := fun W' hb => hO1 _ _ _ _ W' (h.below hb).t
  have HQ : Hid (∀ W', Below w.heap.size w W' → Calls Tryz.prog 41 #[.pointer (some ⟨R, 0, none⟩), .int .i64 a, .int .i64 b] W' (OrRet W' (ox, ok))) := fun W' hb => hO2 _ _ _ _ W' ⟨L, cap, tvW, xsW, M, (h.below hb).r, h.m⟩
  have HS : Hid (∀ W', Below w.heap.size w W' → RS B R T nW τ W') := fun W' hb => ⟨L, cap, tvW, xsW, M, (h.below hb).r, h.m⟩
  have HT := Lib.hid hT
  have HM := Lib.hid h.m
  have hox : (ox != ox) = false := by simp
  have hok : (ok != ok) = false := by simp
  by_cases hz : a < 0 ∨ (T.length : Int) ≤ a
  · have HZ := Lib.hid hz
    have hnd : isNd T a = false := decide_eq_false (by omega)
    have HHS : Hid (∀ W', Below w.heap.size w W' → Calls Tryz.prog 43 #[.pointer (some ⟨R, 0, none⟩), .int .i64 a] W' fun e w' => e = .returned (.bool false) ∧ W' = w') := fun W' hb => by rw [← hnd]; exact c_rHasZ (HS.out W' hb) HT.out a
    clear h hW hT hA hO1 hO2 hz hnd
    go_enter Tryz.func8, Tryz.ntmps8
    go_wp2_with (first
      | (go_at_call 40; refine (HP.out _ (Below.refl _ _)).mono ?_; rintro e w1 ⟨rfl, hb1⟩; have HB1 := Lib.hid hb1; clear hb1)
      | (go_at_call 41; refine (HQ.out _ HB1.out).mono ?_; rintro e w2 ⟨rfl, hb2⟩; have HB2 := Lib.hid (bl_trans HB1.out hb2); clear hb2)
      | (go_at_call 42; refine (c_AttrZ (HH.out _ HB2.out).t HT.out HZ.out nm).mono ?_; rintro e w' ⟨rfl, rfl⟩)
      | (go_at_call 43; refine (HHS.out _ HB2.out).mono ?_; rintro e w' ⟨rfl, rfl⟩)
      | (go_at_call 10; refine (c_KindZ (HH.out _ HB2.out).t HT.out HZ.out).mono ?_; rintro e w' ⟨rfl, rfl⟩)
      | (go_at_call 11; refine (c_TagZ (HH.out _ HB2.out).t HT.out HZ.out).mono ?_; rintro e w' ⟨rfl, rfl⟩)
      | (go_at_call 12; refine (c_WordsZ (HH.out _ HB2.out).t HT.out HZ.out).mono ?_; rintro e w' ⟨rfl, rfl⟩)
      | (go_at_call 13; refine (c_ParentZ (HH.out _ HB2.out).t HT.out HZ.out).mono ?_; rintro e w' ⟨rfl, rfl⟩)
      | (go_at_call 17; refine (c_KidsZ (HH.out _ HB2.out).t HT.out HZ.out).mono ?_; rintro e w' ⟨rfl, rfl⟩)
      | (go_at_call 18; refine (c_UnderZ (HH.out _ HB2.out).t HT.out HZ.out).mono ?_; rintro e w' ⟨rfl, rfl⟩)
      | (go_at_call 15; refine (c_AttrsZ (HH.out _ HB2.out).t HT.out HZ.out).mono ?_; rintro e w' ⟨rfl, rfl⟩))
    go_ret
    exact ⟨rfl, HB2.out⟩
  · obtain ⟨i, rfl⟩ := Int.eq_ofNat_of_zero_le (show 0 ≤ a by omega)
    have hi : i < T.length := by omega
    have HI := Lib.hid hi
    have hnd : isNd T (i : Int) = true := decide_eq_true (by omega)
    have HHS : Hid (∀ W', Below w.heap.size w W' → Calls Tryz.prog 43 #[.pointer (some ⟨R, 0, none⟩), .int .i64 (i : Int)] W' fun e w' => e = .returned (.bool true) ∧ W' = w') := fun W' hb => by rw [← hnd]; exact c_rHasZ (HS.out W' hb) HT.out _
    have HAI := Lib.hid (hA i)
    obtain ⟨y, hy, hyx⟩ := nv_get h.m (ndA_get hi)
    have HY := Lib.hid hy
    have HYX := Lib.hid hyx
    have hlM : M.length = T.length := by rw [← h.m]; simp
    have hii : (i : Int) < (M.length : Int) := by omega
    have hl4 : M.length ≤ 400 := by omega
    have hTi := ndA_get hi
    have HTI := Lib.hid hTi
    have HAV : Hid (∀ W', Below w.heap.size w W' → Calls Tryz.prog 42 #[.pointer (some ⟨Rt, 0, none⟩), .int .i64 (i : Int), .string nm] W' (AvRet (atv (ndA T i).at_ nm) W')) := fun W' hb => c_Attr (HH.out W' hb).t HT.out HTI.out (by have := HAI.out; omega) nm
    obtain ⟨m, hm⟩ : ∃ m, m = y.x.at_.length := ⟨_, rfl⟩
    obtain ⟨_, A, c, hva, _, _⟩ := RdS.of_own (h.r.at_ i y hy)
    rw [← hm] at hva
    have HM0 := Lib.hid hm
    have HVA := Lib.hid hva
    have HCE : Hid (∀ W', Below w.heap.size w W' → W'.cell? ⟨R, 0, none⟩ = some (.slice (some ⟨L, 0, none⟩) M.length cap) ∧ R < W'.heap.size ∧ L < W'.heap.size ∧ W'.cell? ⟨L, i * 6 + 3, none⟩ = some (.slice A m c)) := fun W' hb => by
      have h' := (HH.out W' hb).r
      have := (h'.cell HY.out).2.1
      rw [HVA.out] at this
      exact ⟨h'.heads.1, h'.ltR, h'.ltL, this⟩
    have HAT : Hid (∀ W', Below w.heap.size w W' → Calls Tryz.prog 44 #[.slice A m c, .string nm] W' fun e w' => e = .returned (.int .i64 (fnd (ndA T i).at_ nm)) ∧ W' = w') := fun W' hb => by
      have ho := (HH.out W' hb).r.at_ i y HY.out
      have hc := c_rAt (s := nm) (RdS.of_own ho) (by rw [HYX.out]; have := HAI.out; omega) (Nat.le_refl _)
      rw [HVA.out, HYX.out] at hc
      exact hc
    clear h hW hT hA hO1 hO2 hz hnd hi hy hyx hlM hTi hm hva
    cases ho : atv (ndA T i).at_ nm with
    | none =>
      rw [ho] at HAV
      rw [atv_none _ _ ho] at HAT
      clear ho
      go_enter Tryz.func8, Tryz.ntmps8
      go_upto_region 6 with (first
        | (go_at_call 40; refine (HP.out _ (Below.refl _ _)).mono ?_; rintro e w1 ⟨rfl, hb1⟩; have HB1 := Lib.hid hb1; clear hb1)
        | (go_at_call 41; refine (HQ.out _ HB1.out).mono ?_; rintro e w2 ⟨rfl, hb2⟩; have HB2 := Lib.hid (bl_trans HB1.out hb2); clear hb2)
        | (go_at_call 42; refine (HAV.out _ HB2.out).mono ?_; rintro e w3 ⟨rfl, hb3⟩; have HB3 := Lib.hid (bl_trans HB2.out hb3); clear hb3))
      obtain ⟨q0, q1, q2, q3⟩ := HCE.out w3 HB3.out
      go_wp2_with (first
        | (go_at_call 43; refine (HHS.out _ HB3.out).mono ?_; rintro e w' ⟨rfl, rfl⟩)
        | (go_at_call 44; refine (HAT.out _ HB3.out).mono ?_; rintro e w' ⟨rfl, rfl⟩))
      go_ret
      exact ⟨rfl, HB3.out⟩
    | some v =>
      obtain ⟨k, hk, p, hp, hpv⟩ := atv_hit _ _ _ ho
      rw [ho] at HAV
      rw [hk] at HAT
      have HP2 := Lib.hid hp
      have hkm : k < m := by rw [HM0.out, HYX.out]; exact (List.getElem?_eq_some_iff.1 hp).1
      have hkmi : (k : Int) < (m : Int) := by omega
      have hk0 : 0 ≤ (k : Int) := by omega
      have hm9 : m ≤ 1000000 := by rw [HM0.out, HYX.out]; have := HAI.out; omega
      have HPV := Lib.hid hpv
      clear ho hk hp hpv
      go_enter Tryz.func8, Tryz.ntmps8
      go_upto_region 6 with (first
        | (go_at_call 40; refine (HP.out _ (Below.refl _ _)).mono ?_; rintro e w1 ⟨rfl, hb1⟩; have HB1 := Lib.hid hb1; clear hb1)
        | (go_at_call 41; refine (HQ.out _ HB1.out).mono ?_; rintro e w2 ⟨rfl, hb2⟩; have HB2 := Lib.hid (bl_trans HB1.out hb2); clear hb2)
        | (go_at_call 42; refine (HAV.out _ HB2.out).mono ?_; rintro e w3 ⟨rfl, hb3⟩; have HB3 := Lib.hid (bl_trans HB2.out hb3); clear hb3))
      obtain ⟨q0, q1, q2, q3⟩ := HCE.out w3 HB3.out
      go_upto_region 13 with (first
        | (go_at_call 43; refine (HHS.out _ HB3.out).mono ?_; rintro e w' ⟨rfl, rfl⟩)
        | (go_at_call 44; refine (HAT.out _ HB3.out).mono ?_; rintro e w' ⟨rfl, rfl⟩))
      have ho3 := (HH.out w3 HB3.out).r.at_ i y HY.out
      rw [HVA.out] at ho3
      obtain ⟨g, c', e, hgB, hgl⟩ := ho3.form (by rw [← HM0.out]; omega)
      injection e with e _ e3
      subst e e3
      have hcv := ho3.cells (g := g) rfl (k * 2 + 1) (.string p.2) (by rw [HYX.out]; unfold atc; rw [flat_get (fun p : ByteArray × ByteArray => ([.string p.1, .string p.2] : List Value)) 2 (fun _ => rfl) _ k 1 p HP2.out (by omega)]; rfl)
      rw [add_none, Nat.zero_add, HPV.out] at hcv
      clear ho3
      have hvv : (v.toList == v.toList) = true := by rw [beq_str]; simp
      go_wp2_with fail
      go_ret
      exact ⟨rfl, HB3.out⟩
end Go.Proofs.YtimlmekgapdkiaaGreatDoor
