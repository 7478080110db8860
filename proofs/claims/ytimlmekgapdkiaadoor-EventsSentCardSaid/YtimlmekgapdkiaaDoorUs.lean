/- the law's 'alike': the two trees of one list -/
import Derived.Test.YtimlmekgapdkiaaDoorUr
import Derived.Test.YtimlmekgapdkiaaDoorUf
namespace Go.Proofs.YtimlmekgapdkiaaDoor
set_option linter.unusedVariables false
set_option linter.unusedSimpArgs false
open Go.RowKit Go.Cas

/-- the document's tree in a variable of its own -/
theorem RT.move {w : World} {B R L cap : Nat} {τ : Nat → Nat} {M : List NV} (h : RT B R L cap 0 (.slice none 0 0) [] τ M w) : RT B w.heap.size L cap 0 (.slice none 0 0) [] (fun k => if k = w.heap.size then 1 else if k = R then 0 else τ k) M (w.alloc (.cells #[.slice (some ⟨L, 0, none⟩) M.length cap, .slice none 0 0] 36)) := by
  obtain ⟨w', hw'⟩ : ∃ w', w' = w.alloc (.cells #[.slice (some ⟨L, 0, none⟩) M.length cap, .slice none 0 0] 36) := ⟨_, rfl⟩
  have h' := h.below (w' := w') (by rw [hw']; exact bl_alloc (Below.refl _ _) _)
  have hsz : w'.heap.size = w.heap.size + 1 := by rw [hw']; simp
  rw [← hw']
  have key : ∀ k, τ k ≠ 0 → τ k ≠ 1 → (if k = w.heap.size then 1 else if k = R then 0 else τ k) = τ k := fun k h1 h2 => by
    rw [if_neg (fun e => by have := (h.tB k h1).2; omega), if_neg (fun e => h2 (by rw [e]; exact h.tR))]
  refine ⟨by rw [hw']; exact bk_new' _ _ _ rfl, h'.row, h'.ow, h'.at_, fun i y hy => (h'.ki i y hy).keep (fun _ _ => rfl) (fun k e => ?_), if_pos rfl, ?_, fun k e => by simp [Value.ownBlock] at e, fun i y hy k e => ?_, fun k hk => ?_⟩
  · have e : τ k = 4 := e
    show (if k = w.heap.size then 1 else if k = R then 0 else τ k) = 4
    rw [key k (by omega) (by omega)]; exact e
  · show (if L = w.heap.size then 1 else if L = R then 0 else τ L) = 2
    rw [key L (by rw [h.tL]; omega) (by rw [h.tL]; omega)]; exact h.tL
  · have := h.tA i y hy k e
    show (if k = w.heap.size then 1 else if k = R then 0 else τ k) = 5 + i
    rw [key k (by omega) (by omega)]; exact this
  · have hB := h.hB
    have hk : (if k = w.heap.size then 1 else if k = R then 0 else τ k) ≠ 0 := hk
    by_cases e : k = w.heap.size
    · omega
    · rw [if_neg e] at hk
      by_cases e2 : k = R
      · rw [if_pos e2] at hk; omega
      · rw [if_neg e2] at hk
        have := h.tB k hk; omega
theorem rdz_S {w : World} {B R L cap n : Nat} {tv : Value} {xs : List Value} {τ : Nat → Nat} {M : List NV} {i : Nat} {y : NV} (h : RT B R L cap n tv xs τ M w) (hy : M[i]? = some y) : RdS w w.heap.size 1 y.vk y.x.ki.length (kic y.x.ki) :=
  (h.ki i y hy).toS (fun k hz => (h.tB k (by rw [show τ k = 4 from hz]; omega)).2)
theorem le_sum : ∀ (l : List Nat) (x : Nat), x ∈ l → x ≤ l.sum := by
  intro l
  induction l with
  | nil => intro x h; simp at h
  | cons a l ih =>
    intro x h
    rw [List.sum_cons]
    rcases List.mem_cons.1 h with rfl | h
    · omega
    · have := ih x h; omega
/-- what the law knows of both trees -/
structure Two (Bt Rt : Nat) (T : List Nod) (D : List (Value × List Nod)) (F : Nat → Prop) (B R L cap : Nat) (τ : Nat → Nat) (M : List NV) (w : World) : Prop where
  t : TS Bt Rt T D F w
  r : RT B R L cap 0 (.slice none 0 0) [] τ M w
  m : M.map NV.x = T
theorem Two.below {Bt Rt B R L cap : Nat} {T : List Nod} {D : List (Value × List Nod)} {F : Nat → Prop} {τ : Nat → Nat} {M : List NV} {w w' : World} (h : Two Bt Rt T D F B R L cap τ M w) (hb : Below w.heap.size w w') : Two Bt Rt T D F B R L cap τ M w' := ⟨h.t.below hb, h.r.below hb, h.m⟩
def AlRet (w : World) (e : Ending) (w' : World) : Prop := e = .returned (.bool true) ∧ Below w.heap.size w w'
def NdAt (W : World) (g : Nat) (y : NV) : Prop := Bk W g 105 #[.int .i64 y.x.k, .string y.x.tag, .string y.x.txt, y.va, .int .i64 y.x.pa, y.vk]
set_option maxRecDepth 100000 in
set_option maxHeartbeats 16000000 in
theorem c_alike {w : World} {Bt Rt B R L cap : Nat} {T : List Nod} {D : List (Value × List Nod)} {F : Nat → Prop} {d τ : Nat → Nat} {M : List NV} (h : Two Bt Rt T D F B R L cap τ M w) (hW : WF T d) (hT : T.length ≤ 400) (hA : AtB T 1000) :
    Calls Tryd.prog 15 #[.pointer (some ⟨Rt, 0, none⟩), .pointer (some ⟨R, 0, none⟩)] w (AlRet w) := by
  have H := Lib.hid h
  have HW := Lib.hid hW
  have HT := Lib.hid hT
  have HA := Lib.hid hA
  have hlM : M.length = T.length := by rw [← h.m]; simp
  have HLM := Lib.hid hlM
  have HSZ : Hid (∀ n, Calls Tryd.prog 18 #[.pointer (some ⟨Rt, 0, none⟩)] (w.drewN n) fun e w' => e = .returned (.int .i64 (M.length : Int)) ∧ w.drewN n = w') := fun n => by rw [hlM]; exact c_Size (h.t.drewN n)
  obtain ⟨g0, _⟩ := h.r.heads
  have gl := h.r.ltR
  have hl4 : M.length ≤ 400 := by omega
  clear h hW hT hA hlM
  go_enter Tryd.func15, Tryd.ntmps15
  go_upto_region 1 with fail
  go_quiet ((go_at_call 18; exact q_left (HSZ.out _)))
  go_wp2_with fail
  go_loopw [5] (fun a wx => ∃ (i : Nat), a = .int .i64 (i : Int) ∧ i ≤ M.length ∧ Hid (Below w.heap.size w wx)) (fun a _ => M.length - (intOf a).toNat)
  case atStart => exact ⟨0, rfl, by omega, bl_drewN (Below.refl _ _) _⟩
  case round =>
    obtain ⟨i, rfl, hi, HB⟩ := hrel
    have h2 := H.out.below HB.out
    have HH := Lib.hid h2
    obtain ⟨r0, _⟩ := h2.r.heads
    have rl := h2.r.ltR
    have rL := h2.r.ltL
    clear g0 gl
    by_cases hlt : i < M.length
    · have hii : (i : Int) < (M.length : Int) := by omega
      obtain ⟨y, hy⟩ : ∃ y, M[i]? = some y := ⟨_, List.getElem?_eq_getElem hlt⟩
      have hTx : T[i]? = some y.x := by rw [← h2.m, List.getElem?_map, hy]; rfl
      obtain ⟨⟨a0, a1, a2⟩, a3, a4, a5⟩ := h2.r.cell hy
      have HY := Lib.hid hy
      have HTX := Lib.hid hTx
      have hiT : i < T.length := (List.getElem?_eq_some_iff.1 hTx).1
      have hyn : ndA T i = y.x := ndA_eq hTx
      have hal : y.x.at_.length ≤ 1000 := by rw [← hyn]; exact HA.out i
      have hkl : y.x.ki.length ≤ 400 := by
        have := nodup_lt _ _ (HW.out.nd i hiT) (fun a ha => (HW.out.ki i hiT a ha).1)
        have h4 := HT.out
        rw [hyn] at this
        omega
      have HYN := Lib.hid hyn
      have HIT := Lib.hid hiT
      obtain ⟨_, Aa, ca, hva, _, _⟩ := RdS.of_own (h2.r.at_ i y hy)
      obtain ⟨_, Ak, ck, hvk, _, _⟩ := rdz_S h2.r hy
      rw [hva] at a3
      rw [hvk] at a5
      have HVA := Lib.hid hva
      have HVK := Lib.hid hvk
      clear hy hTx h2 hiT hyn hva hvk
      go_upto_region 7 with fail
      obtain ⟨wq, hwq⟩ : ∃ wq, wq = wr.alloc (.cells #[.int .i64 y.x.k, .string y.x.tag, .string y.x.txt, .slice Aa y.x.at_.length ca, .int .i64 y.x.pa, .slice Ak y.x.ki.length ck] 105) := ⟨_, rfl⟩
      obtain ⟨gq, hgq⟩ : ∃ gq, gq = wr.heap.size := ⟨_, rfl⟩
      rw [← hwq, ← hgq]
      have hbq : Below wr.heap.size wr wq := by rw [hwq]; exact bl_alloc (Below.refl _ _) _
      have hnd : Bk wq gq 105 #[.int .i64 y.x.k, .string y.x.tag, .string y.x.txt, .slice Aa y.x.at_.length ca, .int .i64 y.x.pa, .slice Ak y.x.ki.length ck] := by rw [hwq]; exact bk_new' _ _ _ hgq
      have HND := Lib.hid hnd
      have HQ := Lib.hid (HH.out.below hbq)
      have HBQ : Hid (Below w.heap.size w wq) := bl_trans HB.out hbq
      have HKI : Hid (∀ n, Calls Tryd.prog 55 #[.pointer (some ⟨Rt, 0, none⟩), .int .i64 (i : Int)] (wq.drewN n) fun e w' => e = .returned (.int .i64 y.x.k) ∧ wq.drewN n = w') := fun n => c_Kind (HQ.out.t.drewN n) HT.out HTX.out
      have HTG : Hid (∀ n, Calls Tryd.prog 56 #[.pointer (some ⟨Rt, 0, none⟩), .int .i64 (i : Int)] (wq.drewN n) fun e w' => e = .returned (.string y.x.tag) ∧ wq.drewN n = w') := fun n => c_Tag (HQ.out.t.drewN n) HT.out HTX.out
      have HWD : Hid (∀ n, Calls Tryd.prog 57 #[.pointer (some ⟨Rt, 0, none⟩), .int .i64 (i : Int)] (wq.drewN n) fun e w' => e = .returned (.string y.x.txt) ∧ wq.drewN n = w') := fun n => c_Words (HQ.out.t.drewN n) HT.out HTX.out
      have HPA : Hid (∀ n, Calls Tryd.prog 44 #[.pointer (some ⟨Rt, 0, none⟩), .int .i64 (i : Int)] (wq.drewN n) fun e w' => e = .returned (.int .i64 y.x.pa) ∧ wq.drewN n = w') := fun n => c_Parent (HQ.out.t.drewN n) HT.out HTX.out
      have n0 := hnd.cell 0
      have n1 := hnd.cell 1
      have n2 := hnd.cell 2
      have n4 := hnd.cell 4
      clear hwq hgq hbq hnd a0 a1 a2 a3 a4 a5 r0 rl rL
      go_quiet ((first | (go_at_call 55; exact q_left (HKI.out _)) | (go_at_call 56; exact q_left (HTG.out _)) | (go_at_call 57; exact q_left (HWD.out _)) | (go_at_call 44; exact q_left (HPA.out _))))
      go_upto_region 9 with fail
      obtain ⟨w9, hw9⟩ : ∃ w9, w9 = wq.drewN nq := ⟨_, rfl⟩
      rw [← hw9]
      have HQ9 : Hid (Two Bt Rt T D F B R L cap τ M w9 ∧ Below w.heap.size w w9 ∧ NdAt w9 gq y) := by
        rw [hw9]
        refine ⟨HQ.out.below (bl_drewN (Below.refl _ _) _), bl_drewN HBQ.out _, ?_⟩
        have : NdAt wq gq y := by unfold NdAt; rw [HVA.out, HVK.out]; exact HND.out
        exact Bk.drewN this _
      clear hw9 n0 n1 n2 n4 HQ HBQ HND HKI HTG HWD HPA
      go_cut [7] (fun v7 wx => v7 = .bool true ∧ Hid (Two Bt Rt T D F B R L cap τ M wx ∧ Below w.heap.size w wx ∧ NdAt wx gq y))
      case first =>
        have HAT : Hid (∀ W', Below w9.heap.size w9 W' → Calls Tryd.prog 59 #[.pointer (some ⟨Rt, 0, none⟩), .int .i64 (i : Int)] W' (ClRetA W' y.x.at_.length (atc y.x.at_))) := fun W' hb => c_Attrs (HQ9.out.1.t.below hb) HT.out HTX.out (by omega)
        have HS : Hid (∀ W', Below w9.heap.size w9 W' → W'.cell? ⟨gq, 3, none⟩ = some (.slice Aa y.x.at_.length ca)) := fun W' hb => by
          have h3 : Bk W' gq 105 #[.int .i64 y.x.k, .string y.x.tag, .string y.x.txt, y.va, .int .i64 y.x.pa, y.vk] := Bk.below HQ9.out.2.2 hb (Bk.lt HQ9.out.2.2)
          rw [h3.cell 3]
          show some y.va = _
          rw [HVA.out]
        have HRA : Hid (∀ W', Below w9.heap.size w9 W' → RdS W' w9.heap.size 2 (.slice Aa y.x.at_.length ca) y.x.at_.length (atc y.x.at_)) := fun W' hb => by
          have := RdS.of_own (HQ9.out.1.r.at_ i y HY.out)
          rw [HVA.out] at this
          exact this.below hb
        go_region_held3 (fun w' => w'.cell? ⟨gq, 3, none⟩ = some (.slice Aa y.x.at_.length ca))
          (first | with_reducible exact HS.out _ (Below.refl _ _) | with_reducible exact HS.out _ (bl_drew (Below.refl _ _)) | with_reducible exact HS.out _ HBA.out | with_reducible exact HS.out _ HBS.out)
          (first
            | (go_at_call 59; (with_reducible refine (HAT.out _ (bl_drew (Below.refl _ _))).mono ?_); rintro e wa ⟨va, rfl, hoa, hba⟩; have HOA := Lib.hid hoa; have HBA : Hid (Below w9.heap.size w9 wa) := bl_trans (bl_drew (Below.refl _ _)) hba; clear hoa hba)
            | (go_at_call 58; (with_reducible refine (c_sameAttrs (lim := wa.heap.size) (RdS.of_own HOA.out) ((HRA.out wa HBA.out).mono HBA.out.size) (by omega) (Nat.le_refl _)).mono ?_); rintro e ws ⟨rfl, hbs⟩; have HBS : Hid (Below w9.heap.size w9 ws) := bl_trans HBA.out hbs; clear hbs))
        all_goals
          go_wp2_with fail
          go_meet
          exact ⟨rfl, HQ9.out.1.below HBS.out, bl_trans HQ9.out.2.1 HBS.out, Bk.below HQ9.out.2.2 HBS.out (Bk.lt HQ9.out.2.2)⟩
      case rest =>
        obtain ⟨rfl, h10⟩ := hcut
        obtain ⟨w10, rfl⟩ : ∃ w10 : World, w10 = wc := ⟨_, rfl⟩
        clear HQ9
        go_upto_region 10 with fail
        go_cut [8] (fun v8 wx => v8 = .bool true ∧ Hid (Two Bt Rt T D F B R L cap τ M wx ∧ Below w.heap.size w wx ∧ NdAt wx gq y))
        case first =>
          have HAT : Hid (∀ W', Below w10.heap.size w10 W' → Calls Tryd.prog 46 #[.pointer (some ⟨Rt, 0, none⟩), .int .i64 (i : Int)] W' (ClRetI W' y.x.ki.length (kic y.x.ki))) := fun W' hb => c_Kids (h10.out.1.t.below hb) HT.out HTX.out (by omega)
          have HS : Hid (∀ W', Below w10.heap.size w10 W' → W'.cell? ⟨gq, 5, none⟩ = some (.slice Ak y.x.ki.length ck)) := fun W' hb => by
            have h3 : Bk W' gq 105 #[.int .i64 y.x.k, .string y.x.tag, .string y.x.txt, y.va, .int .i64 y.x.pa, y.vk] := Bk.below h10.out.2.2 hb (Bk.lt h10.out.2.2)
            rw [h3.cell 5]
            show some y.vk = _
            rw [HVK.out]
          have HRA : Hid (∀ W', Below w10.heap.size w10 W' → RdS W' w10.heap.size 1 (.slice Ak y.x.ki.length ck) y.x.ki.length (kic y.x.ki)) := fun W' hb => by
            have := rdz_S h10.out.1.r HY.out
            rw [HVK.out] at this
            exact this.below hb
          go_region_held3 (fun w' => w'.cell? ⟨gq, 5, none⟩ = some (.slice Ak y.x.ki.length ck))
            (first | with_reducible exact HS.out _ (Below.refl _ _) | with_reducible exact HS.out _ (bl_drew (Below.refl _ _)) | with_reducible exact HS.out _ HBA.out | with_reducible exact HS.out _ HBS.out)
            (first
              | (go_at_call 46; (with_reducible refine (HAT.out _ (bl_drew (Below.refl _ _))).mono ?_); rintro e wa ⟨va, rfl, hoa, hba⟩; have HOA := Lib.hid hoa; have HBA : Hid (Below w10.heap.size w10 wa) := bl_trans (bl_drew (Below.refl _ _)) hba; clear hoa hba)
              | (go_at_call 60; (with_reducible refine (c_sameInts (lim := wa.heap.size) (RdS.of_own HOA.out) ((HRA.out wa HBA.out).mono HBA.out.size) (by omega) (Nat.le_refl _)).mono ?_); rintro e ws ⟨rfl, hbs⟩; have HBS : Hid (Below w10.heap.size w10 ws) := bl_trans HBA.out hbs; clear hbs))
          all_goals
            go_wp2_with fail
            go_meet
            exact ⟨rfl, h10.out.1.below HBS.out, bl_trans h10.out.2.1 HBS.out, Bk.below h10.out.2.2 HBS.out (Bk.lt h10.out.2.2)⟩
        case rest =>
          obtain ⟨rfl, h11⟩ := hcut
          obtain ⟨w11, rfl⟩ : ∃ w11 : World, w11 = wc := ⟨_, rfl⟩
          clear h10
          have hulen : ∀ f, (und T f i).length ≤ 400 := fun f => Nat.le_trans (und_len HW.out f i HIT.out) HT.out
          have HUL := Lib.hid hulen
          obtain ⟨f, HU1, HU2⟩ : ∃ f, Hid (∀ W', Below w11.heap.size w11 W' → Calls Tryd.prog 61 #[.pointer (some ⟨Rt, 0, none⟩), .int .i64 (i : Int)] W' (WyRet W' (und T f i))) ∧ Hid (∀ W', Below w11.heap.size w11 W' → Calls Tryd.prog 62 #[.pointer (some ⟨R, 0, none⟩), .int .i64 (i : Int)] W' (WyRet W' (und T f i))) := by
            obtain ⟨Dm, hD⟩ : ∃ Dm, ∀ k, k < T.length → d k ≤ Dm := ⟨((List.range T.length).map d).sum, fun k hk => by
              have : d k ∈ (List.range T.length).map d := List.mem_map_of_mem (List.mem_range.2 hk)
              exact le_sum _ _ this⟩
            exact ⟨Dm + 1, fun W' hb => c_UnderF HW.out hD HT.out (Dm + 1) W' i (h11.out.1.t.below hb) HIT.out (by omega), fun W' hb => c_rUnderF HW.out hD HT.out (Dm + 1) W' i ⟨L, cap, _, _, M, h11.out.1.r.below hb, h11.out.1.m⟩ HIT.out (by omega)⟩
          clear hulen
          go_wp2_with (first
            | (go_at_call 61; (with_reducible refine (HU1.out _ (Below.refl _ _)).mono ?_); rintro e wu ⟨vu, rfl, hou, hbu⟩; have HOU := Lib.hid hou; have HBU := Lib.hid hbu; clear hou hbu)
            | (go_at_call 62; (with_reducible refine (HU2.out _ HBU.out).mono ?_); rintro e wv ⟨vv, rfl, hov, hbv⟩; have HOV := Lib.hid hov; have HBV := Lib.hid hbv; clear hov hbv)
            | (go_at_call 60; (with_reducible refine (c_sameInts (lim := wv.heap.size) (((RdS.of_own HOU.out).below HBV.out).mono HBV.out.size) (RdS.of_own HOV.out) (by have := HUL.out f; omega) (Nat.le_refl _)).mono ?_); rintro e ws ⟨rfl, hbs⟩; have HBS : Hid (Below w11.heap.size w11 ws) := bl_trans (bl_trans HBU.out HBV.out) hbs; clear hbs))
          go_roundw
          case rel => exact ⟨i + 1, by go_num, by omega, bl_trans h11.out.2.1 HBS.out⟩
          case measure => simp [intOf]; omega
    · have hlt' : ¬ (i : Int) < (M.length : Int) := by omega
      go_wp2_with fail
      go_ret
      exact ⟨rfl, HB.out⟩
end Go.Proofs.YtimlmekgapdkiaaDoor
