/- over whom something points: at no node; the document's -/
import Derived.Test.YtimlmekgapdkiaaDoorFy
namespace Go.Proofs.YtimlmekgapdkiaaDoor
set_option linter.unusedVariables false
set_option linter.unusedSimpArgs false
open Go.RowKit Go.Cas

theorem c_KindNo {w : World} {B R : Nat} {F : Nat → Prop} {T : List Nod} {D : List (Value × List Nod)} {z : Int} (h : TS B R T D F w) (hT : T.length ≤ 400) (hz : z < 0 ∨ (T.length : Int) ≤ z) :
    Calls Tryd.prog 55 #[.pointer (some ⟨R, 0, none⟩), .int .i64 z] w fun e w' => e = .returned (.int .i64 0) ∧ w = w' := by
  obtain ⟨L, cap, uv, Z, M, h1, hM, _⟩ := h.ns
  have hlM : M.length = T.length := by rw [← hM]; simp
  have HI := Lib.hid (c_is_no h1 z (by omega) (by omega))
  clear h h1 hM hlM hz
  go_enter Tryd.func55, Tryd.ntmps55
  go_wp2_with (go_at_call 47; refine (HI.out).mono ?_; rintro e w' ⟨rfl, rfl⟩)
  go_ret
  exact ⟨rfl, rfl⟩
theorem c_HoverNo {w : World} {B R : Nat} {F : Nat → Prop} {T : List Nod} {D : List (Value × List Nod)} {z : Int} (h : TS B R T D F w) (hT : T.length ≤ 400) (hz : z < 0 ∨ (T.length : Int) ≤ z) :
    Calls Tryd.prog 38 #[.pointer (some ⟨R, 0, none⟩), .int .i64 z] w (WyRet w []) := by
  have HK := Lib.hid (c_KindNo h hT hz)
  clear h hz
  go_enter Tryd.func38, Tryd.ntmps38
  go_wp2_with (go_at_call 55; refine (HK.out).mono ?_; rintro e w' ⟨rfl, rfl⟩)
  go_ret
  exact ⟨_, rfl, World.ownsRow_nil _ _ _ _, Below.refl _ _⟩
theorem c_rHoverNo {w : World} {B R L cap : Nat} {τ : Nat → Nat} {M : List NV} {T : List Nod} {z : Int} (h : RT B R L cap 0 (.slice none 0 0) [] τ M w) (hM : M.map NV.x = T) (hT : T.length ≤ 400) (hz : z < 0 ∨ (T.length : Int) ≤ z) :
    Calls Tryd.prog 39 #[rAg L M.length cap, .int .i64 z] w (WyRet w []) := by
  have hmv := h.move
  obtain ⟨w0, hw0⟩ : ∃ w0, w0 = w.alloc (.cells #[.slice (some ⟨L, 0, none⟩) M.length cap, .slice none 0 0] 36) := ⟨_, rfl⟩
  rw [← hw0] at hmv
  have HH := Lib.hid (c_rHasNo (n := 0) ⟨L, cap, _, _, M, hmv, hM⟩ z hz hT)
  have hb0 : Below w.heap.size w w0 := by rw [hw0]; exact bl_alloc (Below.refl _ _) _
  have HB0 := Lib.hid hb0
  have HW0 := Lib.hid hw0
  obtain ⟨m0, hm0⟩ : ∃ m0, m0 = M.length := ⟨_, rfl⟩
  rw [← hm0] at HW0 ⊢
  clear h hM hT hz hmv hw0 hb0 hm0
  go_enter Tryd.func39, Tryd.ntmps39
  go_upto_region 1 with fail
  rw [← HW0.out]
  go_wp2_with (go_at_call 73; refine (HH.out).mono ?_; rintro e w' ⟨rfl, rfl⟩)
  go_ret
  exact ⟨_, rfl, World.ownsRow_nil _ _ _ _, HB0.out⟩
set_option maxRecDepth 100000 in
set_option maxHeartbeats 8000000 in
theorem c_rHover {w : World} {B R L cap i : Nat} {τ : Nat → Nat} {M : List NV} {T : List Nod} {d : Nat → Nat} {l : List Nat} (h : RT B R L cap 0 (.slice none 0 0) [] τ M w) (hM : M.map NV.x = T) (hW : WF T d) (hT : T.length ≤ 400) (hi : i < T.length) (hl : Go.Cas.Way T i l) (hll : l.length ≤ 1000) :
    Calls Tryd.prog 39 #[rAg L M.length cap, .int .i64 (i : Int)] w (WyRet w (if (ndA T i).k = 2 ∨ (ndA T i).k = 3 then hovL T l.reverse else [])) := by
  have hmv := h.move
  obtain ⟨w0, hw0⟩ : ∃ w0, w0 = w.alloc (.cells #[.slice (some ⟨L, 0, none⟩) M.length cap, .slice none 0 0] 36) := ⟨_, rfl⟩
  rw [← hw0] at hmv
  have HH := Lib.hid (c_rHas (n := 0) ⟨L, cap, _, _, M, hmv, hM⟩ i hi hT)
  have hb0 : Below w.heap.size w w0 := by rw [hw0]; exact bl_alloc (Below.refl _ _) _
  have HB0 := Lib.hid hb0
  have HW0 := Lib.hid hw0
  have HW := Lib.hid hW
  have HLL := Lib.hid hll
  have HC0 : Hid (Clm T l [] (i : Int)) := .inr ⟨i, l, rfl, hi, hl, by simp⟩
  obtain ⟨bx, hbx⟩ : ∃ bx, bx = w.heap.size := ⟨_, rfl⟩
  obtain ⟨m0, hm0⟩ : ∃ m0, m0 = M.length := ⟨_, rfl⟩
  have hlM : M.length = T.length := by rw [← hM]; simp
  have HF : Hid (∀ W', Below w0.heap.size w0 W' → W'.cell? ⟨bx, 0, none⟩ = some (.slice (some ⟨L, 0, none⟩) m0 cap) ∧ bx < W'.heap.size ∧ L < W'.heap.size ∧ ∀ k, k < T.length → W'.cell? ⟨L, k * 6, none⟩ = some (.int .i64 (ndA T k).k) ∧ W'.cell? ⟨L, k * 6 + 4, none⟩ = some (.int .i64 (ndA T k).pa)) := fun W' hb => by
    have hr := hmv.below hb
    rw [hbx, hm0]
    refine ⟨hr.heads.1, hr.ltR, hr.ltL, fun k hk => ?_⟩
    obtain ⟨y, hy, hyx⟩ := nv_get hM (ndA_get hk)
    rw [← hyx]
    exact ⟨(hr.cell hy).1.1, (hr.cell hy).2.2.1⟩
  have HMT : Hid (m0 = T.length) := by unfold Hid; rw [hm0, hlM]
  rw [← hm0] at HW0 ⊢
  have hbs : bx = w.heap.size := hbx
  have hmi : (i : Int) < (m0 : Int) := by have := HMT.out; omega
  have hm4 : m0 ≤ 400 := by have := HMT.out; omega
  obtain ⟨f0, f1, f2, f3⟩ := HF.out w0 (Below.refl _ _)
  obtain ⟨f4, _⟩ := f3 i hi
  obtain ⟨xk, hxk⟩ : ∃ xk, xk = (ndA T i).k := ⟨_, rfl⟩
  rw [← hxk] at f4 ⊢
  have HBS := Lib.hid hbs
  have HLW := Lib.hid f2
  clear h hM hW hT hi hl hmv hw0 hb0 hxk hbx hm0 hlM f3 hbs
  rw [← HBS.out] at HH
  by_cases hk : xk = 2 ∨ xk = 3
  case neg =>
    have k2 : ¬ xk = 2 := fun e => hk (.inl e)
    have k3 : ¬ xk = 3 := fun e => hk (.inr e)
    have b2 : (xk != 2) = true := by rw [bne_iff_ne]; exact k2
    have b3 : (xk != 3) = true := by rw [bne_iff_ne]; exact k3
    rw [if_neg hk]
    clear hk
    go_enter Tryd.func39, Tryd.ntmps39
    go_upto_region 1 with fail
    rw [← HW0.out, ← HBS.out]
    go_wp2_with (go_at_call 73; refine (HH.out).mono ?_; rintro e w' ⟨rfl, rfl⟩)
    go_ret
    exact ⟨_, rfl, World.ownsRow_nil _ _ _ _, HB0.out⟩
  case pos =>
    rw [if_pos hk]
    go_enter Tryd.func39, Tryd.ntmps39
    go_upto_region 1 with fail
    rw [← HW0.out, ← HBS.out]
    go_upto_region 2 with (go_at_call 73; refine (HH.out).mono ?_; rintro e w' ⟨rfl, rfl⟩)
    go_cut [28] (fun v28 wx => v28 = .bool false ∧ wx = w0)
    case first =>
      rcases hk with rfl | rfl
      · go_wp2_with fail
        go_meet
        exact ⟨rfl, rfl⟩
      · go_wp2_with fail
        go_meet
        exact ⟨rfl, rfl⟩
    case rest =>
      obtain ⟨rfl, hwc⟩ := hcut
      obtain rfl : w0 = wc := hwc.symm
      clear hk HH f4
      go_wp2_with fail
      go_loopw [1, 6] (fun c v wr => ∃ (a : Int) (acc : List Nat), c = .int .i64 a ∧ acc.length ≤ l.length ∧ Hid (Clm T l acc a) ∧ Hid (wr.ownsRow w0.heap.size 3 1 v (hovL T acc).length (kic (hovL T acc))) ∧ Hid (Below w0.heap.size w0 wr)) (fun c _ _ => wm d (intOf c))
      case atStart => exact ⟨(i : Int), [], rfl, by simp, HC0.out, World.ownsRow_nil _ _ _ _, Below.refl _ _⟩
      case round =>
        obtain ⟨a, acc, rfl, hal, HR, HO, HB⟩ := hrel
        by_cases ha : a < 0
        · have ha2 : ¬ 0 ≤ a := by omega
          have HE : Hid (acc = l.reverse) := HR.out.done ha
          have HL0 : Hid (w.heap.size ≤ w0.heap.size) := HB0.out.size
          clear ha
          go_wp2_with fail
          go_ret
          exact ⟨_, rfl, by rw [← HE.out]; exact own_mono HO.out HL0.out, bl_trans HB0.out HB.out⟩
        · obtain ⟨q, rfl, hq⟩ := HR.out.nat ha
          obtain ⟨_, hal2, hup, hms⟩ := Clm.up HW.out HR.out
          have HUP := Lib.hid hup
          have HMS := Lib.hid hms
          have HSN := Lib.hid (hovL_snoc T acc q)
          have HVL := Lib.hid (hovL_len T acc)
          obtain ⟨a0, a1, a2, a3⟩ := HF.out wr HB.out
          obtain ⟨b0, b4⟩ := a3 q hq
          clear a3
          have hbz : w0.heap.size ≤ wr.heap.size := HB.out.size
          have hb1 : (hovL T acc).length ≤ 1000 := by have := HLL.out; have := HVL.out; omega
          have ha3 : 0 ≤ (q : Int) := by omega
          have hqm : (q : Int) < (m0 : Int) := by have := HMT.out; omega
          obtain ⟨A, hA⟩ : ∃ A, A = hovL T acc := ⟨_, rfl⟩
          rw [← hA] at HO HSN hb1
          have HF5 : Hid (∀ W', Below wr.heap.size wr W' → W'.cell? ⟨bx, 0, none⟩ = some (.slice (some ⟨L, 0, none⟩) m0 cap) ∧ bx < W'.heap.size ∧ L < W'.heap.size ∧ W'.cell? ⟨L, q * 6, none⟩ = some (.int .i64 (ndA T q).k) ∧ W'.cell? ⟨L, q * 6 + 4, none⟩ = some (.int .i64 (ndA T q).pa)) := fun W' hb => by
            obtain ⟨g0, g1, g2, g3⟩ := HF.out W' (bl_trans HB.out hb)
            exact ⟨g0, g1, g2, g3 q hq⟩
          obtain ⟨qk, hqk⟩ : ∃ qk, qk = (ndA T q).k := ⟨_, rfl⟩
          rw [← hqk] at HSN b0 HF5
          obtain ⟨qp, hqp⟩ : ∃ qp, qp = (ndA T q).pa := ⟨_, rfl⟩
          rw [← hqp] at HUP HMS b4 HF5
          clear ha hq hup hms hA hqk hqp HVL f0 f1 f2
          by_cases he : qk = 2
          · have HS2 : Hid (hovL T (acc ++ [q]) = A ++ [q]) := by unfold Hid; rw [HSN.out, if_pos he]
            have he2 : (qk == 2) = true := by rw [beq_iff_eq]; exact he
            have HPB : Hid (∀ v5 w5, Pushed wr w0.heap.size 3 1 u6 A.length (kic A) [.int .i64 (q : Int)] v5 w5 → w5.cell? ⟨bx, 0, none⟩ = some (.slice (some ⟨L, 0, none⟩) m0 cap) ∧ bx < w5.heap.size ∧ L < w5.heap.size ∧ w5.cell? ⟨L, q * 6 + 4, none⟩ = some (.int .i64 qp)) := fun v5 w5 hp => by
              obtain ⟨z0, z1, z2, z3⟩ := HF.out w5 (hp.below HB.out (Nat.le_refl _) hbz)
              refine ⟨z0, z1, z2, ?_⟩
              have z4 := hp.cellR (k := L) a2 (fun e => by have := (own_lt HO.out e).1; have := HLW.out; omega) (q * 6 + 4)
              rw [z4.1]; exact b4
            go_upto_region 8 with (at_builtin; refine wp_push rfl _ _ 75 rfl w0.heap.size 3 Tryd.underlying75 inf_I rfl (by decide) wr u6 A.length (kic A) [.int .i64 (q : Int)] rfl rfl rfl HO.out rfl (by simp [Value.oneCell']) (by omega) (by omega) hbz ?_; intro v5 w5 hpush; have HPU := Lib.hid hpush; clear hpush)
            obtain ⟨z0, z1, z2, z3⟩ := HPB.out _ _ HPU.out
            clear a0 a1 a2 b0 b4
            go_wp2_with fail
            go_roundw
            case rel =>
              refine ⟨qp, acc ++ [q], rfl, by simp; omega, HUP.out, ?_, HPU.out.below HB.out (Nat.le_refl _) hbz⟩
              rw [HS2.out, List.length_append, kic_app]
              exact HPU.out.own
            case measure => exact HMS.out
          · have HS2 : Hid (hovL T (acc ++ [q]) = A) := by unfold Hid; rw [HSN.out, if_neg he]; simp
            have he2 : (qk == 2) = false := by rw [beq_eq_false_iff_ne]; exact he
            go_wp2_with fail
            go_roundw
            case rel =>
              refine ⟨qp, acc ++ [q], rfl, by simp; omega, HUP.out, ?_, HB.out⟩
              rw [HS2.out]
              exact HO.out
            case measure => exact HMS.out
end Go.Proofs.YtimlmekgapdkiaaDoor
