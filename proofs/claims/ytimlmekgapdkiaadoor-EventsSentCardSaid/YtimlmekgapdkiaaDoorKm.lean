/- ears: the program sends -/
import Derived.Test.YtimlmekgapdkiaaDoorKk
import Derived.Test.YtimlmekgapdkiaaDoorKs
namespace Go.Proofs.YtimlmekgapdkiaaDoor
set_option linter.unusedVariables false
set_option linter.unusedSimpArgs false
open Go.RowKit Go.Cas

/-- what a sending leaves -/
def SdRet (tc tE te : TypeId) (B E : Nat) (vl vg : Value) (L : List EarV) (st : SnS) (w : World) (e : Ending) (w' : World) : Prop :=
  ∃ vc, e = .returned (.tuple #[vc, .bool st.free]) ∧ w'.ownsRow w.heap.size tc 3 vc st.C.length (st.C.flatMap callc) ∧ EA tE te B E vl vg L st.G w' ∧ Kept w w' (fun k => vg.ownBlock = some k)
def sn0 (G : List Bool) : SnS := ⟨G, [], true, true, false⟩
theorem c_Send_nil {w : World} {E : Nat} (z : Int) (nm : ByteArray) (r : Bool) : Calls Tryd.prog 30 #[.pointer (some ⟨E, 0, none⟩), .pointer none, .int .i64 z, .string nm, .bool r] w fun e w' => e = .returned (.tuple #[.slice none 0 0, .bool true]) ∧ w = w' := by
  go_enter Tryd.func30, Tryd.ntmps30
  go_wp2_with fail
  go_ret2
  exact ⟨rfl, rfl⟩
theorem c_SendNo {w : World} {B R E : Nat} {F : Nat → Prop} {T : List Nod} {D : List (Value × List Nod)} {z : Int} (h : TS B R T D F w) (hT : T.length ≤ 400) (hz : z < 0 ∨ (T.length : Int) ≤ z) (nm : ByteArray) (r : Bool) :
    Calls Tryd.prog 30 #[.pointer (some ⟨E, 0, none⟩), .pointer (some ⟨R, 0, none⟩), .int .i64 z, .string nm, .bool r] w fun e w' => e = .returned (.tuple #[.slice none 0 0, .bool true]) ∧ w = w' := by
  have HK := Lib.hid (c_KindNo h hT hz)
  clear h hz
  go_enter Tryd.func30, Tryd.ntmps30
  go_wp2_with (go_at_call 55; refine (HK.out).mono ?_; rintro e w' ⟨rfl, rfl⟩)
  go_ret2
  exact ⟨rfl, rfl⟩
set_option maxRecDepth 100000 in
set_option maxHeartbeats 16000000 in
theorem c_eSend {w : World} {B R BE E i : Nat} {F : Nat → Prop} {T : List Nod} {d : Nat → Nat} {D : List (Value × List Nod)} {l : List Nat} {vl vg : Value} {L : List EarV} {G : List Bool} (h : TS B R T D F w) (hW : WF T d) (hT : T.length ≤ 400) (hi : i < T.length) (hk0 : (ndA T i).k ≠ 0) (hl : Go.Cas.Way T i l) (hll : l.length ≤ 900)
    (hE : EA 116 64 BE E vl vg L G w) (hL : L.length ≤ 200) (nm : ByteArray) (rises : Bool) :
    Calls Tryd.prog 30 #[.pointer (some ⟨E, 0, none⟩), .pointer (some ⟨R, 0, none⟩), .int .i64 (i : Int), .string nm, .bool rises] w (SdRet 130 116 64 BE E vl vg L (sendP L nm l.dropLast i rises (sn0 G)) w) := by
  have H := Lib.hid h
  have HW := Lib.hid hW
  have HT := Lib.hid hT
  have HLL := Lib.hid hll
  have HWY := Lib.hid hl
  have HEA := Lib.hid hE
  have HC0 : Hid (Clm T l [] (i : Int)) := .inr ⟨i, l, rfl, hi, hl, by simp⟩
  have HPA : Hid (∀ (k : Nat) (W' : World), k < T.length → TS B R T D F W' → Calls Tryd.prog 44 #[.pointer (some ⟨R, 0, none⟩), .int .i64 (k : Int)] W' fun e w' => e = .returned (.int .i64 (ndA T k).pa) ∧ W' = w') := fun k W' hk ht => c_Parent ht HT.out (ndA_get hk)
  have HK0 := Lib.hid (c_Kind h hT (ndA_get hi))
  obtain ⟨xk, hxk⟩ : ∃ xk, xk = (ndA T i).k := ⟨_, rfl⟩
  rw [← hxk] at HK0 hk0
  have hkb : (xk == 0) = false := by rw [beq_eq_false_iff_ne]; exact hk0
  clear h hW hT hl hi hxk hE hll
  go_enter Tryd.func30, Tryd.ntmps30
  go_wp2_with (go_at_call 55; refine (HK0.out).mono ?_; rintro e w' ⟨rfl, rfl⟩)
  go_loopw [12, 13] (fun v c wr => ∃ (a : Int) (acc : List Nat), c = .int .i64 a ∧ acc.length ≤ l.length ∧ Hid (Clm T l acc a) ∧ Hid (wr.ownsRow w.heap.size 3 1 v acc.length (kic acc)) ∧ Hid (Below w.heap.size w wr)) (fun _ c _ => wm d (intOf c))
  case atStart => exact ⟨(i : Int), [], rfl, by simp, HC0.out, World.ownsRow_nil _ _ _ _, Below.refl _ _⟩
  case round =>
    obtain ⟨a, acc, rfl, hal, HR, HO, HB⟩ := hrel
    by_cases ha : a < 0
    · have ha2 : ¬ 0 ≤ a := by omega
      have HE : Hid (acc = l.reverse) := HR.out.done ha
      have hlr : l = l.dropLast ++ [i] := by
        have h1 := HWY.out.last
        rw [← h1]; exact (List.dropLast_concat_getLast HWY.out.ne).symm
      have HAC : Hid (acc = i :: l.dropLast.reverse) := by
        unfold Hid
        rw [HE.out]
        conv => lhs; rw [hlr]
        simp
      have hal2 : acc.length = l.dropLast.length + 1 := by rw [HAC.out]; simp
      obtain ⟨t, ht⟩ : ∃ t, t = l.dropLast := ⟨_, rfl⟩
      have HTD := Lib.hid ht
      rw [← ht] at HAC hal2
      rw [hal2] at HO
      obtain ⟨gw, cw, rfl, hgw1, hgw2⟩ := HO.out.form (by omega)
      have htl : t.length ≤ 900 := by have := HLL.out; omega
      clear ha hlr ht
      go_upto_region 11 with fail
      obtain ⟨Sb, hSb⟩ : ∃ Sb, Sb = wr.heap.size := ⟨_, rfl⟩
      obtain ⟨w1, hw1⟩ : ∃ w1, w1 = wr.alloc (.cells #[.pointer (some ⟨E, 0, none⟩), .string nm, .slice none 0 0, .bool true] 122) := ⟨_, rfl⟩
      rw [← hw1, ← hSb]
      have HBW : Hid (Below wr.heap.size wr w1) := by rw [hw1]; exact bl_alloc (Below.refl _ _) _
      have hEx : ∀ k, exE E vl vg k → k < w.heap.size := fun k hk => (HEA.out.fb hk).2
      have hws : w.heap.size ≤ wr.heap.size := HB.out.size
      have HSM : Hid (SM BE w.heap.size E Sb nm vl vg (.slice none 0 0) L (sn0 G) w1) := by
        refine ⟨(HEA.out.below HB.out).below HBW.out, ?_, World.ownsRow_nil _ _ _ _, fun e => ?_, fun k hk => ?_, by omega⟩
        · rw [hw1, hSb]; exact Bk.new _ _ _
        · have := hEx _ e; omega
        · cases hk
      have hcells : ∀ (j x : Nat), (i :: t.reverse)[j]? = some x → w1.cell? ⟨gw, j, none⟩ = some (.int .i64 (x : Int)) := fun j x hj => by
        rw [← HAC.out] at hj
        have := HO.out.cells (g := gw) rfl j _ (kic_get hj)
        rw [add_none, Nat.zero_add] at this
        exact (HBW.out.cell (p := ⟨gw, j, none⟩) hgw2).trans this
      have hcw : t.length + 1 ≤ cw := by
        obtain ⟨_, A', c', e, h2, _⟩ := RdS.of_own HO.out
        injection e with _ _ e
        omega
      have HAL := Lib.hid (c_along HSM.out hL rfl rfl (by show (0 : Nat) ≤ 100000000; omega) t i rises htl hcells (Nat.lt_of_lt_of_le hgw2 HBW.out.size) (fun e => by
        rcases e with e | e | e
        · have := hEx _ e; omega
        · omega
        · cases e) hcw)
      have HSB : Hid (w.heap.size ≤ Sb) := by unfold Hid; omega
      clear hw1 hSb hcells hEx
      go_upto_region 12 with (go_at_call 72; refine (HAL.out).mono ?_; rintro e w2 ⟨⟨u, rfl⟩, vc', hA⟩; have HA := Lib.hid hA; clear hA)
      obtain ⟨_, Ac, cc, rfl, _, _⟩ := RdS.of_own HA.out.sm.oc
      obtain ⟨st, hst⟩ : ∃ st, st = sendP L nm t i rises (sn0 G) := ⟨_, rfl⟩
      rw [← hst] at HA
      have HSTH := Lib.hid hst
      have s2 := HA.out.sm.sb.cell 2
      have s3 := HA.out.sm.sb.cell 3
      have ls := HA.out.sm.sb.lt
      clear hst
      go_quiet (fail)
      go_wp2_with fail
      go_ret2
      rw [← HTD.out, ← HSTH.out]
      refine ⟨_, rfl, HA.out.sm.oc, HA.out.sm.ea.below (bl_drewN (Below.refl _ _) _), ?_⟩
      have k1 : Kept w w1 (fun k => vg.ownBlock = some k) := (Kept.of_below HB.out _).then_ (Kept.of_below HBW.out (fun _ => False)) (fun _ _ e => e.elim)
      refine (k1.then_ HA.out.kept fun k hk e => ?_).drewN _
      rcases e with e | e | e
      · exact e
      · have := HSB.out; omega
      · cases e
    · obtain ⟨q, rfl, hq⟩ := HR.out.nat ha
      obtain ⟨_, hal2, hup, hms⟩ := Clm.up HW.out HR.out
      have HUP := Lib.hid hup
      have HMS := Lib.hid hms
      have ht := H.out.below HB.out
      have HTr := Lib.hid ht
      have hbz : w.heap.size ≤ wr.heap.size := HB.out.size
      have hb1 : acc.length ≤ 1000 := by have := HLL.out; omega
      have ha3 : 0 ≤ (q : Int) := by omega
      obtain ⟨qp, hqp⟩ : ∃ qp, qp = (ndA T q).pa := ⟨_, rfl⟩
      have HPQ : Hid (∀ W', TS B R T D F W' → Calls Tryd.prog 44 #[.pointer (some ⟨R, 0, none⟩), .int .i64 (q : Int)] W' fun e w' => e = .returned (.int .i64 qp) ∧ W' = w') := fun W' ht => by rw [hqp]; exact HPA.out q W' hq ht
      rw [← hqp] at HUP HMS
      have HT5 : Hid (∀ v5 w5, Pushed wr w.heap.size 3 1 u12 acc.length (kic acc) [.int .i64 (q : Int)] v5 w5 → TS B R T D F w5) := fun v5 w5 hp => HTr.out.kept (Kept.grown hp.grown (fun k => u12.ownBlock = some k) (fun k e => e)) (fun k e => H.out.new_ (own_lt HO.out e).1)
      clear ha hq hup hms ht hqp
      go_wp2_with (first
        | (at_builtin; refine wp_push rfl _ _ 75 rfl w.heap.size 3 Tryd.underlying75 inf_I rfl (by decide) wr u12 acc.length (kic acc) [.int .i64 (q : Int)] rfl rfl rfl HO.out rfl (by simp [Value.oneCell']) (by omega) (by omega) hbz ?_; intro v5 w5 hpush; have HPU := Lib.hid hpush; clear hpush)
        | (go_at_call 44; refine (HPQ.out _ (HT5.out _ _ HPU.out)).mono ?_; rintro e w' ⟨rfl, rfl⟩))
      go_roundw
      case rel =>
        refine ⟨qp, acc ++ [q], rfl, by simp; omega, HUP.out, ?_, HPU.out.below HB.out (Nat.le_refl _) hbz⟩
        rw [List.length_append, kic_app]
        exact HPU.out.own
      case measure => exact HMS.out
end Go.Proofs.YtimlmekgapdkiaaDoor
