/- the tree: the way down to a node -/
import Derived.Test.YtimlmekgapdkiaaDoorTmo
namespace Go.Proofs.YtimlmekgapdkiaaDoor
set_option linter.unusedVariables false
set_option linter.unusedSimpArgs false
open Go.RowKit Go.Cas

theorem kic_snoc (l : List Nat) (x : Nat) : kic (l ++ [x]) = kic l ++ [.int .i64 (x : Int)] := by simp [kic]
def WyRet (w : World) (l : List Nat) (e : Ending) (w' : World) : Prop := ∃ v, e = .returned v ∧ w'.ownsRow w.heap.size 3 1 v l.length (kic l) ∧ Below w.heap.size w w'
set_option maxRecDepth 100000 in
set_option maxHeartbeats 8000000 in
theorem c_way {w : World} {B R i : Nat} {F : Nat → Prop} {T : List Nod} {d : Nat → Nat} {D : List (Value × List Nod)} {l : List Nat} (h : TS B R T D F w) (hW : WF T d) (hT : T.length ≤ 400) (hi : i < T.length) (hl : Go.Cas.Way T i l) (hll : l.length ≤ 1000) :
    Calls Tryd.prog 48 #[.pointer (some ⟨R, 0, none⟩), .int .i64 (i : Int)] w (WyRet w l) := by
  have H := Lib.hid h
  have HW := Lib.hid hW
  have HT := Lib.hid hT
  have HL := Lib.hid hl
  have HLL := Lib.hid hll
  have HI := Lib.hid hi
  clear h hW hT hl hi
  go_enter Tryd.func48, Tryd.ntmps48
  go_wp2_with fail
  go_loopw [1, 5] (fun c v wr => ∃ (a : Int) (acc : List Nat), c = .int .i64 a ∧ acc.length ≤ l.length ∧ Hid ((a < 0 ∧ l = acc.reverse) ∨ (∃ (q : Nat) (r : List Nat), a = (q : Int) ∧ q < T.length ∧ Go.Cas.Way T q r ∧ l = r ++ acc.reverse)) ∧ Hid (wr.ownsRow w.heap.size 3 1 v acc.length (kic acc)) ∧ Hid (Below w.heap.size w wr)) (fun c _ _ => wm d (intOf c))
  case atStart => exact ⟨(i : Int), [], rfl, by simp, .inr ⟨i, l, rfl, HI.out, HL.out, by simp⟩, World.ownsRow_nil _ _ _ _, Below.refl _ _⟩
  case round =>
    obtain ⟨a, acc, rfl, hal, HR, HO, HB⟩ := hrel
    by_cases ha : a < 0
    · have ha2 : ¬ 0 ≤ a := by omega
      have hle : Hid (l = acc.reverse) := by
        rcases HR.out with ⟨_, h⟩ | ⟨q, r, e, _⟩
        · exact h
        · omega
      have hne : acc ≠ [] := fun e => by
        have := HL.out.ne
        rw [hle.out, e] at this; exact this rfl
      have hpos : 0 < acc.length := List.length_pos_iff.2 hne
      obtain ⟨gg, cg, e, hgg, hgl⟩ := HO.out.form hpos
      subst e
      have HRV := Lib.hid (c_Reverse HO.out (by have := HLL.out; omega) hpos)
      have HGG := Lib.hid hgg
      clear ha hne hpos hgl
      go_wp2_with ((go_at_call 77; refine (HRV.out).mono ?_; rintro e w' ⟨⟨u, rfl⟩, ho, hk⟩; have HO2 := Lib.hid ho; have HK2 := Lib.hid hk; clear ho hk))
      go_ret
      have ho2 := HO2.out
      rw [List.length_reverse] at ho2
      refine ⟨_, rfl, ?_, HB.out.trans (HK2.out.below (fun k hk => ⟨Nat.lt_of_lt_of_le hk HB.out.size, fun e => by have := (own_lt HO.out e).1; omega⟩))⟩
      rw [hle.out, List.length_reverse]
      exact ho2
    · obtain ⟨q, r, rfl, hq, hwq, hlr⟩ : ∃ (q : Nat) (r : List Nat), a = (q : Int) ∧ q < T.length ∧ Go.Cas.Way T q r ∧ l = r ++ acc.reverse := by
        rcases HR.out with ⟨e, _⟩ | h
        · omega
        · exact h
      have hrl : 0 < r.length := List.length_pos_iff.2 hwq.ne
      have hlen : acc.length + 1 ≤ l.length := by rw [hlr]; simp; omega
      have HQ := Lib.hid hq
      have HWQ := Lib.hid hwq
      have HLR := Lib.hid hlr
      have hbz : w.heap.size ≤ wr.heap.size := HB.out.size
      have hb1000 : acc.length ≤ 1000 := by have := HLL.out; omega
      have ha3 : 0 ≤ (q : Int) := by omega
      have h5T := fun (v5 : Value) (w5 : World) (hp : Pushed wr w.heap.size 3 1 u5 acc.length (kic acc) [.int .i64 (q : Int)] v5 w5) => (H.out.below HB.out).kept (Kept.grown hp.grown (fun k => u5.ownBlock = some k) (fun k e => e)) (fun k e => H.out.new_ (own_lt HO.out e).1)
      have H5T := Lib.hid h5T
      clear ha hq hwq hlr hrl h5T
      go_upto_region 3 with (at_builtin; refine wp_push rfl _ _ 75 rfl w.heap.size 3 Tryd.underlying75 inf_I rfl (by decide) wr u5 acc.length (kic acc) [.int .i64 (q : Int)] rfl rfl rfl HO.out rfl (by simp [Value.oneCell']) (by omega) (by omega) hbz ?_; intro v5 w5 hpush; have HPU := Lib.hid hpush; clear hpush)
      have ht5 := H5T.out _ _ HPU.out
      obtain ⟨L, cap, uv, Z, M, h1, hM, _⟩ := ht5.ns
      have hlM : M.length = T.length := by rw [← hM]; simp
      obtain ⟨y, hy⟩ : ∃ y, M[q]? = some y := ⟨_, List.getElem?_eq_getElem (by have := HQ.out; omega)⟩
      have hyx : ndA T q = y.x := ndA_eq (by rw [← hM, List.getElem?_map, hy]; rfl)
      have HYX := Lib.hid hyx
      have hqi : (q : Int) < (M.length : Int) := by have := (List.getElem?_eq_some_iff.1 hy).1; omega
      have hl4 : M.length ≤ 400 := by have := HT.out; omega
      obtain ⟨pa, hpa⟩ : ∃ pa, pa = y.x.pa := ⟨_, rfl⟩
      have HPA := Lib.hid hpa
      obtain ⟨g0, _⟩ := h1.heads
      have hr := h1.ltR
      have hrL := h1.ltL
      obtain ⟨_, _, a4, _⟩ := h1.cell hy
      rw [← hpa] at a4
      clear ht5 h1 hM hlM hy hyx hpa
      go_wp2_with fail
      go_roundw
      case rel =>
        refine ⟨pa, acc ++ [q], rfl, by simp; omega, ?_, ?_, HPU.out.below HB.out (Nat.le_refl _) hbz⟩
        · have hwq := HWQ.out
          have hlr := HLR.out
          cases hwq with
          | root h =>
            refine .inl ⟨by rw [HPA.out, ← HYX.out]; exact h, ?_⟩
            rw [hlr]; simp
          | @step _ p r' e hw =>
            have hpT : p < T.length := by
              rcases HW.out.pa q HQ.out with e2 | ⟨_, e2⟩
              · omega
              · rw [e] at e2; exact e2
            refine .inr ⟨p, r', by rw [HPA.out, ← HYX.out, e], hpT, hw, ?_⟩
            rw [hlr]; simp
        · rw [kic_snoc, List.length_append]
          exact HPU.out.own
      case measure =>
        show wm d pa < wm d (q : Int)
        unfold wm
        rw [if_neg (by omega : ¬ (q : Int) < 0)]
        by_cases h0 : pa < 0
        · rw [if_pos h0]; omega
        · rw [if_neg h0]
          have := HW.out.ac q HQ.out (by rw [HYX.out, ← HPA.out]; omega)
          rw [HYX.out, ← HPA.out] at this
          have e : ((q : Int)).toNat = q := rfl
          rw [e]; omega
end Go.Proofs.YtimlmekgapdkiaaDoor
