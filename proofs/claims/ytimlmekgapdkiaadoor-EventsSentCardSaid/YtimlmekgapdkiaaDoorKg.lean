/- a range over slices.Backward -/
import Derived.Test.YtimlmekgapdkiaaDoorKf
import Derived.RangeFuncNested
import Derived.RangeFuncBound
import Derived.RangeFuncCalls
import Derived.RangeFuncLeaves
import Derived.Shelf.Abstract
import Derived.Shelf.RegionOpen
import Derived.OwnWalkIn
import Derived.TacticsInMore
import Derived.LoopNIn
import Derived.LoopIn
namespace Go.Proofs.YtimlmekgapdkiaaDoor
set_option linter.unusedVariables false
set_option linter.unusedSimpArgs false
open Go.RowKit Go.Cas Go.Shelf
attribute [local go_sem] Oper.semAt_some

def KpZ (Z : Nat → Prop) (W W' : World) : Prop := ∀ k, Z k → W'.heap[k]? = W.heap[k]?
/-- what slices.Backward hands out: the index, the value -/
def bwF (zs : List Nat) (j : Nat) : Nat × Nat := (zs.length - 1 - j, zs[zs.length - 1 - j]?.getD 0)
def bwU (zs : List Nat) (k : Nat) : List (Nat × Nat) := (List.range k).map (bwF zs)
theorem bwU_succ (zs : List Nat) (k : Nat) : bwU zs (k + 1) = bwU zs k ++ [bwF zs k] := by simp [bwU, List.range_succ]
theorem bwU_length (zs : List Nat) (k : Nat) : (bwU zs k).length = k := by simp [bwU]
theorem bwU_snd (zs : List Nat) : (bwU zs zs.length).map Prod.snd = zs.reverse := by
  apply List.ext_getElem
  · simp [bwU]
  · intro i h1 h2
    simp [bwU, bwF] at h1 ⊢
    rw [List.getElem?_eq_getElem (by omega)]
    rfl
set_option maxRecDepth 100000 in
set_option maxHeartbeats 8000000 in
theorem bw1_in (F : Fence) (n : Nat) (hf : F.fn 118) (hro : F.round = none) (hn : 1 ≤ n) (l Bs b off cap : Nat) (zs : List Nat) (hlen : zs.length ≤ 1000) (Z : Nat → Prop) (hZb : Z b) (hZs : Z Bs) (J Jx : List (Nat × Nat) → World → Prop)
    (hY : ∀ pre x W, J pre W → pre.length < zs.length → YieldAt F (n - 1) Tryd.prog l #[.int .i64 (x.1 : Int), .int .i64 (x.2 : Int)] W fun e W' =>
      (e = .returned (.bool true) ∧ J (pre ++ [x]) W' ∧ KpZ Z W W') ∨ (e = .returned (.bool false) ∧ Jx (pre ++ [x]) W'))
    (W : World) (hBs : W.cell? ⟨Bs, 0, none⟩ = some (.slice (some ⟨b, off, none⟩) zs.length cap)) (hc : ∀ j, j < zs.length → W.cell? ⟨b, off + j, none⟩ = some (.int .i64 ((zs[j]?.getD 0 : Nat) : Int))) (h0 : J [] W) :
    CallsIn F n Tryd.prog 118 #[.func (.yield l) #[] #[], .pointer (some ⟨Bs, 0, none⟩)] W fun e W' => (∃ v, e = .returned v) ∧
      ((∃ ys, ys = bwU zs zs.length ∧ J ys W') ∨ (∃ pre, (∃ k, k ≤ zs.length ∧ pre = bwU zs k) ∧ Jx pre W')) := by
  obtain ⟨len, hl⟩ : ∃ len, len = zs.length := ⟨_, rfl⟩
  have HL := Lib.hid hl
  rw [← hl] at hBs hc hlen hY ⊢
  refine callsIn_of_wp Tryd.func118 rfl hf ?_ hro
  simp only [Tryd.ntmps118, List.size_toArray, List.length_cons, List.length_nil, Nat.reduceAdd, Nat.reduceSub, Array.replicate_succ, Array.replicate_zero, List.push_toArray, List.append_toArray, List.nil_append, List.cons_append]
  clear hl
  gi_wp2
  gi_loopw [3] (fun i wr => ∃ k : Nat, k ≤ len ∧ i = .int .i64 ((len : Int) - 1 - k) ∧ J (bwU zs k) wr ∧ KpZ Z W wr) (fun i _ => (intOf i + 1).toNat)
  case atStart => exact ⟨0, Nat.zero_le _, by simp, h0, fun _ _ => rfl⟩
  case round =>
    obtain ⟨k, hk, rfl, hJs, hnx⟩ := hrel
    have hbs2 : wr.cell? ⟨Bs, 0, none⟩ = some (.slice (some ⟨b, off, none⟩) len cap) := (World.cell?_of_block (a := ⟨Bs, 0, none⟩) (hnx Bs hZs)).trans hBs
    by_cases hlt : k < len
    · obtain ⟨m, hm⟩ : ∃ m, m = len - 1 - k := ⟨_, rfl⟩
      have hmi : (len : Int) - 1 - (k : Int) = (m : Int) := by omega
      rw [hmi]
      have hm0 : 0 ≤ (m : Int) := by omega
      have hml : m < len := by omega
      have hml2 : (m : Int) < (len : Int) := by omega
      have hcm : wr.cell? ⟨b, off + m, none⟩ = some (.int .i64 ((zs[m]?.getD 0 : Nat) : Int)) := (World.cell?_of_block (a := ⟨b, off + m, none⟩) (hnx b hZb)).trans (hc m hml)
      obtain ⟨fn, tmps, assign, body, hy, hR⟩ := hY _ (m, zs[m]?.getD 0) wr hJs (by rw [bwU_length]; exact hlt)
      dsimp only at hy
      have HM := Lib.hid hm
      clear hm hmi
      gi_wp2
      refine hR.mono ?_
      rintro e W3 (⟨rfl, hJ3, hk3⟩ | ⟨rfl, hJx3⟩)
      · gi_wp2
        go_roundw
        case rel =>
          refine ⟨k + 1, by omega, ?_, ?_, fun j hj => (hk3 j hj).trans (hnx j hj)⟩
          · have := HM.out; go_num
          · rw [bwU_succ, bwF, ← HL.out, ← HM.out]; exact hJ3
        case measure => simp [intOf]
      · gi_wp2
        refine bodyPost_ret (results_none rfl _ _ _) rfl ?_
        exact ⟨⟨_, rfl⟩, .inr ⟨_, ⟨k + 1, by omega, by rw [bwU_succ, bwF, ← HL.out, ← HM.out]⟩, hJx3⟩⟩
    · obtain rfl : k = len := by omega
      have hneg : ¬ 0 ≤ (k : Int) - 1 - (k : Int) := by omega
      gi_wp2
      go_end0
      exact ⟨⟨_, rfl⟩, .inl hJs⟩
set_option maxHeartbeats 1000000 in
theorem bw_in (F : Fence) (n : Nat) (hf : F.fn 100) (hro : F.round = none) (a : Option Addr) (len cap : Nat) (w : World) :
    CallsIn F n Tryd.prog 100 #[.slice a len cap] w fun e w' => e = .returned (.func (.func 118) #[] #[.pointer (some ⟨w.heap.size, 0, none⟩)]) ∧ w' = w.alloc (.cells #[.slice a len cap] 75) := by
  refine callsIn_of_wp Tryd.func100 rfl hf ?_ hro
  simp only [Tryd.ntmps100, List.size_toArray, List.length_cons, List.length_nil, Nat.reduceAdd, Nat.reduceSub, Array.replicate_succ, Array.replicate_zero, List.push_toArray, List.append_toArray, List.nil_append, List.cons_append]
  gi_wp2
  go_ret
  exact ⟨rfl, rfl⟩
theorem bw_stops (F : Fence) (n : Nat) (hf : F.fn 118) (hro : F.round = none) (hn : 1 ≤ n) (Bs b off cap : Nat) (zs : List Nat) (hlen : zs.length ≤ 1000) (Z : Nat → Prop) (hZb : Z b) (hZs : Z Bs) (w : World) (hBs : Bs < w.heap.size) (hb : b < w.heap.size)
    (hc : w.cell? ⟨Bs, 0, none⟩ = some (.slice (some ⟨b, off, none⟩) zs.length cap)) (hcs : ∀ j, j < zs.length → w.cell? ⟨b, off + j, none⟩ = some (.int .i64 ((zs[j]?.getD 0 : Nat) : Int))) :
    SeqStopsK F n Tryd.prog 118 #[.pointer (some ⟨Bs, 0, none⟩)] (fun x : Nat × Nat => #[Value.int .i64 (x.1 : Int), Value.int .i64 (x.2 : Int)]) (KpZ Z) (fun ys => ys = bwU zs zs.length) (fun pre => ∃ k, k ≤ zs.length ∧ pre = bwU zs k) zs.length w := fun l J Jx W hW _ _ hY h0 =>
  bw1_in F n hf hro hn l Bs b off cap zs hlen Z hZb hZs J Jx hY W ((hW.cell (p := ⟨Bs, 0, none⟩) hBs).trans hc) (fun j hj => (hW.cell (p := ⟨b, off + j, none⟩) hb).trans (hcs j hj)) h0
end Go.Proofs.YtimlmekgapdkiaaDoor
