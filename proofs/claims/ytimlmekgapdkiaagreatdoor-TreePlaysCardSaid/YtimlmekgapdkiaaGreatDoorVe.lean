/- the tree: what undoes a cut of a node that lies somewhere -/
import Derived.Test.YtimlmekgapdkiaaGreatDoorVd
namespace Go.Proofs.YtimlmekgapdkiaaGreatDoor
set_option linter.unusedVariables false
set_option linter.unusedSimpArgs false
open Go.RowKit Go.Cas

set_option maxRecDepth 100000 in
set_option maxHeartbeats 8000000 in
theorem c_cut2 {w : World} {B R L cap b0 b1 b2 b3 i q : Nat} {uv v0 : Value} {l0 : List Nat} {Z : Nat → Prop} {M : List NV} {y z : NV} (h : NS B R L cap uv Z M w) (hy : M[q]? = some y) (hz : M[i]? = some z) (hqi : q ≠ i) (hM : M.length ≤ 400)
    (hb0 : Bk w b0 23 #[.pointer (some ⟨R, 0, none⟩)]) (hb1 : Bk w b1 3 #[.int .i64 (i : Int)]) (hb2 : Bk w b2 3 #[.int .i64 (q : Int)]) (hb3 : Bk w b3 38 #[v0]) (hv : RdZ w Z 1 v0 l0.length (kic l0)) :
    Calls Tryz.prog 73 #[.pointer (some ⟨b3, 0, none⟩), .pointer (some ⟨b2, 0, none⟩), .pointer (some ⟨b0, 0, none⟩), .pointer (some ⟨b1, 0, none⟩)] w fun e w3 => (∃ u, e = .returned u) ∧ NS B R L cap uv Z ((M.set q (setKi y v0 l0)).set i (setPa z (q : Int))) w3 ∧ Kept w w3 (fun k => k = R ∨ k = L) := by
  have h2 := h
  have H := Lib.hid h2
  obtain ⟨g0, g1, g2, g3⟩ := h2.heads
  have hr := h2.ltR
  have hrL := h2.ltL
  have e0 : w.cell? ⟨b0, 0, none⟩ = some (.pointer (some ⟨R, 0, none⟩)) := hb0.cell 0
  have e1 : w.cell? ⟨b1, 0, none⟩ = some (.int .i64 (i : Int)) := hb1.cell 0
  have e2 : w.cell? ⟨b2, 0, none⟩ = some (.int .i64 (q : Int)) := hb2.cell 0
  have e3 : w.cell? ⟨b3, 0, none⟩ = some v0 := hb3.cell 0
  obtain ⟨_, _, _, a5⟩ := h2.cell hy
  obtain ⟨_, _, a4, _⟩ := h2.cell hz
  have f5 := h2.free (q * 6 + 5)
  have f4 := h2.free (i * 6 + 4)
  have hi := (List.getElem?_eq_some_iff.1 hz).1
  have hq := (List.getElem?_eq_some_iff.1 hy).1
  have hii : (i : Int) < (M.length : Int) := by omega
  have h0i : 0 ≤ (i : Int) := by omega
  have hqq : (q : Int) < (M.length : Int) := by omega
  have h0q : 0 ≤ (q : Int) := by omega
  have hd1 : ¬ q * 6 + 5 = i * 6 + 4 := by omega
  have hd2 : ¬ i * 6 + 4 = q * 6 + 5 := by omega
  have HV := Lib.hid hv
  have HY := Lib.hid hy
  have HZ := Lib.hid hz
  have HQI := Lib.hid hqi
  obtain ⟨_, A, c, rfl, _, _⟩ := hv
  obtain ⟨vk, hvk⟩ : ∃ vk, vk = y.vk := ⟨_, rfl⟩
  rw [← hvk] at a5
  have hy2 := (h2.rd y (List.mem_of_getElem? hy)).2
  rw [← hvk] at hy2
  obtain ⟨_, A2, c2, rfl, _, _⟩ := hy2
  clear h h2 hb0 hb1 hb2 hb3 hy hz hvk hqi hi hq
  go_enter Tryz.func73, Tryz.ntmps73
  go_upto_region 0 with fail
  go_region
  all_goals
    go_wp2_with fail
    go_end0
    have hd := H.out.below (bl_drew (Below.refl _ w))
    have n1 := hd.setN HY.out 5 (by omega) _ (setKi_cells y (.slice A l0.length c) l0) ⟨(hd.rd y (List.mem_of_getElem? HY.out)).1, HV.out⟩
    have hz1 : (M.set q (setKi y (.slice A l0.length c) l0))[i]? = some z := by rw [List.getElem?_set, if_neg HQI.out]; exact HZ.out
    have n2 := n1.setN hz1 4 (by omega) _ (setPa_cells z (q : Int)) (n1.rd z (List.mem_of_getElem? hz1))
    exact ⟨⟨_, rfl⟩, n2, (((Kept.refl w _).drew).set_ L _ (fun _ => .inr rfl) _).set_ L _ (fun _ => .inr rfl) _⟩
end Go.Proofs.YtimlmekgapdkiaaGreatDoor
