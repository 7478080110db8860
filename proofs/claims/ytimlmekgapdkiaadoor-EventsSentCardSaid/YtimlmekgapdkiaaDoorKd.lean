/- ears: Drop -/
import Derived.Test.YtimlmekgapdkiaaDoorKc
namespace Go.Proofs.YtimlmekgapdkiaaDoor
set_option linter.unusedVariables false
set_option linter.unusedSimpArgs false
open Go.RowKit Go.Cas

def dropOk (G : List Bool) (k : Int) : Bool := decide (0 ≤ k ∧ k < (G.length : Int)) && !(G.getD k.toNat true)
def dropG (G : List Bool) (k : Int) : List Bool := if dropOk G k then G.set k.toNat true else G
set_option maxRecDepth 100000 in
set_option maxHeartbeats 16000000 in
theorem c_eDrop {w : World} {B E : Nat} {vl vg : Value} {L : List EarV} {G : List Bool} (h : EA 116 64 B E vl vg L G w) (hL : L.length ≤ 200) (k : Int) :
    Calls Tryd.prog 28 #[.pointer (some ⟨E, 0, none⟩), .int .i64 k] w fun e w' => e = .returned (.bool (dropOk G k)) ∧ EChg 116 64 B E vl vg L (dropG G k) w w' := by
  have H := Lib.hid h
  obtain ⟨n, hn⟩ : ∃ n, n = L.length := ⟨_, rfl⟩
  have HN := Lib.hid hn
  have e0 := h.root.cell 0; have e1 := h.root.cell 1
  have le := h.root.lt
  have hol := h.ol
  have hog := h.og
  rw [← hn] at hol hog hL
  obtain ⟨_, Al, cl, rfl, _, _⟩ := RdS.of_own hol
  obtain ⟨_, Ag, cg, rfl, _, _⟩ := RdS.of_own hog
  have HOG := Lib.hid hog
  have HGL : Hid (G.length = n) := by rw [HN.out]; exact h.gl
  clear h hn hol hog
  have hno : ∀ b, dropOk G k = false → b = Value.bool false → (Ending.returned b = Ending.returned (.bool (dropOk G k)) ∧ EChg 116 64 B E (.slice Al n cl) (.slice Ag n cg) L (dropG G k) w w) := fun b hb e => by
    unfold dropG
    rw [hb, e]
    exact ⟨rfl, _, _, H.out, fun _ _ h => h, Kept.refl _ _⟩
  have HNO := Lib.hid hno
  clear hno
  by_cases hk0 : k < 0
  · have hd : Hid (dropOk G k = false) := by unfold Hid dropOk; simp; omega
    go_enter Tryd.func28, Tryd.ntmps28
    go_wp2_with fail
    go_ret
    exact HNO.out _ hd.out rfl
  by_cases hkn : (n : Int) ≤ k
  · have hd : Hid (dropOk G k = false) := by unfold Hid dropOk; rw [HGL.out]; simp; omega
    go_enter Tryd.func28, Tryd.ntmps28
    go_wp2_with fail
    go_ret
    exact HNO.out _ hd.out rfl
  obtain ⟨m, rfl⟩ : ∃ m : Nat, k = (m : Int) := ⟨k.toNat, by omega⟩
  have hm : m < n := by omega
  have hm2 : (m : Int) < (n : Int) := by omega
  obtain ⟨g, hg⟩ : ∃ g, G[m]? = some g := ⟨_, List.getElem?_eq_getElem (by rw [HGL.out]; exact hm)⟩
  have HG := Lib.hid hg
  have hog2 := HOG.out
  obtain ⟨gg, cg', e, hgg, hgl⟩ := hog2.form (by omega)
  injection e with e e2 e3
  subst e e3
  have c1 := HOG.out.cells (g := gg) rfl m (.bool g) (by rw [List.getElem?_map, hg]; rfl)
  rw [add_none, Nat.zero_add] at c1
  have f1 := own_free HOG.out m
  have hdo : dropOk G (m : Int) = !g := by unfold dropOk; rw [List.getD_eq_getElem?_getD, show ((m : Int)).toNat = m from rfl, hg, HGL.out]; simp; omega
  have HDO := Lib.hid hdo
  have HNE : Hid (gg ≠ E) := fun e => H.out.ng (by rw [← e]; rfl)
  have HNL : Hid ((Value.slice Al n cl).ownBlock ≠ some gg) := fun e => H.out.sep gg e rfl
  clear hg hog2 hgg hdo hk0 hkn
  cases g
  case true =>
    go_enter Tryd.func28, Tryd.ntmps28
    go_wp2_with fail
    go_ret
    exact HNO.out _ (by rw [HDO.out]; rfl) rfl
  case false =>
    clear HNO
    go_enter Tryd.func28, Tryd.ntmps28
    go_wp2_with fail
    go_ret
    have hks : ∀ j, j ≠ gg → (w.setCell ⟨gg, m, none⟩ (.bool true)).heap[j]? = w.heap[j]? := fun j hj => Below.heap_setCell w ⟨gg, m, none⟩ _ j hj
    have hb : dropG G (m : Int) = G.set m true := by unfold dropG; rw [HDO.out]; rfl
    refine ⟨by rw [HDO.out]; rfl, ?_⟩
    rw [hb]
    refine ⟨_, _, ⟨(hks E (Ne.symm HNE.out)).trans H.out.root, own_keep H.out.ol (fun j hj => hks j (fun e => HNL.out (by rw [← e]; exact hj))), ?_, by rw [List.length_set]; exact H.out.gl, H.out.hE, H.out.nl, H.out.ng, H.out.sep⟩, fun _ _ h => h, (Kept.refl _ _).set_ gg m (fun _ => .inr (.inr rfl)) _⟩
    rw [List.map_set, ← HN.out]
    exact own_setN HOG.out m (.bool true)
set_option maxRecDepth 100000 in
set_option maxHeartbeats 16000000 in
theorem c_rDrop {w : World} {B E : Nat} {vl vg : Value} {L : List EarV} {G : List Bool} (h : EA 58 60 B E vl vg L G w) (hL : L.length ≤ 200) (k : Int) :
    Calls Tryd.prog 29 #[.pointer (some ⟨E, 0, none⟩), .int .i64 k] w fun e w' => e = .returned (.bool (dropOk G k)) ∧ EChg 58 60 B E vl vg L (dropG G k) w w' := by
  have H := Lib.hid h
  obtain ⟨n, hn⟩ : ∃ n, n = L.length := ⟨_, rfl⟩
  have HN := Lib.hid hn
  have e0 := h.root.cell 0; have e1 := h.root.cell 1
  have le := h.root.lt
  have hol := h.ol
  have hog := h.og
  rw [← hn] at hol hog hL
  obtain ⟨_, Al, cl, rfl, _, _⟩ := RdS.of_own hol
  obtain ⟨_, Ag, cg, rfl, _, _⟩ := RdS.of_own hog
  have HOG := Lib.hid hog
  have HGL : Hid (G.length = n) := by rw [HN.out]; exact h.gl
  clear h hn hol hog
  have hno : ∀ b, dropOk G k = false → b = Value.bool false → (Ending.returned b = Ending.returned (.bool (dropOk G k)) ∧ EChg 58 60 B E (.slice Al n cl) (.slice Ag n cg) L (dropG G k) w w) := fun b hb e => by
    unfold dropG
    rw [hb, e]
    exact ⟨rfl, _, _, H.out, fun _ _ h => h, Kept.refl _ _⟩
  have HNO := Lib.hid hno
  clear hno
  by_cases hk0 : k < 0
  · have hd : Hid (dropOk G k = false) := by unfold Hid dropOk; simp; omega
    go_enter Tryd.func29, Tryd.ntmps29
    go_wp2_with fail
    go_ret
    exact HNO.out _ hd.out rfl
  by_cases hkn : (n : Int) ≤ k
  · have hd : Hid (dropOk G k = false) := by unfold Hid dropOk; rw [HGL.out]; simp; omega
    go_enter Tryd.func29, Tryd.ntmps29
    go_wp2_with fail
    go_ret
    exact HNO.out _ hd.out rfl
  obtain ⟨m, rfl⟩ : ∃ m : Nat, k = (m : Int) := ⟨k.toNat, by omega⟩
  have hm : m < n := by omega
  have hm2 : (m : Int) < (n : Int) := by omega
  obtain ⟨g, hg⟩ : ∃ g, G[m]? = some g := ⟨_, List.getElem?_eq_getElem (by rw [HGL.out]; exact hm)⟩
  have HG := Lib.hid hg
  have hog2 := HOG.out
  obtain ⟨gg, cg', e, hgg, hgl⟩ := hog2.form (by omega)
  injection e with e e2 e3
  subst e e3
  have c1 := HOG.out.cells (g := gg) rfl m (.bool g) (by rw [List.getElem?_map, hg]; rfl)
  rw [add_none, Nat.zero_add] at c1
  have f1 := own_free HOG.out m
  have hdo : dropOk G (m : Int) = !g := by unfold dropOk; rw [List.getD_eq_getElem?_getD, show ((m : Int)).toNat = m from rfl, hg, HGL.out]; simp; omega
  have HDO := Lib.hid hdo
  have HNE : Hid (gg ≠ E) := fun e => H.out.ng (by rw [← e]; rfl)
  have HNL : Hid ((Value.slice Al n cl).ownBlock ≠ some gg) := fun e => H.out.sep gg e rfl
  clear hg hog2 hgg hdo hk0 hkn
  cases g
  case true =>
    go_enter Tryd.func29, Tryd.ntmps29
    go_wp2_with fail
    go_ret
    exact HNO.out _ (by rw [HDO.out]; rfl) rfl
  case false =>
    clear HNO
    go_enter Tryd.func29, Tryd.ntmps29
    go_wp2_with fail
    go_ret
    have hks : ∀ j, j ≠ gg → (w.setCell ⟨gg, m, none⟩ (.bool true)).heap[j]? = w.heap[j]? := fun j hj => Below.heap_setCell w ⟨gg, m, none⟩ _ j hj
    have hb : dropG G (m : Int) = G.set m true := by unfold dropG; rw [HDO.out]; rfl
    refine ⟨by rw [HDO.out]; rfl, ?_⟩
    rw [hb]
    refine ⟨_, _, ⟨(hks E (Ne.symm HNE.out)).trans H.out.root, own_keep H.out.ol (fun j hj => hks j (fun e => HNL.out (by rw [← e]; exact hj))), ?_, by rw [List.length_set]; exact H.out.gl, H.out.hE, H.out.nl, H.out.ng, H.out.sep⟩, fun _ _ h => h, (Kept.refl _ _).set_ gg m (fun _ => .inr (.inr rfl)) _⟩
    rw [List.map_set, ← HN.out]
    exact own_setN HOG.out m (.bool true)
end Go.Proofs.YtimlmekgapdkiaaDoor
