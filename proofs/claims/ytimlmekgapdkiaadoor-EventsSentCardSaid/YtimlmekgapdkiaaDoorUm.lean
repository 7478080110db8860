/- the document's tree: a new one; the document's tree: an attribute that cannot be set; the document's tree: an attribute's value is another one: the memory; the document's tree: an attribute has another value -/
import Derived.Test.YtimlmekgapdkiaaDoorUi
import Derived.Test.YtimlmekgapdkiaaDoorTmp
import Derived.Handy
namespace Go.Proofs.YtimlmekgapdkiaaDoor
set_option linter.unusedVariables false
set_option linter.unusedSimpArgs false
open Go.RowKit Go.Cas

def NtRet (w : World) (e : Ending) (w' : World) : Prop := ∃ L, e = .returned (.agg #[.slice (some ⟨L, 0, none⟩) 1 1, .slice none 0 0]) ∧ w.heap.size ≤ L ∧ Bk w' L 105 #[.int .i64 1, .string ByteArray.empty, .string ByteArray.empty, .slice none 0 0, .int .i64 (-1), .slice none 0 0] ∧ Below w.heap.size w w'
theorem c_rNewTree (w : World) : Calls Tryd.prog 50 #[] w (NtRet w) := by
  go_enter Tryd.func50, Tryd.ntmps50
  go_wp2_with fail
  go_returns
  refine ⟨w.heap.size + 1, rfl, by omega, bk_new' _ _ _ (by simp), bl_alloc (bl_alloc (Below.refl _ _) _) _⟩
end Go.Proofs.YtimlmekgapdkiaaDoor
namespace Go.Proofs.YtimlmekgapdkiaaDoor
set_option linter.unusedVariables false
set_option linter.unusedSimpArgs false
open Go.RowKit Go.Cas

def SameRet (w : World) (e : Ending) (w' : World) : Prop := (∃ u, e = .returned u) ∧ w = w'
set_option maxRecDepth 100000 in
set_option maxHeartbeats 4000000 in
theorem c_rSetNo {w : World} {B R n i : Nat} {τ : Nat → Nat} {T : List Nod} (h : RS B R T n τ w) (hT : T.length ≤ 400) (hF : FewT T) (hi : i < T.length) (nm v : ByteArray) (hs : nm.size ≤ maxLen) (hv : v.size ≤ maxLen) (hno : ¬ ((ndA T i).k = 2 ∧ isNm nm = true ∧ v.size ≤ 20000)) :
    Calls Tryd.prog 53 #[.pointer (some ⟨R, 0, none⟩), .int .i64 (i : Int), .string nm, .string v, .bool false] w (SameRet w) := by
  have HH := Lib.hid (c_rHas h i hi hT)
  obtain ⟨L, cap, tv, xs, M, h1, hM⟩ := h
  have hlM : M.length = T.length := by rw [← hM]; simp
  obtain ⟨y, hy, hyx⟩ := nv_get hM (ndA_get hi)
  have HNM := Lib.hid (c_IsName nm w hs)
  have hfy := hF.few hM y (List.mem_of_getElem? hy)
  have HAT := Lib.hid (c_rAt (s := nm) (RdS.of_own (h1.at_ i y hy)) (by omega) (Nat.le_refl _))
  obtain ⟨g0, _⟩ := h1.heads
  have hr := h1.ltR
  have hrL := h1.ltL
  obtain ⟨⟨a0, _, _⟩, a3, _⟩ := h1.cell hy
  have hii : (i : Int) < (M.length : Int) := by omega
  have hl4 : M.length ≤ 400 := by omega
  obtain ⟨kk, hkk⟩ : ∃ kk, kk = y.x.k := ⟨_, rfl⟩
  rw [← hkk] at a0
  rw [← hyx, ← hkk] at hno
  clear h1 hM hlM hy hyx hfy hF hT hi hkk
  by_cases hk : kk = 2
  · subst hk
    by_cases hn : isNm nm = true
    · have hsz : (20000 : Int) < (v.size : Int) := by
        have : ¬ v.size ≤ 20000 := fun e => hno ⟨rfl, hn, e⟩
        omega
      rw [hn] at HNM
      clear hno hn
      go_enter Tryd.func53, Tryd.ntmps53
      go_wp2_with (first
        | (go_at_call 73; refine (HH.out).mono ?_; rintro e w' ⟨rfl, rfl⟩)
        | (go_at_call 92; refine (HAT.out).mono ?_; rintro e w' ⟨rfl, rfl⟩)
        | (go_at_call 51; refine (HNM.out).mono ?_; rintro e w' ⟨rfl, rfl⟩))
      go_ret
      exact ⟨⟨_, rfl⟩, rfl⟩
    · rw [Bool.not_eq_true _ |>.mp hn] at HNM
      clear hno hn
      go_enter Tryd.func53, Tryd.ntmps53
      go_wp2_with (first
        | (go_at_call 73; refine (HH.out).mono ?_; rintro e w' ⟨rfl, rfl⟩)
        | (go_at_call 92; refine (HAT.out).mono ?_; rintro e w' ⟨rfl, rfl⟩)
        | (go_at_call 51; refine (HNM.out).mono ?_; rintro e w' ⟨rfl, rfl⟩))
      go_ret
      exact ⟨⟨_, rfl⟩, rfl⟩
  · have hk2 : (kk == 2) = false := by rw [beq_eq_false_iff_ne]; exact hk
    clear hno
    go_enter Tryd.func53, Tryd.ntmps53
    go_wp2_with (go_at_call 73; refine (HH.out).mono ?_; rintro e w' ⟨rfl, rfl⟩)
    go_ret
    exact ⟨⟨_, rfl⟩, rfl⟩
end Go.Proofs.YtimlmekgapdkiaaDoor
namespace Go.Proofs.YtimlmekgapdkiaaDoor
set_option linter.unusedVariables false
set_option linter.unusedSimpArgs false
open Go.RowKit Go.Cas

/-- a cell of a node's attributes is written -/
theorem RT.setV {w : World} {B R L cap nT i g n c : Nat} {tv : Value} {xs : List Value} {τ : Nat → Nat} {M : List NV} {y : NV} (h : RT B R L cap nT tv xs τ M w) (hy : M[i]? = some y) (hva : y.va = .slice (some ⟨g, 0, none⟩) n c) (l : List (ByteArray × ByteArray)) (j : Nat) (u : Value) (hl : l.length = y.x.at_.length) (hu : (atc y.x.at_).set j u = atc l) :
    RT B R L cap nT tv xs τ (M.set i { y with x := { y.x with at_ := l } }) (w.setCell ⟨g, j, none⟩ u) := by
  have hg : τ g = 5 + i := h.tA i y hy g (by rw [hva]; rfl)
  have hk : ∀ k, τ k ≠ 5 + i → (w.setCell ⟨g, j, none⟩ u).heap[k]? = w.heap[k]? := fun k hn => Below.heap_setCell w ⟨g, j, none⟩ u k (fun e => hn (by rw [show k = g from e]; exact hg))
  have hs : (w.setCell ⟨g, j, none⟩ u).heap.size = w.heap.size := by simp [World.setCell]
  have get : ∀ (q : Nat) z, (M.set i { y with x := { y.x with at_ := l } })[q]? = some z → (q = i ∧ z = { y with x := { y.x with at_ := l } }) ∨ (q ≠ i ∧ M[q]? = some z) := fun q z hz => by
    rw [List.getElem?_set] at hz
    by_cases e : i = q
    · rw [if_pos e] at hz
      split at hz
      · injection hz with hz; exact .inl ⟨e.symm, hz.symm⟩
      · cases hz
    · rw [if_neg e] at hz; exact .inr ⟨fun e2 => e e2.symm, hz⟩
  have hflat : (M.set i { y with x := { y.x with at_ := l } }).flatMap nvc = M.flatMap nvc := by
    have := flat_set nvc 6 (fun _ => rfl) M i 3 y { y with x := { y.x with at_ := l } } y.va hy (by omega) rfl
    rw [← this]
    have hq := flat_get nvc 6 (fun _ => rfl) M i 3 y hy (by omega)
    have h3 : (M.flatMap nvc)[i * 6 + 3]? = some y.va := hq.trans rfl
    obtain ⟨hlt, he⟩ := List.getElem?_eq_some_iff.1 h3
    rw [← he]; simp
  refine ⟨?_, ?_, own_keep h.ow (fun k e => hk k (by rw [h.tT k e]; omega)), fun q z hz => ?_, fun q z hz => ?_, h.tR, h.tL, h.tT, fun q z hz k e => ?_, fun k hf => by rw [hs]; exact h.tB k hf⟩
  · rw [List.length_set]
    exact (hk R (by rw [h.tR]; omega)).trans h.root
  · rw [List.length_set, hflat]
    exact h.row.at_ (hk L (by rw [h.tL]; omega))
  · rcases get q z hz with ⟨rfl, rfl⟩ | ⟨hq, hz⟩
    · have ho := h.at_ q y hy
      rw [hva] at ho ⊢
      have := own_setN ho j u
      rw [hu] at this
      rw [hl]
      exact this
    · refine own_keep (h.at_ q z hz) (fun k e => hk k ?_)
      rw [h.tA q z hz k e]; omega
  · rcases get q z hz with ⟨rfl, rfl⟩ | ⟨hq, hz⟩
    · exact (h.ki q y hy).keep (fun k e => hk k (by rw [show τ k = 4 from e]; omega)) (fun _ h => h)
    · exact (h.ki q z hz).keep (fun k e => hk k (by rw [show τ k = 4 from e]; omega)) (fun _ h => h)
  · rcases get q z hz with ⟨rfl, rfl⟩ | ⟨hq, hz⟩
    · exact h.tA q y hy k e
    · exact h.tA q z hz k e
end Go.Proofs.YtimlmekgapdkiaaDoor
namespace Go.Proofs.YtimlmekgapdkiaaDoor
set_option linter.unusedVariables false
set_option linter.unusedSimpArgs false
open Go.RowKit Go.Cas

def RStRet (B R : Nat) (T : List Nod) (n : Nat) (τ : Nat → Nat) (w : World) (e : Ending) (w' : World) : Prop := (∃ u, e = .returned u) ∧ ROp B R T (n + 1) τ w w'
set_option maxRecDepth 100000 in
set_option maxHeartbeats 8000000 in
theorem c_rSetHit {w : World} {B R n i k : Nat} {τ : Nat → Nat} {T : List Nod} {p : ByteArray × ByteArray} (h : RS B R T n τ w) (hT : T.length ≤ 400) (hF : FewT T) (hn : n ≤ 1000000) (hi : i < T.length) (nm v : ByteArray) (hs : nm.size ≤ maxLen) (hk2 : (ndA T i).k = 2) (hnm : isNm nm = true) (hv : v.size ≤ 20000) (hf : fnd (ndA T i).at_ nm = (k : Int)) (hp : (ndA T i).at_[k]? = some p) :
    Calls Tryd.prog 53 #[.pointer (some ⟨R, 0, none⟩), .int .i64 (i : Int), .string nm, .string v, .bool false] w (RStRet B R (T.set i { ndA T i with at_ := setA (ndA T i).at_ nm v }) n τ w) := by
  have HH := Lib.hid (c_rHas h i hi hT)
  obtain ⟨L, cap, tv, xs, M, h1, hM⟩ := h
  have hlM : M.length = T.length := by rw [← hM]; simp
  obtain ⟨y, hy, hyx⟩ := nv_get hM (ndA_get hi)
  have HNM := Lib.hid (c_IsName nm w hs)
  rw [hnm] at HNM
  have hfy := hF.few hM y (List.mem_of_getElem? hy)
  have hat := c_rAt (s := nm) (RdS.of_own (h1.at_ i y hy)) (by omega) (Nat.le_refl _)
  rw [hyx, hf] at hat
  have HAT := Lib.hid hat
  have HKP := Lib.hid (c_keep h1 (by omega) (hF.few hM) hn)
  obtain ⟨g0, _⟩ := h1.heads
  have hr := h1.ltR
  have hrL := h1.ltL
  obtain ⟨⟨a0, _, _⟩, a3, _⟩ := h1.cell hy
  rw [hyx, hk2] at a0
  have hii : (i : Int) < (M.length : Int) := by omega
  have hl4 : M.length ≤ 400 := by omega
  have hsz : ¬ (20000 : Int) < (v.size : Int) := by omega
  obtain ⟨m, hm⟩ : ∃ m, m = y.x.at_.length := ⟨_, rfl⟩
  have hkm : k < m := by rw [hm, hyx]; exact (List.getElem?_eq_some_iff.1 hp).1
  have hkmi : (k : Int) < (m : Int) := by omega
  have hm6 : m ≤ 1000000 := by rw [hm]; exact hfy.1
  have ho := h1.at_ i y hy
  obtain ⟨g, c, hva, hgB, hgl⟩ := ho.form (by omega)
  rw [hva, ← hm] at a3 HAT
  have HVA := Lib.hid hva
  have HMM := Lib.hid hM
  have HM0 := Lib.hid hm
  have HY := Lib.hid hy
  have HYX := Lib.hid hyx
  have HP := Lib.hid hp
  have HFD := Lib.hid hf
  have hk0 : ¬ (k : Int) < 0 := by omega
  clear h1 hM hlM hy hyx hfy hF hT hi hat ho hva hm hp hf hnm hv
  go_enter Tryd.func53, Tryd.ntmps53
  go_upto_region 21 with (first
    | (go_at_call 73; refine (HH.out).mono ?_; rintro e w' ⟨rfl, rfl⟩)
    | (go_at_call 92; refine (HAT.out).mono ?_; rintro e w' ⟨rfl, rfl⟩)
    | (go_at_call 51; refine (HNM.out).mono ?_; rintro e w' ⟨rfl, rfl⟩)
    | (go_at_call 91; refine (HKP.out).mono ?_; rintro e w2 ⟨⟨u, rfl⟩, tv2, xs2, τ2, h2, ht2, hk2⟩; have H2 := Lib.hid h2; have HT2 := Lib.hid ht2; have HK2 := Lib.hid hk2; clear h2 ht2 hk2))
  obtain ⟨p0, _⟩ := H2.out.heads
  have pr := H2.out.ltR
  have prL := H2.out.ltL
  obtain ⟨_, p3, _⟩ := H2.out.cell HY.out
  rw [HVA.out, ← HM0.out] at p3
  have ho2 := H2.out.at_ i y HY.out
  rw [HVA.out, ← HM0.out] at ho2
  have f1 := own_free ho2 (k * 2 + 1)
  have hc1 := ho2.cells (g := g) rfl (k * 2 + 1) (.string p.2) (by rw [HYX.out]; unfold atc; rw [flat_get (fun p : ByteArray × ByteArray => ([.string p.1, .string p.2] : List Value)) 2 (fun _ => rfl) _ k 1 p HP.out (by omega)]; rfl)
  rw [add_none, Nat.zero_add] at hc1
  have hgl2 : g < w2.heap.size := (own_lt ho2 rfl).2
  have HHIT := Lib.hid (setA_hit (v := v) HFD.out HP.out)
  have HSET := Lib.hid (atc_set HP.out v)
  clear g0 hr hrL a0 a3 ho2
  go_wp2_with fail
  go_ret
  refine ⟨⟨_, rfl⟩, τ2, ⟨_, _, _, _, _, H2.out.setV HY.out HVA.out (setA (ndA T i).at_ nm v) (k * 2 + 1) (.string v) (by rw [HYX.out, HHIT.out, List.length_set]) (by rw [HYX.out, HHIT.out]; exact HSET.out), ?_⟩, HT2.out, ?_⟩
  · rw [List.map_set, HMM.out, HYX.out]
  · exact HK2.out.set_ g _ (fun hg => HT2.out g hg (by rw [H2.out.tA i y HY.out g (by rw [HVA.out]; rfl)]; omega)) _
end Go.Proofs.YtimlmekgapdkiaaDoor
