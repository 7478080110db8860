/- the document's tree: whatever an attribute is; where nothing may be put -/
import Derived.Test.YtimlmekgapdkiaaDoorUp
import Derived.Test.YtimlmekgapdkiaaDoorTmu
namespace Go.Proofs.YtimlmekgapdkiaaDoor
set_option linter.unusedVariables false
set_option linter.unusedSimpArgs false
open Go.RowKit Go.Cas

def RAny (B R : Nat) (T' : List Nod) (n : Nat) (τ : Nat → Nat) (w : World) (e : Ending) (w' : World) : Prop := (∃ u, e = .returned u) ∧ ∃ n', n' ≤ n + 1 ∧ ROp B R T' n' τ w w'
theorem c_rSetAny {w : World} {B R n i : Nat} {τ : Nat → Nat} {T : List Nod} (h : RS B R T n τ w) (hT : T.length ≤ 400) (hF : FewT T) (hn : n ≤ 1000000) (hi : i < T.length) (nm v : ByteArray) (hs : nm.size ≤ maxLen) (hv : v.size ≤ maxLen) :
    Calls Tryd.prog 53 #[.pointer (some ⟨R, 0, none⟩), .int .i64 (i : Int), .string nm, .string v, .bool false] w (RAny B R (atW isNm setA i T (nm, v)) n τ w) := by
  by_cases hc : (ndA T i).k = 2 ∧ isNm nm = true ∧ v.size ≤ 20000
  · have e : atW isNm setA i T (nm, v) = T.set i { ndA T i with at_ := setA (ndA T i).at_ nm v } := by unfold atW; rw [if_pos hc]
    rw [e]
    rcases fnd_spec (ndA T i).at_ nm with ⟨hf, _⟩ | ⟨k, hf, p, hp, _⟩
    · refine (c_rSetMiss h hT hF hn hi nm v hs hc.1 hc.2.1 hc.2.2 hf).mono ?_
      rintro e w' ⟨he, hop⟩
      exact ⟨he, n + 1, Nat.le_refl _, hop⟩
    · refine (c_rSetHit h hT hF hn hi nm v hs hc.1 hc.2.1 hc.2.2 hf hp).mono ?_
      rintro e w' ⟨he, hop⟩
      exact ⟨he, n + 1, Nat.le_refl _, hop⟩
  · have e : atW isNm setA i T (nm, v) = T := by unfold atW; rw [if_neg hc]
    rw [e]
    refine (c_rSetNo h hT hF hi nm v hs hv hc).mono ?_
    rintro e w' ⟨he, rfl⟩
    exact ⟨he, n, by omega, ROp.same h (Below.refl _ _)⟩
set_option maxRecDepth 100000 in
set_option maxHeartbeats 4000000 in
theorem c_rPut_kind {w : World} {B R n i p : Nat} {τ : Nat → Nat} {T : List Nod} {at_ : Int} (h : RS B R T n τ w) (hT : T.length ≤ 400) (hp : p < T.length) (hi : i < T.length) (hi0 : i ≠ 0) (hk : (ndA T p).k = 3 ∨ (ndA T p).k = 4) :
    Calls Tryd.prog 54 #[.pointer (some ⟨R, 0, none⟩), .int .i64 (p : Int), .int .i64 (i : Int), .int .i64 at_] w (SameRet w) := by
  have HH1 := Lib.hid (c_rHas h p hp hT)
  have HH2 := Lib.hid (c_rHas h i hi hT)
  obtain ⟨L, cap, tv, xs, M, h1, hM⟩ := h
  have hlM : M.length = T.length := by rw [← hM]; simp
  obtain ⟨y, hy, hyx⟩ := nv_get hM (ndA_get hp)
  obtain ⟨g0, _⟩ := h1.heads
  have hr := h1.ltR
  have hrL := h1.ltL
  obtain ⟨⟨a0, _, _⟩, _⟩ := h1.cell hy
  rw [← hyx] at hk
  have bi0 : ((i : Int) == 0) = false := by rw [beq_eq_false_iff_ne]; omega
  have hpi : (p : Int) < (M.length : Int) := by omega
  have h0p : 0 ≤ (p : Int) := by omega
  have hl4 : M.length ≤ 400 := by omega
  obtain ⟨xk, hxk⟩ : ∃ xk, xk = y.x.k := ⟨_, rfl⟩
  rw [← hxk] at a0 hk
  clear h1 hM hy hyx hxk hi hT hlM hi0 hp
  rcases hk with rfl | rfl
  all_goals
    go_enter Tryd.func54, Tryd.ntmps54
    go_wp2_with (go_at_call 73; first | ((with_reducible refine (HH1.out).mono ?_); rintro e w' ⟨rfl, rfl⟩) | ((with_reducible refine (HH2.out).mono ?_); rintro e w' ⟨rfl, rfl⟩))
    go_ret
    exact ⟨⟨_, rfl⟩, rfl⟩
/-- a kid that has no parent yet -/
theorem c_rKid {w : World} {B R n k i : Nat} {τ : Nat → Nat} {T : List Nod} (h : RS B R T n τ w) (hI : TI T (k + 1)) (hF : FewT T) (hn : n ≤ 1000000) (hT : T.length ≤ 400) (hk2 : (ndA T (k + 1)).k = 2 ∨ (ndA T (k + 1)).k = 3 ∨ (ndA T (k + 1)).k = 4) (hfree : (ndA T (k + 1)).pa = -1) (hi : i < k) (hpa : (ndA T (i + 1)).pa < 0) :
    Calls Tryd.prog 54 #[.pointer (some ⟨R, 0, none⟩), .int .i64 (((k + 1 : Nat)) : Int), .int .i64 (((i + 1 : Nat)) : Int), .int .i64 ((ndA T (k + 1)).ki.length : Int)] w (RAny B R (kiW k T (i : Int)) n τ w) := by
  have hl := hI.len
  obtain ⟨d, hd⟩ := hI.wf
  have et : ((i : Int) + 1).toNat = i + 1 := by omega
  by_cases hk : (ndA T (k + 1)).k = 2
  · have e : kiW k T (i : Int) = putG T (k + 1) (i + 1) (ndA T (k + 1)).ki.length := by
      unfold kiW
      rw [et, if_pos ⟨hk, by omega, by omega, hpa⟩]
    rw [e]
    refine (c_rPutFree h hd hT hF hn (by omega) (by omega) (by omega) (by rw [hk]; decide) (by rw [hk]; decide) (anc_free (by rw [hfree]; omega) (by omega)) hpa (Nat.le_refl _)).mono ?_
    rintro e w' ⟨he, hop⟩
    exact ⟨⟨_, he⟩, n + 1, Nat.le_refl _, hop⟩
  · have e : kiW k T (i : Int) = T := by unfold kiW; rw [if_neg (fun h => hk h.1)]
    rw [e]
    refine (c_rPut_kind h hT (by omega) (by omega) (by omega) (hk2.resolve_left hk)).mono ?_
    rintro e w' ⟨he, rfl⟩
    exact ⟨he, n, by omega, ROp.same h (Below.refl _ _)⟩
/-- how many attributes a node has at most -/
def AtB (T : List Nod) (b : Nat) : Prop := ∀ j, (ndA T j).at_.length ≤ b
theorem AtB.mono {T : List Nod} {b b' : Nat} (h : AtB T b) (hb : b ≤ b') : AtB T b' := fun j => Nat.le_trans (h j) hb
theorem AtB.add {T : List Nod} {b : Nat} {x : Nod} (h : AtB T b) (hx : x.at_ = []) : AtB (T ++ [x]) b := fun j => by
  rw [ndA_app]
  split
  · rw [hx]; simp
  · exact h j
theorem AtB.at_ {T : List Nod} {b i : Nat} {q : ByteArray × ByteArray} (h : AtB T b) (hi : i < T.length) : AtB (atW isNm setA i T q) (b + 1) := fun j => by
  unfold atW
  split
  · rw [ndA_set hi]
    split
    · show (setA (ndA T i).at_ q.1 q.2).length ≤ _
      have := h i
      unfold setA
      split <;> simp <;> omega
    · have := h j; omega
  · have := h j; omega
theorem AtB.putE {T : List Nod} {b p i : Nat} {ks : List Nat} (h : AtB T b) (hp : p < T.length) (hi : i < T.length) (hpi : p ≠ i) : AtB (putE T p i ks) b := fun j => by
  rw [putE_nd hp hi hpi]
  split
  · exact h i
  · split
    · exact h p
    · exact h j
theorem AtB.put {T : List Nod} {b p i m : Nat} (h : AtB T b) (hp : p < T.length) (hi : i < T.length) (hpi : p ≠ i) (hpa : (ndA T i).pa < 0) : AtB (putG T p i m) b := by
  rw [putG_none hpa]; exact h.putE hp hi hpi
theorem AtB.ki {T : List Nod} {b k : Nat} {kk : Int} (h : AtB T b) (hl : T.length = k + 2) : AtB (kiW k T kk) b := by
  unfold kiW
  split
  · rename_i hc
    obtain ⟨h2, h3, h4, h5⟩ := hc
    exact h.put (by omega) (by omega) (by omega) h5
  · exact h
theorem AtB.few {T : List Nod} {b k : Nat} (h : AtB T b) (hb : b ≤ 1000000) (hI : TI T k) (hT : T.length ≤ 400) : FewT T := by
  obtain ⟨d, hd⟩ := hI.wf
  intro x hx
  obtain ⟨j, hj, rfl⟩ := List.getElem_of_mem hx
  have e : ndA T j = T[j] := ndA_eq (List.getElem?_eq_getElem hj)
  refine ⟨?_, ?_⟩
  · have := h j; rw [e] at this; omega
  · have := nodup_lt _ _ (hd.nd j hj) (fun k hk => (hd.ki j hj k hk).1)
    rw [e] at this; omega
end Go.Proofs.YtimlmekgapdkiaaDoor
