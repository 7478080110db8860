/- plain (no program): the tree of a list of twigs -/
import Derived.Test.YtimlmekgapdkiaaDoorTrc
namespace Go.Cas
set_option linter.unusedVariables false
set_option linter.unusedSimpArgs false

theorem Way.nodup {T : List Nod} {d : Nat → Nat} (h : WF T d) {i : Nat} {l : List Nat} (hw : Way T i l) (hi : i < T.length) : l.Nodup ∧ ∀ x ∈ l, d x ≤ d i := by
  induction hw with
  | root _ => exact ⟨by simp, fun x hx => by simp at hx; subst hx; exact Nat.le_refl _⟩
  | @step i p l e _ ih =>
    have hp : p < T.length := by
      rcases h.pa i hi with e1 | ⟨_, e2⟩
      · omega
      · rw [e] at e2; exact e2
    have hd := h.ac i hi (by omega)
    rw [e] at hd
    have ep : ((p : Int)).toNat = p := rfl
    rw [ep] at hd
    obtain ⟨h1, h2⟩ := ih hp
    refine ⟨?_, fun x hx => ?_⟩
    · rw [List.nodup_append]
      refine ⟨h1, by simp, fun a ha b hb => ?_⟩
      simp at hb; subst hb
      intro e; subst e
      have := h2 a ha; omega
    · rcases List.mem_append.1 hx with hx | hx
      · have := h2 x hx; omega
      · simp at hx; subst hx; exact Nat.le_refl _
theorem Way.short {T : List Nod} {d : Nat → Nat} (h : WF T d) {i : Nat} {l : List Nat} (hw : Way T i l) (hi : i < T.length) : l.length ≤ T.length :=
  nodup_lt _ _ (hw.nodup h hi).1 (hw.lt h hi)
/-- a twig of a list -/
structure Twg where
  k : Int
  tag : ByteArray
  txt : ByteArray
  at_ : List (ByteArray × ByteArray)
  ki : List Int
section
variable (isN : ByteArray → Bool) (sA : List (ByteArray × ByteArray) → ByteArray → ByteArray → List (ByteArray × ByteArray))
/-- the node of a twig alone -/
def ndW (x : Twg) : Nod := if x.k = 2 ∧ isN x.tag = true then ⟨2, x.tag, ByteArray.empty, [], -1, []⟩ else if x.k = 4 then ⟨4, ByteArray.empty, x.txt, [], -1, []⟩ else ⟨3, ByteArray.empty, x.txt, [], -1, []⟩
/-- an attribute that can be set -/
def atW (i : Nat) (T : List Nod) (p : ByteArray × ByteArray) : List Nod :=
  if (ndA T i).k = 2 ∧ isN p.1 = true ∧ p.2.size ≤ 20000 then T.set i { ndA T i with at_ := sA (ndA T i).at_ p.1 p.2 } else T
/-- a kid that has no parent yet -/
def kiW (i : Nat) (T : List Nod) (k : Int) : List Nod :=
  if (ndA T (i + 1)).k = 2 ∧ 0 ≤ k ∧ k < i ∧ (ndA T (k + 1).toNat).pa < 0 then putG T (i + 1) (k + 1).toNat (ndA T (i + 1)).ki.length else T
def twW (T : List Nod) (i : Nat) (x : Twg) : List Nod := x.ki.foldl (kiW i) (x.at_.foldl (atW isN sA (i + 1)) (T ++ [ndW isN x]))
def twsW : List Nod → Nat → List Twg → List Nod
  | T, _, [] => T
  | T, i, x :: l => twsW (twW isN sA T i x) (i + 1) l
theorem twsW_snoc : ∀ (l : List Twg) (T : List Nod) (i : Nat) (x : Twg), twsW isN sA T i (l ++ [x]) = twW isN sA (twsW isN sA T i l) (i + l.length) x := by
  intro l
  induction l with
  | nil => intro T i x; rfl
  | cons a l ih =>
    intro T i x
    simp only [List.cons_append, twsW, ih]
    congr 1
    simp; omega
/-- at last all without a parent stand in the document -/
def topW (T : List Nod) (i : Nat) : List Nod := if (ndA T i).pa < 0 then putG T 0 i (ndA T 0).ki.length else T
def topsW (T : List Nod) (n : Nat) : List Nod := ((List.range n).map (· + 1)).foldl topW T
end
/-- what all of these keep -/
structure TI (T : List Nod) (n : Nat) : Prop where
  wf : ∃ d, WF T d
  len : T.length = n + 1
  root : (ndA T 0).pa = -1 ∧ (ndA T 0).k = 1
theorem TI.put {T : List Nod} {n p i m : Nat} (h : TI T n) (hp : p < T.length) (hi : i < T.length) (hi0 : i ≠ 0) (ha : ¬ Anc T i p) : TI (putG T p i m) n := by
  obtain ⟨d, hd⟩ := h.wf
  refine ⟨hd.putG m hp hi ha, by rw [putG_len]; exact h.len, ?_⟩
  have hne : p ≠ i := fun e => ha (e ▸ .refl)
  have hcl := cutE_len T i
  unfold putG
  rw [putE_nd (by rw [cutE_len]; exact hp) (by rw [cutE_len]; exact hi) hne, if_neg (Ne.symm hi0)]
  have hr := h.root
  have hc : (ndA (cutE T i) 0).pa = -1 ∧ (ndA (cutE T i) 0).k = 1 := by
    refine ⟨by rw [cutE_pa hd hi, if_neg (Ne.symm hi0)]; exact hr.1, ?_⟩
    by_cases h0 : 0 ≤ (ndA T i).pa
    · obtain ⟨q, hq⟩ := Int.eq_ofNat_of_zero_le h0
      rw [cutE_nd hd hi hq, if_neg (Ne.symm hi0)]
      split
      · rename_i e; subst e; exact hr.2
      · exact hr.2
    · rw [cutE_none (by omega)]; exact hr.2
  split
  · rename_i e; subst e; exact hc
  · exact hc
theorem TI.add {T : List Nod} {n : Nat} {x : Nod} (h : TI T n) (hp : x.pa = -1) (hk : x.ki = []) : TI (T ++ [x]) (n + 1) := by
  obtain ⟨d, hd⟩ := h.wf
  refine ⟨⟨d, hd.add hp hk⟩, by simp [h.len], ?_⟩
  rw [ndA_app, if_neg (by have := h.len; omega)]
  exact h.root
theorem TI.at_ {T : List Nod} {n i : Nat} {l : List (ByteArray × ByteArray)} (h : TI T n) (hi : i < T.length) : TI (T.set i { ndA T i with at_ := l }) n := by
  obtain ⟨d, hd⟩ := h.wf
  have hn := fun k => ndA_set (x := { ndA T i with at_ := l }) hi k
  refine ⟨⟨d, hd.same (by simp) (fun k _ => ?_) (fun k _ => ?_)⟩, by simp [h.len], ?_⟩
  · rw [hn]; split
    · rename_i e; subst e; rfl
    · rfl
  · rw [hn]; split
    · rename_i e; subst e; rfl
    · rfl
  · rw [hn]; split
    · rename_i e; subst e; exact h.root
    · exact h.root
theorem anc_free {T : List Nod} {i x : Nat} (h : (ndA T x).pa < 0) (hne : x ≠ i) : ¬ Anc T i x := anc_root h hne
end Go.Cas
