/- plain: tracks: the sizes that both sides give -/
import Derived.Test.YtdpnpjficcciiaaTkb
namespace Go.Cas
set_option linter.unusedVariables false
set_option linter.unusedSimpArgs false
open Go.RowKit Go.Proofs.Ytdpnpjficcciiaa

/-- in order of their spans -/
def srtN (d : List Nd) : List Nd := (List.range 21).flatMap fun s => d.filter fun x => decide (x.sp = ((s : Nat) : Int))
theorem srt_low {l : List Nd} (hp : l.Pairwise (fun x y => x.sp ≤ y.sp)) (h0 : ∀ x ∈ l, 0 ≤ x.sp) : ∀ m : Nat, ((List.range m).flatMap fun s => l.filter fun x => decide (x.sp = ((s : Nat) : Int))) = l.filter fun x => decide (x.sp < (m : Int)) := by
  intro m
  induction m with
  | zero =>
    symm
    rw [List.range_zero, List.flatMap_nil, List.filter_eq_nil_iff]
    intro x hx
    have := h0 x hx
    simp; omega
  | succ m ih =>
    rw [List.range_succ, List.flatMap_append, ih, List.flatMap_singleton]
    clear ih
    induction l with
    | nil => rfl
    | cons a l ih =>
      obtain ⟨ha, hl⟩ := List.pairwise_cons.1 hp
      have ih := ih hl (fun x hx => h0 x (by simp [hx]))
      rcases Int.lt_trichotomy a.sp m with h | h | h
      · have e1 : a.sp < ((m + 1 : Nat) : Int) := by omega
        have e2 : ¬ a.sp = (m : Int) := by omega
        simp only [List.filter_cons, h, e1, e2, decide_true, decide_false, if_true, Bool.false_eq_true, if_false]
        rw [List.cons_append, ih]
      · have e0 : ¬ a.sp < (m : Int) := by omega
        have e1 : a.sp < ((m + 1 : Nat) : Int) := by omega
        have en : l.filter (fun x => decide (x.sp < (m : Int))) = [] := by
          rw [List.filter_eq_nil_iff]
          intro x hx
          have := ha x hx
          simp; omega
        rw [en, List.nil_append] at ih
        simp only [List.filter_cons, e0, e1, h, decide_true, decide_false, if_true]
        simp only [en, List.nil_append, ih]
        simp
        omega
      · have e0 : ¬ a.sp < (m : Int) := by omega
        have e1 : ¬ a.sp < ((m + 1 : Nat) : Int) := by omega
        have e2 : ¬ a.sp = (m : Int) := by omega
        simp only [List.filter_cons, e0, e1, e2, decide_false]
        simpa using ih
theorem srt_eq {D D' : List Nd} {n : Nat} (hn : D.length = n) (hm : SM Nd.sp D D' 0 n) (hs : Srt Nd.sp D' 0 n) (hb : ∀ x ∈ D, 1 ≤ x.sp ∧ x.sp ≤ 20) : D' = srtN D := by
  have hl : D'.length = n := by rw [hm.len, hn]
  have hb' : ∀ x ∈ D', 1 ≤ x.sp ∧ x.sp ≤ 20 := by
    intro x hx
    obtain ⟨i, hi⟩ := List.getElem?_of_mem hx
    have hil := (List.getElem?_eq_some_iff.1 hi).1
    obtain ⟨j, _, _, e⟩ := hm.mem i (by omega) (by omega)
    exact hb x (List.mem_of_getElem? (e ▸ hi))
  have hp : D'.Pairwise (fun x y => x.sp ≤ y.sp) := by
    rw [List.pairwise_iff_getElem]
    intro i j hi hj hij
    have := hs i j (by omega) (by omega) (by omega)
    rw [ky_some (key := Nd.sp) (List.getElem?_eq_getElem hi), ky_some (key := Nd.sp) (List.getElem?_eq_getElem hj)] at this
    exact this
  have h := srt_low hp (fun x hx => by have := hb' x hx; omega) 21
  have e : D'.filter (fun x => decide (x.sp < ((21 : Nat) : Int))) = D' := by
    rw [List.filter_eq_self]
    intro x hx
    have := hb' x hx
    simp; omega
  rw [e] at h
  rw [← h]
  unfold srtN
  congr 1
  funext s
  exact hm.stb s
/-- what tracks there are, by kinds -/
def trkL (L : List Tr) (room : Int) (D : List Nd) : List Tr := (extA (L.take 20) D).map (hdT room)
/-- what they have once all needs are seen to -/
def trkO (T : List Tr) (room gap : Int) (D : List Nd) : List Int := (srtN D).foldl (fillT T gap) (T.map (ownT room))
def trkS (T : List Tr) (k : Nat) : Int := sumTo (fun i => facT (trA T i)) k
def leftT (T : List Tr) (room gap : Int) (out : List Int) : Int := room - gap * max 0 ((T.length : Int) - 1) - sumTo (szA out) T.length
def porT (T : List Tr) (left : Int) (k : Nat) : Int := left * trkS T k / max (trkS T T.length) 1000
def trkR (T : List Tr) (room gap : Int) (D : List Nd) : List Int :=
  if room < 0 ∨ leftT T room gap (trkO T room gap D) ≤ 0 ∨ trkS T T.length = 0 then trkO T room gap D
  else (List.range T.length).map fun i => szA (trkO T room gap D) i + (porT T (leftT T room gap (trkO T room gap D)) (i + 1) - porT T (leftT T room gap (trkO T room gap D)) i)
def trk (L : List Tr) (N : List Nd) (room gap : Int) : List Int := trkR (trkL L (hld room) (ndsK (N.take 200))) (hld room) (hld gap) (ndsK (N.take 200))
theorem trkS_bd (T : List Tr) (k : Nat) : 0 ≤ trkS T k ∧ trkS T k ≤ 1000000000 * k := by
  have := sumTo_bd (f := fun i => facT (trA T i)) (lo := 0) (hi := 1000000000) (n := k) (fun i _ => facT_bd _) k (Nat.le_refl _)
  unfold trkS
  omega
theorem trkS_mono (T : List Tr) {k m : Nat} (h : k ≤ m) : trkS T k ≤ trkS T m := sumTo_mono (fun i _ => (facT_bd _).1) k m h (Nat.le_refl _)
theorem trkS_succ (T : List Tr) (k : Nat) : trkS T (k + 1) = trkS T k + facT (trA T k) := rfl
theorem porT_bd {T : List Tr} {left : Int} (h0 : 0 ≤ left) {k : Nat} (hk : k ≤ T.length) : 0 ≤ porT T left k ∧ porT T left k ≤ left := by
  have h1 := trkS_bd T k
  have h2 := trkS_mono T hk
  unfold porT
  have hpos : 0 < max (trkS T T.length) 1000 := by omega
  refine ⟨Int.ediv_nonneg (Int.mul_nonneg h0 h1.1) (by omega), ?_⟩
  have h3 : left * trkS T k ≤ left * max (trkS T T.length) 1000 := Int.mul_le_mul_of_nonneg_left (by omega) h0
  calc left * trkS T k / max (trkS T T.length) 1000 ≤ left * max (trkS T T.length) 1000 / max (trkS T T.length) 1000 := Int.ediv_le_ediv hpos h3
    _ = left := Int.mul_ediv_cancel _ (by omega)
theorem ownT_OB {room : Int} (hr : -16777216 ≤ room ∧ room ≤ 16777216) {T : List Tr} (hk : ∀ x ∈ T, room < 0 → x.k ≤ 1) : OB (T.map (ownT room)) := by
  intro i hi
  rw [List.length_map] at hi
  have e : (T.map (ownT room))[i]? = some (ownT room T[i]) := by rw [List.getElem?_map, List.getElem?_eq_getElem hi]; rfl
  rw [szA_eq e]
  exact ownT_bd hr _ (hk _ (List.getElem_mem hi))
theorem foldF_len (T : List Tr) (gap : Int) : ∀ (d : List Nd) (out : List Int), (d.foldl (fillT T gap) out).length = out.length := by
  intro d
  induction d with
  | nil => intro out; rfl
  | cons x d ih => intro out; rw [List.foldl_cons, ih, fillT_len]
theorem foldF_OB {T : List Tr} {gap : Int} (hg : -16777216 ≤ gap ∧ gap ≤ 16777216) : ∀ (d : List Nd) (out : List Int), OB out → (∀ x ∈ d, NB x out.length) → OB (d.foldl (fillT T gap) out) := by
  intro d
  induction d with
  | nil => intro out h _; exact h
  | cons x d ih =>
    intro out h hx
    rw [List.foldl_cons]
    refine ih _ (fillT_bd hg h (hx x (by simp))) (fun y hy => ?_)
    rw [fillT_len]
    exact hx y (by simp [hy])
theorem foldF_take {T : List Tr} {gap : Int} {d : List Nd} {out : List Int} {k : Nat} {x : Nd} (h : d[k]? = some x) : (d.take (k + 1)).foldl (fillT T gap) out = fillT T gap ((d.take k).foldl (fillT T gap) out) x := by
  obtain ⟨h1, h2⟩ := List.getElem?_eq_some_iff.1 h
  rw [List.take_succ_eq_append_getElem h1, h2, List.foldl_append]; rfl
theorem srtN_mem {d : List Nd} {x : Nd} (h : x ∈ srtN d) : x ∈ d := by
  unfold srtN at h
  obtain ⟨s, _, hs⟩ := List.mem_flatMap.1 h
  exact (List.mem_filter.1 hs).1
theorem nds_NB {L : List Tr} {N : List Nd} {room : Int} {x : Nd} (h : x ∈ ndsK N) : NB x (trkL L room (ndsK N)).length := by
  have h1 := ndsK_mem h
  have hl : (L.take 20).length ≤ 20 := by rw [List.length_take]; omega
  have h2 := (extA_len hl (ndsK N) (fun y hy => by have := ndsK_mem hy; omega)).2 x h
  refine ⟨⟨h1.1, h1.2.1⟩, ⟨h1.2.2.1, h1.2.2.2.1⟩, ⟨h1.2.2.2.2.1, h1.2.2.2.2.2⟩, ?_⟩
  unfold trkL
  rw [List.length_map]
  unfold endN at h2
  omega
theorem trkL_len (L : List Tr) (room : Int) (N : List Nd) : (trkL L room (ndsK N)).length ≤ 219 := by
  have hl : (L.take 20).length ≤ 20 := by rw [List.length_take]; omega
  unfold trkL
  rw [List.length_map]
  exact (extA_len hl (ndsK N) (fun y hy => by have := ndsK_mem hy; omega)).1
theorem trkL_kd {L : List Tr} {room : Int} {D : List Nd} {x : Tr} (h : x ∈ trkL L room D) : 0 ≤ x.k ∧ x.k ≤ 3 ∧ (room < 0 → x.k ≤ 1) := by
  unfold trkL at h
  obtain ⟨y, _, rfl⟩ := List.mem_map.1 h
  exact kdT_bd room y.k
theorem sum_OB {out : List Int} (h : OB out) {k : Nat} (hk : k ≤ out.length) : 0 ≤ sumTo (szA out) k ∧ sumTo (szA out) k ≤ 167772160000 * k := by
  have := sumTo_bd (f := szA out) (lo := 0) (hi := 167772160000) (n := k) (fun i hi => h i (by omega)) k (Nat.le_refl _)
  omega
theorem gap_len {gap : Int} (hg : -16777216 ≤ gap ∧ gap ≤ 16777216) {n : Nat} (hn : n ≤ 219) : -3674210304 ≤ gap * max 0 ((n : Int) - 1) ∧ gap * max 0 ((n : Int) - 1) ≤ 3674210304 := by
  have h0 : 0 ≤ max 0 ((n : Int) - 1) := by omega
  have a := Int.mul_le_mul_of_nonneg_right hg.1 h0
  have b := Int.mul_le_mul_of_nonneg_right hg.2 h0
  omega
end Go.Cas
