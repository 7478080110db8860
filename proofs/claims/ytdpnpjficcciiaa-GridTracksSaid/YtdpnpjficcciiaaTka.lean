/- plain: tracks and what needs them -/
import Derived.Test.YtdpnpjficcciiaaSa
namespace Go.Cas
set_option linter.unusedVariables false
set_option linter.unusedSimpArgs false
open Go.RowKit Go.Proofs.Ytdpnpjficcciiaa

/-- a track -/
structure Tr where
  k : Int
  n : Int
def tr (x : Tr) : List Value := [.int .i64 x.k, .int .i64 x.n]
abbrev agT (x : Tr) : Value := .agg #[.int .i64 x.k, .int .i64 x.n]
def t0 : Tr := ⟨0, 0⟩
def trA (l : List Tr) (i : Nat) : Tr := l.getD i t0
theorem trA_eq {l : List Tr} {i : Nat} {x : Tr} (h : l[i]? = some x) : trA l i = x := by unfold trA; rw [List.getD_eq_getElem?_getD, h]; rfl
theorem trA_get {l : List Tr} {i : Nat} (h : i < l.length) : l[i]? = some (trA l i) := by rw [List.getElem?_eq_getElem h, trA_eq (List.getElem?_eq_getElem h)]
/-- a need that counts -/
def okN (x : Nd) : Bool := decide (1 ≤ x.fr ∧ x.fr ≤ 200 ∧ 1 ≤ x.sp ∧ x.sp ≤ 20)
def hdN (x : Nd) : Nd := ⟨x.fr, x.sp, hld x.sz⟩
def ndsK (l : List Nd) : List Nd := (l.filter okN).map hdN
def endN (x : Nd) : Nat := (x.fr + x.sp - 1).toNat
/-- as many tracks as the needs reach -/
def ext (l : List Tr) (k : Nat) : List Tr := l ++ List.replicate (k - l.length) t0
def extA (l : List Tr) (d : List Nd) : List Tr := d.foldl (fun l x => ext l (endN x)) l
theorem ext_len (l : List Tr) (k : Nat) : (ext l k).length = max l.length k := by unfold ext; simp; omega
theorem ext_le {l : List Tr} {k : Nat} (h : k ≤ l.length) : ext l k = l := by unfold ext; rw [Nat.sub_eq_zero_of_le h]; simp
theorem ext_lt {l : List Tr} {k : Nat} (h : l.length < k) : ext (l ++ [t0]) k = ext l k := by
  unfold ext
  rw [List.length_append, List.length_singleton, List.append_assoc]
  congr 1
  rw [show k - l.length = (k - (l.length + 1)) + 1 by omega, List.replicate_succ]; rfl
theorem extA_snoc (l : List Tr) (d : List Nd) (x : Nd) : extA l (d ++ [x]) = ext (extA l d) (endN x) := by unfold extA; rw [List.foldl_append]; rfl
theorem ndsK_take {l : List Nd} {k : Nat} {x : Nd} (h : l[k]? = some x) : ndsK (l.take (k + 1)) = if okN x = true then ndsK (l.take k) ++ [hdN x] else ndsK (l.take k) := by
  obtain ⟨h1, h2⟩ := List.getElem?_eq_some_iff.1 h
  unfold ndsK
  rw [List.take_succ_eq_append_getElem h1, h2, List.filter_append, List.map_append]
  by_cases hx : okN x = true
  · simp [hx]
  · simp [hx]
theorem ndsK_mem {l : List Nd} {x : Nd} (h : x ∈ ndsK l) : 1 ≤ x.fr ∧ x.fr ≤ 200 ∧ 1 ≤ x.sp ∧ x.sp ≤ 20 ∧ -16777216 ≤ x.sz ∧ x.sz ≤ 16777216 := by
  unfold ndsK at h
  obtain ⟨y, hy, rfl⟩ := List.mem_map.1 h
  rw [List.mem_filter] at hy
  have h1 := of_decide_eq_true hy.2
  have h2 := hld_bd y.sz
  exact ⟨h1.1, h1.2.1, h1.2.2.1, h1.2.2.2, h2.1, h2.2⟩
theorem ndsK_len (l : List Nd) : (ndsK l).length ≤ l.length := by
  unfold ndsK
  rw [List.length_map]
  exact List.length_filter_le _ _
theorem extA_len {l : List Tr} (hl : l.length ≤ 20) : ∀ (d : List Nd), (∀ x ∈ d, 1 ≤ x.fr ∧ x.fr ≤ 200 ∧ 1 ≤ x.sp ∧ x.sp ≤ 20) → (extA l d).length ≤ 219 ∧ ∀ x ∈ d, endN x ≤ (extA l d).length := by
  have key : ∀ (d : List Nd) (l : List Tr), l.length ≤ 219 → (∀ x ∈ d, 1 ≤ x.fr ∧ x.fr ≤ 200 ∧ 1 ≤ x.sp ∧ x.sp ≤ 20) → l.length ≤ (extA l d).length ∧ (extA l d).length ≤ 219 ∧ ∀ x ∈ d, endN x ≤ (extA l d).length := by
    intro d
    induction d with
    | nil => intro l hl _; exact ⟨Nat.le_refl _, hl, by simp⟩
    | cons a d ih =>
      intro l hl hd
      have ha := hd a (by simp)
      have he : endN a ≤ 219 := by unfold endN; omega
      have h1 := ext_len l (endN a)
      obtain ⟨i1, i2, i3⟩ := ih (ext l (endN a)) (by omega) (fun x hx => hd x (by simp [hx]))
      have e : extA l (a :: d) = extA (ext l (endN a)) d := rfl
      rw [e]
      refine ⟨by omega, i2, fun x hx => ?_⟩
      rcases List.mem_cons.1 hx with rfl | hx
      · omega
      · exact i3 x hx
  intro d hd
  exact ⟨(key d l (by omega) hd).2.1, (key d l (by omega) hd).2.2⟩
/-- the kind that counts -/
def kdT (room : Int) (k : Int) : Int := if k < 0 ∨ 3 < k ∨ (room < 0 ∧ 1 < k) then 0 else k
def hdT (room : Int) (x : Tr) : Tr := ⟨kdT room x.k, x.n⟩
theorem kdT_bd (room k : Int) : 0 ≤ kdT room k ∧ kdT room k ≤ 3 ∧ (room < 0 → kdT room k ≤ 1) := by unfold kdT; split <;> omega
/-- what a track has of itself -/
def ownT (room : Int) (x : Tr) : Int := if x.k = 1 then max 0 (hld x.n) else if x.k = 2 then room * fac x.n / 100000 else 0
def facT (x : Tr) : Int := if x.k = 3 then fac x.n else 0
theorem facT_bd (x : Tr) : 0 ≤ facT x ∧ facT x ≤ 1000000000 := by have := fac_bd x.n; unfold facT; split <;> omega
theorem ownT_bd {room : Int} (hr : -16777216 ≤ room ∧ room ≤ 16777216) (x : Tr) (hk : room < 0 → x.k ≤ 1) : 0 ≤ ownT room x ∧ ownT room x ≤ 167772160000 := by
  have h1 := hld_bd x.n; have h2 := fac_bd x.n
  unfold ownT
  split
  · omega
  · split
    · have hr0 : 0 ≤ room := by
        rcases Int.lt_or_le room 0 with h | h
        · have := hk h; omega
        · exact h
      have a := Int.mul_nonneg hr0 h2.1
      have b := Int.mul_le_mul hr.2 h2.2 h2.1 (by omega : (0 : Int) ≤ 16777216)
      omega
    · omega
/-- open tracks of a stretch -/
def opT (l : List Tr) (p k : Nat) : List Nat := ((List.range k).map (p + ·)).filter fun i => decide ((trA l i).k = 0)
theorem opT_succ (l : List Tr) (p k : Nat) : opT l p (k + 1) = if (trA l (p + k)).k = 0 then opT l p k ++ [p + k] else opT l p k := by
  unfold opT
  rw [List.range_succ, List.map_append, List.filter_append]
  by_cases h : (trA l (p + k)).k = 0 <;> simp [h]
theorem opT_mem {l : List Tr} {p k i : Nat} (h : i ∈ opT l p k) : p ≤ i ∧ i < p + k ∧ (trA l i).k = 0 := by
  unfold opT at h
  rw [List.mem_filter, List.mem_map] at h
  obtain ⟨⟨j, hj, rfl⟩, h2⟩ := h
  have := List.mem_range.1 hj
  exact ⟨by omega, by omega, of_decide_eq_true h2⟩
theorem opT_len (l : List Tr) (p k : Nat) : (opT l p k).length ≤ k := by
  unfold opT
  have := List.length_filter_le (fun i => decide ((trA l i).k = 0)) ((List.range k).map (p + ·))
  simpa using this
/-- is a track of one's own share among them? -/
def any3 (l : List Tr) (p : Nat) : Nat → Bool
  | 0 => false
  | k + 1 => any3 l p k || decide ((trA l (p + k)).k = 3)
def sumO (out : List Int) (p k : Nat) : Int := sumTo (fun i => szA out (p + i)) k
/-- what the k-th of m gets of something -/
def prt (miss : Int) (m k : Nat) : Int := (miss * ((k : Int) + 1)).tdiv m - (miss * (k : Int)).tdiv m
/-- the first k of them have theirs -/
def addT (l : List Tr) (out : List Int) (p sp : Nat) (miss : Int) : Nat → List Int
  | 0 => out
  | k + 1 => (addT l out p sp miss k).set ((opT l p sp).getD k 0) (szA (addT l out p sp miss k) ((opT l p sp).getD k 0) + prt miss (opT l p sp).length k)
def fillT (l : List Tr) (gap : Int) (out : List Int) (x : Nd) : List Int :=
  if any3 l (x.fr - 1).toNat x.sp.toNat = true then out
  else if x.sz - gap * (x.sp - 1) - sumO out (x.fr - 1).toNat x.sp.toNat ≤ 0 then out
  else addT l out (x.fr - 1).toNat x.sp.toNat (x.sz - gap * (x.sp - 1) - sumO out (x.fr - 1).toNat x.sp.toNat) (opT l (x.fr - 1).toNat x.sp.toNat).length
theorem addT_len (l : List Tr) (out : List Int) (p sp : Nat) (miss : Int) (k : Nat) : (addT l out p sp miss k).length = out.length := by
  induction k with
  | zero => rfl
  | succ k ih => simp [addT, ih]
theorem fillT_len (l : List Tr) (gap : Int) (out : List Int) (x : Nd) : (fillT l gap out x).length = out.length := by
  unfold fillT
  split
  · rfl
  · split
    · rfl
    · exact addT_len _ _ _ _ _ _
end Go.Cas
