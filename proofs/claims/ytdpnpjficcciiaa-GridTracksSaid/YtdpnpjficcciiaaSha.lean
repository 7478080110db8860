/- plain (no program): rows of items that share a room -/
import Derived.Test.Ytdpnpjficcciiaamem
namespace Go.Cas
set_option linter.unusedVariables false
set_option linter.unusedSimpArgs false
open Go.RowKit

/-- a length within bounds; a factor -/
def hld (n : Int) : Int := max (-16777216) (min n 16777216)
def fac (n : Int) : Int := max 0 (min n 1000000000)
theorem hld_bd (n : Int) : -16777216 ≤ hld n ∧ hld n ≤ 16777216 := by unfold hld; omega
theorem fac_bd (n : Int) : 0 ≤ fac n ∧ fac n ≤ 1000000000 := by unfold fac; omega
structure FI where
  b : Int
  mn : Int
  mx : Int
  ar : Int
  g : Int
  s : Int
def fi (x : FI) : List Value := [.int .i64 x.b, .int .i64 x.mn, .int .i64 x.mx, .int .i64 x.ar, .int .i64 x.g, .int .i64 x.s]
def hdI (x : FI) : FI := ⟨max 0 (hld x.b), max 0 (hld x.mn), hld x.mx, hld x.ar, fac x.g, fac x.s⟩
/-- an item within bounds -/
structure FB (x : FI) : Prop where
  b : 0 ≤ x.b ∧ x.b ≤ 16777216
  mn : 0 ≤ x.mn ∧ x.mn ≤ 16777216
  mx : -16777216 ≤ x.mx ∧ x.mx ≤ 16777216
  ar : -16777216 ≤ x.ar ∧ x.ar ≤ 16777216
  g : 0 ≤ x.g ∧ x.g ≤ 1000000000
  s : 0 ≤ x.s ∧ x.s ≤ 1000000000
theorem hdI_fb (x : FI) : FB (hdI x) := by
  have h1 := hld_bd x.b; have h2 := hld_bd x.mn; have h3 := hld_bd x.mx; have h4 := hld_bd x.ar; have h5 := fac_bd x.g; have h6 := fac_bd x.s
  constructor <;> simp only [hdI] <;> omega
def bnd (x : FI) (n : Int) : Int := max (if 0 ≤ x.mx then min n x.mx else n) x.mn
def wantI (x : FI) : Int := bnd x x.b + x.ar
def fcI (gr : Bool) (x : FI) : Int := if gr = true then x.g else x.s
def wtI (gr : Bool) (x : FI) : Int := if gr = true then x.g else x.s * x.b
theorem bnd_bd {x : FI} (h : FB x) (n : Int) : 0 ≤ bnd x n ∧ bnd x n ≤ max n 16777216 := by
  obtain ⟨h1, h2, h3, h4, h5, h6⟩ := h
  unfold bnd; split <;> omega
theorem bnd_up {x : FI} (h : FB x) {n : Int} (hn : n < bnd x n) : bnd x n ≤ 16777216 := by
  obtain ⟨h1, h2, h3, h4, h5, h6⟩ := h
  unfold bnd at *; split at hn <;> simp_all <;> omega
theorem bnd_down {x : FI} (h : FB x) {n : Int} (hn : bnd x n < n) : bnd x n ≤ 16777216 := by
  obtain ⟨h1, h2, h3, h4, h5, h6⟩ := h
  unfold bnd at *; split at hn <;> simp_all <;> omega
theorem fcI_bd {x : FI} (h : FB x) (gr : Bool) : 0 ≤ fcI gr x ∧ fcI gr x ≤ 1000000000 := by
  obtain ⟨h1, h2, h3, h4, h5, h6⟩ := h
  unfold fcI; split <;> omega
theorem wtI_bd {x : FI} (h : FB x) (gr : Bool) : 0 ≤ wtI gr x ∧ wtI gr x ≤ 16777216000000000 := by
  obtain ⟨h1, h2, h3, h4, h5, h6⟩ := h
  unfold wtI
  split
  · omega
  · have a := Int.mul_nonneg h6.1 h1.1
    have b := Int.mul_le_mul h6.2 h1.2 h1.1 (by omega : (0 : Int) ≤ 1000000000)
    omega
/-- sums of the first k -/
def sumTo (f : Nat → Int) : Nat → Int
  | 0 => 0
  | k + 1 => sumTo f k + f k
theorem sumTo_bd {f : Nat → Int} {lo hi : Int} {n : Nat} (hf : ∀ i, i < n → lo ≤ f i ∧ f i ≤ hi) : ∀ k, k ≤ n → lo * k ≤ sumTo f k ∧ sumTo f k ≤ hi * k := by
  intro k
  induction k with
  | zero => intro _; simp [sumTo]
  | succ k ih =>
    intro hk
    have h1 := ih (by omega)
    have h2 := hf k (by omega)
    have e1 : lo * ((k + 1 : Nat) : Int) = lo * k + lo := by rw [Int.natCast_succ, Int.mul_add, Int.mul_one]
    have e2 : hi * ((k + 1 : Nat) : Int) = hi * k + hi := by rw [Int.natCast_succ, Int.mul_add, Int.mul_one]
    rw [e1, e2]
    simp only [sumTo]
    omega
theorem sumTo_mono {f : Nat → Int} {n : Nat} (hf : ∀ i, i < n → 0 ≤ f i) : ∀ k m, k ≤ m → m ≤ n → sumTo f k ≤ sumTo f m := by
  intro k m hkm
  induction m with
  | zero => intro _; obtain rfl : k = 0 := by omega
            exact Int.le_refl _
  | succ m ih =>
    intro hm
    rcases Nat.lt_or_ge m k with h | h
    · obtain rfl : k = m + 1 := by omega
      exact Int.le_refl _
    · have := ih h (by omega)
      have := hf m (by omega)
      simp only [sumTo]
      omega
theorem sumTo_congr {f g : Nat → Int} {n : Nat} (h : ∀ i, i < n → f i = g i) : sumTo f n = sumTo g n := by
  induction n with
  | zero => rfl
  | succ n ih => simp only [sumTo]; rw [ih (fun i hi => h i (by omega)), h n (by omega)]
def z0 : FI := ⟨0, 0, 0, 0, 0, 0⟩
def itA (L : List FI) (i : Nat) : FI := L.getD i z0
theorem itA_eq {L : List FI} {i : Nat} {x : FI} (h : L[i]? = some x) : itA L i = x := by unfold itA; rw [List.getD_eq_getElem?_getD, h]; rfl
theorem itA_fb {L : List FI} (h : ∀ x ∈ L, FB x) (i : Nat) : FB (itA L i) := by
  unfold itA
  rw [List.getD_eq_getElem?_getD]
  rcases hx : L[i]? with _ | x
  · constructor <;> simp [z0]
  · exact h x (List.mem_of_getElem? hx)
def stA (st : List Bool) (i : Nat) : Bool := st.getD i false
def szA (sz : List Int) (i : Nat) : Int := sz.getD i 0
theorem stA_eq {st : List Bool} {i : Nat} {b : Bool} (h : st[i]? = some b) : stA st i = b := by unfold stA; rw [List.getD_eq_getElem?_getD, h]; rfl
theorem szA_eq {sz : List Int} {i : Nat} {b : Int} (h : sz[i]? = some b) : szA sz i = b := by unfold szA; rw [List.getD_eq_getElem?_getD, h]; rfl
/-- what there is to share -/
def valI (L : List FI) (sz : List Int) (st : List Bool) (i : Nat) : Int := if stA st i = true then szA sz i else (itA L i).b
def freeF (L : List FI) (sz : List Int) (st : List Bool) (room : Int) (k : Nat) : Int := room - sumTo (valI L sz st) k
/-- who is open -/
def opn (st : List Bool) (k : Nat) : List Nat := (List.range k).filter fun i => !stA st i
theorem opn_succ (st : List Bool) (k : Nat) : opn st (k + 1) = if stA st k = true then opn st k else opn st k ++ [k] := by
  unfold opn
  rw [List.range_succ, List.filter_append]
  cases h : stA st k <;> simp [h]
theorem opn_len (st : List Bool) (k : Nat) : (opn st k).length ≤ k := by
  unfold opn
  have := List.length_filter_le (fun i => !stA st i) (List.range k)
  simpa using this
theorem opn_lt {st : List Bool} {k i : Nat} (h : i ∈ opn st k) : i < k ∧ stA st i = false := by
  unfold opn at h
  rw [List.mem_filter] at h
  simpa using h
def bys (gr : Bool) (L : List FI) (st : List Bool) (k : Nat) : List Int := (opn st k).map fun i => wtI gr (itA L i)
def facs (gr : Bool) (L : List FI) (st : List Bool) (k : Nat) : Int := sumTo (fun i => if stA st i = true then 0 else fcI gr (itA L i)) k
/-- what is shared -/
def aF (start free fc : Int) : Int := if fc < 1000 ∧ max ((start * fc).tdiv 1000) (-((start * fc).tdiv 1000)) < max free (-free) then (start * fc).tdiv 1000 else free
def preF (l : List Int) (j : Nat) : Int := sumTo (szA l) j
def shrD (a : Int) (l : List Int) (j : Nat) : Int := if preF l l.length = 0 then 0 else a * preF l (j + 1) / preF l l.length - a * preF l j / preF l l.length
theorem floor_bd {a p W : Int} (hp : 0 ≤ p) (hpW : p ≤ W) (hW : 0 < W) : min a 0 ≤ a * p / W ∧ a * p / W ≤ max a 0 := by
  constructor
  · apply Int.le_ediv_of_mul_le hW
    rcases Int.le_total 0 a with h | h
    · rw [Int.min_eq_right h, Int.zero_mul]; exact Int.mul_nonneg h hp
    · rw [Int.min_eq_left h]; exact Int.mul_le_mul_of_nonpos_left h hpW
  · apply Int.ediv_le_of_le_mul hW
    rcases Int.le_total 0 a with h | h
    · rw [Int.max_eq_left h]; exact Int.mul_le_mul_of_nonneg_left hpW h
    · rw [Int.max_eq_right h, Int.zero_mul]; exact Int.mul_nonpos_of_nonpos_of_nonneg h hp
theorem preF_bd {l : List Int} (hl : ∀ x ∈ l, 0 ≤ x) {j : Nat} (hj : j ≤ l.length) : 0 ≤ preF l j ∧ preF l j ≤ preF l l.length := by
  have h : ∀ i, i < l.length → 0 ≤ szA l i := fun i hi => by
    rw [szA_eq (List.getElem?_eq_getElem hi)]; exact hl _ (List.getElem_mem hi)
  exact ⟨sumTo_mono h 0 j (by omega) hj, sumTo_mono h j l.length hj (Nat.le_refl _)⟩
theorem shrD_bd {a : Int} {l : List Int} (hl : ∀ x ∈ l, 0 ≤ x) {j : Nat} (hj : j < l.length) : -(max a (-a)) ≤ shrD a l j ∧ shrD a l j ≤ max a (-a) := by
  unfold shrD
  split
  · omega
  · have h1 := preF_bd hl (j := j) (by omega)
    have h2 := preF_bd hl (j := j + 1) (by omega)
    have f1 := floor_bd (a := a) h1.1 h1.2 (by omega)
    have f2 := floor_bd (a := a) h2.1 h2.2 (by omega)
    omega
end Go.Cas
