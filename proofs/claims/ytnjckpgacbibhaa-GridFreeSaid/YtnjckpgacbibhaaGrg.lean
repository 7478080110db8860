/- the grid: the reference's PlaceCells -/
import Derived.Test.YtnjckpgacbibhaaGrf
import Derived.Deep.DeepCutAuto
namespace Go.Proofs.Ytnjckpgacbibhaa
set_option linter.unusedVariables false
set_option linter.unusedSimpArgs false
open Go.RowKit Go.Cas

/-- a cell as it comes in -/
structure CIn where
  c : Int
  p : Int
  r : Int
  q : Int
def cin (x : CIn) : List Value := [.int .i64 x.c, .int .i64 x.p, .int .i64 x.r, .int .i64 x.q]
def cins (L : List CIn) : List Value := L.flatMap cin
theorem cins_get (L : List CIn) (k j : Nat) (f : CIn) (h : L[k]? = some f) (hj : j < 4) : (cins L)[k * 4 + j]? = (cin f)[j]? := by
  unfold cins
  induction L generalizing k with
  | nil => simp at h
  | cons g L ih =>
    rw [List.flatMap_cons]
    cases k with
    | zero => simp at h; subst h; rw [Nat.zero_mul, Nat.zero_add, List.getElem?_append_left (by simpa [cin] using hj)]
    | succ k =>
      simp at h
      rw [List.getElem?_append_right (by simp [cin]; omega), ← ih k h]
      congr 1; simp [cin]; omega
theorem cins_len (L : List CIn) : (cins L).length = L.length * 4 := by
  unfold cins
  induction L with
  | nil => rfl
  | cons f L ih => rw [List.flatMap_cons, List.length_append, ih]; simp [cin]; omega
def spanN (n : Int) : Nat := (max 1 (min n 20)).toNat
theorem spanN_eq (n : Int) : ((spanN n : Nat) : Int) = max 1 (min n 20) := by unfold spanN; omega
theorem spanN_bd (n : Int) : 1 ≤ spanN n ∧ spanN n ≤ 20 := by unfold spanN; omega
def atI (n : Int) : Int := max 0 (min n 200)
def hIt (x : CIn) : Itm := ⟨atI x.c, spanN x.p, atI x.r, spanN x.q⟩
def colS (C : Int) (x : Itm) : Int := if 0 < x.c then max (max C x.p) (x.c + x.p - 1) else max C x.p
def colF (C : Int) (L : List Itm) : Int := L.foldl colS C
theorem colF_take (C : Int) (L : List Itm) (k : Nat) (x : Itm) (h : L[k]? = some x) : colF C (L.take (k + 1)) = colS (colF C (L.take k)) x := by
  obtain ⟨h1, h2⟩ := List.getElem?_eq_some_iff.1 h
  rw [List.take_succ_eq_append_getElem h1, h2]
  simp [colF]
theorem colF_bd (C : Int) (hC : 1 ≤ C ∧ C ≤ 20) (L : List CIn) (k : Nat) : 1 ≤ colF C ((L.map hIt).take k) ∧ colF C ((L.map hIt).take k) ≤ 220 := by
  have : ∀ (M : List CIn) (C : Int), 1 ≤ C → C ≤ 220 → 1 ≤ colF C (M.map hIt) ∧ colF C (M.map hIt) ≤ 220 := by
    intro M
    induction M with
    | nil => intro C h1 h2; exact ⟨h1, h2⟩
    | cons x M ih =>
      intro C h1 h2
      have hs := spanN_bd x.p
      have ha : 0 ≤ atI x.c ∧ atI x.c ≤ 200 := by unfold atI; omega
      refine ih _ ?_ ?_
      · unfold colS hIt; split <;> (simp only; omega)
      · unfold colS hIt; split <;> (simp only at *; omega)
  rw [← List.map_take]
  exact this _ C hC.1 (by omega)
theorem ics_snoc (L : List Itm) (x : Itm) : ics (L ++ [x]) = ics L ++ ic x := by simp [ics]
theorem inf_CellR : (Try.prog.info? 100).map (fun i => (i.zero, i.size, i.bytes)) = some (some (.agg #[.int .i64 0, .int .i64 0, .int .i64 0, .int .i64 0]), 4, 32) := by kernel_rfl
theorem inf_bool : (Try.prog.info? 4).map (fun i => (i.zero, i.size, i.bytes)) = some (some (.bool false), 1, 1) := by kernel_rfl
theorem make_B (w : World) (n : Nat) (hn : n ≤ 1000000) : ∃ w1, (Instr.makeSlice 121 (.int .i64 (n : Int)) (.int .i64 (n : Int))).run Try.prog w = .ok (.slice (some ⟨w.heap.size, 0, none⟩) n n) w1 ∧ Hid (w1 = w.alloc (.cells (rowV n (fun _ => .bool false)) 4)) := by
  obtain ⟨i, hi, hz, h3, h4⟩ := info_parts inf_bool
  have h := run_make (P := Try.prog) w 121 4 i (.bool false) Try.underlying121 hi hz .i64 .i64 n n (by omega) (Int.le_refl _) (by rw [h4]; omega) (by omega)
  simp only [Int.toNat_natCast] at h
  rw [h3, made_row _ rfl] at h
  exact ⟨_, h, rfl⟩
/-- who stands at first -/
def stB (x : Itm) : Bool := decide (0 < x.c ∧ 0 < x.r)
def rowsF (L : List Itm) : Int := L.foldl (fun a x => max a (x.r + x.q - 1)) 0
/-- what placing leaves -/
def PlRet (w : World) (n : Nat) (L : List Itm) (C : Int) (e : Ending) (w' : World) : Prop := ∃ u, e = .returned (.tuple #[u, .int .i64 C, .int .i64 (rowsF L)]) ∧ RdS w' w'.heap.size 4 u n (ics L) ∧ Below w.heap.size w w'
theorem ics_setC (L : List Itm) (q : Nat) (x : Itm) (c : Int) (h : L[q]? = some x) : (ics L).set (q * 4) (.int .i64 c) = ics (L.set q ⟨c, x.p, x.r, x.q⟩) := by
  unfold ics
  induction L generalizing q with
  | nil => simp at h
  | cons y L ih =>
    cases q with
    | zero => simp at h; subst h; rw [Nat.zero_mul, List.set_cons_zero, List.flatMap_cons, List.flatMap_cons]; rfl
    | succ q =>
      simp at h
      rw [List.set_cons_succ, List.flatMap_cons, List.flatMap_cons, ← ih q h]
      have e : (q + 1) * 4 = (ic y).length + q * 4 := by simp [ic]; omega
      rw [e, List.set_append]
      rw [if_neg (by omega)]
      congr 2
      omega
theorem rds_bkS {w : World} {g n : Nat} {S : List Bool} (h : Bk w g 4 (S.map Value.bool).toArray) (hn : S.length = n) : RdS w w.heap.size 1 (.slice (some ⟨g, 0, none⟩) n n) n (S.map Value.bool) :=
  ⟨by simp [hn], _, _, rfl, Nat.le_refl _, fun _ => ⟨g, 0, rfl, h.lt, fun j u hu => by rw [h.cell]; simpa using hu⟩⟩
theorem bks_set {w : World} {g q : Nat} {S : List Bool} (h : Bk w g 4 (S.map Value.bool).toArray) : Bk (w.setCell ⟨g, q, none⟩ (.bool true)) g 4 ((S.set q true).map Value.bool).toArray := by
  have := h.set_ q (.bool true)
  simpa [List.map_set] using this
theorem Srch.le {ok : Int → Prop} {c t M : Int} {n : Nat} (h : Srch ok c t n) (hM : ∀ c, M < c → ok c) (hc : c ≤ M + 1) : c ≤ t ∧ t ≤ M + 1 := by
  induction h with
  | here h => exact ⟨Int.le_refl _, hc⟩
  | @next c t n h1 h2 ih =>
    have : ¬ M < c := fun h => h1 (hM c h)
    have := ih (by omega)
    omega
theorem GG.ib {E : Int} {L : List Itm} {S : List Bool} {C : Int} (g : GG E L S C) (hE : E ≤ 100000) {q : Nat} {c r : Int} {x : Itm} (hx : L[q]? = some x) (h1 : 0 ≤ c ∧ c ≤ 200000) (h2 : 0 ≤ r ∧ r ≤ 200000) : ∀ f ∈ L.set q ⟨c, x.p, r, x.q⟩, IB f := by
  intro f hf
  have hb := g.each x (List.mem_of_getElem? hx)
  rcases List.mem_or_eq_of_mem_set hf with hf | hf
  · have := g.each f hf; unfold IB; omega
  · subst hf; unfold IB; simp only; omega
theorem own_cells {w : World} {B n cap g q : Nat} {e : TypeId} {L : List Itm} {x : Itm} (h : w.ownsRow B e 4 (.slice (some ⟨g, 0, none⟩) n cap) n (ics L)) (hx : L[q]? = some x) :
    w.cell? ⟨g, q * 4, none⟩ = some (.int .i64 x.c) ∧ w.cell? ⟨g, q * 4 + 1, none⟩ = some (.int .i64 x.p) ∧ w.cell? ⟨g, q * 4 + 2, none⟩ = some (.int .i64 x.r) ∧ w.cell? ⟨g, q * 4 + 3, none⟩ = some (.int .i64 x.q) := by
  have hl := h.1
  rw [ics_len] at hl
  have hq := (List.getElem?_eq_some_iff.1 hx).1
  have k := fun j (hj : j < 4) => (h.cellAt (q * 4 + j) (by omega)).trans (ics_get L q j x hx hj)
  exact ⟨k 0 (by omega), k 1 (by omega), k 2 (by omega), k 3 (by omega)⟩
theorem Srch.ge {ok : Int → Prop} {c t : Int} {n : Nat} (h : Srch ok c t n) : c ≤ t := by
  induction h with
  | here h => exact Int.le_refl _
  | next h1 h2 ih => omega
theorem Srch.hit {ok : Int → Prop} {c t : Int} {n : Nat} (h : Srch ok c t n) (ho : ok c) : t = c := by
  cases h with
  | here h => rfl
  | next h1 h2 => exact absurd ho h1
theorem Srch.miss {ok : Int → Prop} {c t : Int} {n : Nat} (h : Srch ok c t n) (ho : ¬ ok c) : ∃ m, m < n ∧ Srch ok (c + 1) t m := by
  cases h with
  | here h => exact absurd h ho
  | next h1 h2 => exact ⟨_, Nat.lt_succ_self _, h2⟩
theorem Srch2.le {ok : Int → Int → Prop} {C p r c tr tc M : Int} {k : Nat} (h : Srch2 ok C p r c tr tc k) (hM : ∀ r c, M < r → ok r c) (hp : p ≤ C) : tr ≤ max r (M + 1) + 1 := by
  induction h with
  | here h1 h2 => omega
  | next h1 h2 h3 ih => exact ih
  | @wrap r c tr tc n h1 h2 h3 ih =>
    by_cases hr : M < r
    · cases h3 with
      | here e1 e2 => omega
      | next e1 e2 e3 => exact absurd ⟨by omega, hM _ _ (by omega)⟩ e1
      | wrap e1 e2 e3 => exact absurd ⟨by omega, hM _ _ (by omega)⟩ e1
    · omega
theorem Srch2.tc1 {ok : Int → Int → Prop} {C p r c tr tc : Int} {k : Nat} (h : Srch2 ok C p r c tr tc k) (hc : 1 ≤ c) : 1 ≤ tc := by
  induction h with
  | here h1 h2 => exact hc
  | next h1 h2 h3 ih => exact ih (by omega)
  | wrap h1 h2 h3 ih => exact ih (by omega)
theorem ics_set4 (L : List Itm) (q : Nat) (x y : Itm) (h : L[q]? = some x) : ((((ics L).set (q * 4) (.int .i64 y.c)).set (q * 4 + 1) (.int .i64 y.p)).set (q * 4 + 2) (.int .i64 y.r)).set (q * 4 + 3) (.int .i64 y.q) = ics (L.set q y) := by
  unfold ics
  induction L generalizing q with
  | nil => simp at h
  | cons z L ih =>
    cases q with
    | zero => simp at h; subst h; rw [Nat.zero_mul, List.set_cons_zero, List.flatMap_cons, List.flatMap_cons]; rfl
    | succ q =>
      simp at h
      rw [List.set_cons_succ, List.flatMap_cons, List.flatMap_cons, ← ih q h]
      have e : ∀ (X : List Value) (j : Nat) (u : Value), (ic z ++ X).set ((q + 1) * 4 + j) u = ic z ++ X.set (q * 4 + j) u := fun X j u => by
        rw [List.set_append, if_neg (by simp [ic]; omega)]
        congr 2
        simp [ic]; omega
      have e0 := e (List.flatMap ic L) 0 (.int .i64 y.c)
      simp only [Nat.add_zero] at e0
      rw [e0, e, e, e]
theorem colF_ge (C : Int) (L : List Itm) : C ≤ colF C L ∧ ∀ x ∈ L, (x.p : Int) ≤ colF C L := by
  unfold colF
  induction L generalizing C with
  | nil => simp
  | cons y L ih =>
    have h := ih (colS C y)
    have h1 : max C (y.p : Int) ≤ colS C y := by unfold colS; split <;> omega
    simp only [List.foldl_cons]
    refine ⟨by omega, fun x hx => ?_⟩
    rcases List.mem_cons.1 hx with e | hx
    · subst e; omega
    · exact h.2 x hx
theorem rowsF_take (L : List Itm) (k : Nat) (x : Itm) (h : L[k]? = some x) : rowsF (L.take (k + 1)) = max (rowsF (L.take k)) (x.r + x.q - 1) := by
  obtain ⟨h1, h2⟩ := List.getElem?_eq_some_iff.1 h
  rw [List.take_succ_eq_append_getElem h1, h2]
  simp [rowsF]
theorem own_put4 {w : World} {B n cap g q : Nat} {e : TypeId} {L : List Itm} {x : Itm} (h : w.ownsRow B e 4 (.slice (some ⟨g, 0, none⟩) n cap) n (ics L)) (hx : L[q]? = some x) (y : Itm) :
    ((((w.setCell ⟨g, q * 4, none⟩ (.int .i64 y.c)).setCell ⟨g, q * 4 + 1, none⟩ (.int .i64 y.p)).setCell ⟨g, q * 4 + 2, none⟩ (.int .i64 y.r)).setCell ⟨g, q * 4 + 3, none⟩ (.int .i64 y.q)).ownsRow B e 4 (.slice (some ⟨g, 0, none⟩) n cap) n (ics (L.set q y)) := by
  have h1 := (h.stored (q * 4) (.int .i64 y.c)).1
  have h2 := (h1.stored (q * 4 + 1) (.int .i64 y.p)).1
  have h3 := (h2.stored (q * 4 + 2) (.int .i64 y.r)).1
  have h4 := (h3.stored (q * 4 + 3) (.int .i64 y.q)).1
  rw [ics_set4 L q x y hx] at h4
  exact h4
theorem Run4.split {C : Int} {i : Nat} {L L' : List Itm} {S : List Bool} {row col : Int} (h : Run4 C i L S row col L') (hi : i < L.length) :
    (∃ x, L[i]? = some x ∧ S[i]? = some true ∧ Run4 C (i + 1) L S row col L') ∨
    ∃ x tr tc, L[i]? = some x ∧ S[i]? = some false ∧ Run4 C (i + 1) (L.set i ⟨tc, x.p, tr, x.q⟩) (S.set i true) tr tc L' ∧
      ((0 < x.c ∧ tc = x.c ∧ ∃ k, Srch (fun r => FreeP L S ⟨x.c, x.p, r, x.q⟩) (if x.c < col then row + 1 else row) tr k) ∨
       (¬ 0 < x.c ∧ ∃ k, Srch2 (fun r c => FreeP L S ⟨c, x.p, r, x.q⟩) C x.p row col tr tc k)) := by
  cases h with
  | done h => omega
  | @skip _ _ _ _ _ _ x hx hb hn => exact .inl ⟨x, hx, hb, hn⟩
  | @given _ _ _ _ _ _ x t k hx hb hc hs hn => exact .inr ⟨x, t, x.c, hx, hb, hn, .inl ⟨hc, rfl, k, hs⟩⟩
  | @found _ _ _ _ _ _ x tr tc k hx hb hc hs hn => exact .inr ⟨x, tr, tc, hx, hb, hn, .inr ⟨hc, k, hs⟩⟩
theorem Run4.fin {C : Int} {i : Nat} {L L' : List Itm} {S : List Bool} {row col : Int} (h : Run4 C i L S row col L') (hi : L.length ≤ i) : L' = L := by
  cases h with
  | done h => rfl
  | skip hx hb hn => have := (List.getElem?_eq_some_iff.1 hx).1; omega
  | given hx hb hc hs hn => have := (List.getElem?_eq_some_iff.1 hx).1; omega
  | found hx hb hc hs hn => have := (List.getElem?_eq_some_iff.1 hx).1; omega
/-- what the next one gets lies within bounds -/
theorem Run4.next {C E : Int} {i : Nat} {L : List Itm} {S : List Bool} {row col tr tc : Int} {x : Itm} (g : GG E L S C) (hx : L[i]? = some x) (hr : 1 ≤ row ∧ row ≤ E + 1) (hc : 1 ≤ col ∧ col ≤ E + 1)
    (h : (0 < x.c ∧ tc = x.c ∧ ∃ k, Srch (fun r => FreeP L S ⟨x.c, x.p, r, x.q⟩) (if x.c < col then row + 1 else row) tr k) ∨
       (¬ 0 < x.c ∧ ∃ k, Srch2 (fun r c => FreeP L S ⟨c, x.p, r, x.q⟩) C x.p row col tr tc k)) :
    1 ≤ tr ∧ tr ≤ E + 3 ∧ 1 ≤ tc ∧ tc ≤ E + 1 ∧ GG (E + 30) (L.set i ⟨tc, x.p, tr, x.q⟩) (S.set i true) C := by
  have hp := g.pos; have hC := g.cols
  have hxb := g.each x (List.mem_of_getElem? hx)
  have b : 1 ≤ tr ∧ tr ≤ E + 3 ∧ 1 ≤ tc ∧ tc + x.p ≤ E + 2 := by
    rcases h with ⟨h1, rfl, k, hs⟩ | ⟨h1, k, hs⟩
    · have := hs.le (M := E + 1) (fun c hc => g.farR (by omega)) (by split <;> omega)
      split at this <;> omega
    · have h2 := hs.le (M := E) (fun r c hr => g.farR hr) hxb.2.2.2.2.2.2.2.2
      have h3 := hs.bd; have h4 := hs.tc1 hc.1
      omega
  exact ⟨b.1, by omega, b.2.2.1, by omega, g.set_ (E' := E + 30) (C' := C) hx (by omega) (by omega) (by omega) (by omega) (by omega) (Int.le_refl _) (by omega)⟩
theorem own_far {w : World} {B n m cap g R size : Nat} {e : TypeId} {xs : List Value} (h : w.ownsRow B e size (.slice (some ⟨g, 0, none⟩) n cap) m xs) (hR : R ≠ g) (o : Nat) (u : Value) : (w.setCell ⟨R, o, none⟩ u).ownsRow B e size (.slice (some ⟨g, 0, none⟩) n cap) m xs :=
  (Kept.set_ (ex := fun a => a = R) (Kept.refl _ _) R o (fun _ => rfl) u).own h (fun a ha e => by
    have e3 : g = a := by simpa [Value.ownBlock] using ha
    exact hR (e3.trans e).symm)
theorem btw_at (n : Int) : min (max n 0) 200 = atI n := by unfold atI; omega
theorem btw_span (n : Int) : min (max n 1) 20 = ((spanN n : Nat) : Int) := by rw [spanN_eq]; omega
def colB (n : Int) : Int := max 1 (min n 20)
theorem btw_col (n : Int) : max (min (max n 0) 20) 1 = colB n := by unfold colB; omega

set_option maxRecDepth 100000 in
set_option maxHeartbeats 16000000 in
theorem c_PlaceR (v : Value) (n lim : Nat) (I : List CIn) (cols : Int) (w : World) (hr : RdS w lim 4 v n (cins I)) (hlim : lim ≤ w.heap.size) (hn : n ≤ 60) (hn0 : 0 < n) (L0 L3 L4 : List Itm) (S3 : List Bool) (C3 : Int) (hL0 : L0 = I.map hIt) (h3 : Run3 0 L0 (L0.map stB) (colF (colB cols) L0) L3 S3 C3) (h4 : Run4 C3 0 L3 S3 1 1 L4) : Calls Try.prog 53 #[v, .int .i64 cols] w (PlRet w n L4 C3) := by
  obtain ⟨hl, A, c, rfl, hnc, hcell⟩ := hr
  have e1 : I.length = n := by rw [cins_len] at hl; omega
  have HC := Lib.hid hcell
  have HN := Lib.hid e1
  have HL0 := Lib.hid hL0
  have HR3 := Lib.hid h3
  have HR4 := Lib.hid h4
  have HCB : Hid (∀ k, 1 ≤ colF (colB cols) (L0.take k) ∧ colF (colB cols) (L0.take k) ≤ 220) := fun k => by rw [hL0]; exact colF_bd _ (by unfold colB; omega) I k
  have HB := Lib.hid (Below.refl w.heap.size w)
  obtain ⟨B, hB⟩ : ∃ B, B = w.heap.size := ⟨_, rfl⟩
  have HBE := Lib.hid hB
  rw [← hB] at HB
  have f1 := btw_at; have f2 := btw_span; have f3 := btw_col
  clear hcell hl e1 hL0 hB h3 h4
  go_enter Try.func53, Try.ntmps53
  go_wp2_with (first | (go_at_call 84; refine (c_between _ _ _ _).mono ?_; rintro e w' ⟨rfl, rfl⟩) | (go_at_call 71; refine (c_most4 _ _ _).mono ?_; rintro e w' ⟨rfl, rfl⟩; rw [f3]))
  go_loopw [1, 7, 8] (fun co l i wr => ∃ (k : Nat) (C : Int), k ≤ n ∧ i = .int .i64 k ∧ co = .int .i64 C ∧ Hid (C = colF (colB cols) (L0.take k)) ∧ Hid (wr.ownsRow B 100 4 l k (ics (L0.take k))) ∧ Hid (Below B w wr) ∧ Hid (B ≤ wr.heap.size)) (fun _ _ i _ => n - (intOf i).toNat)
  case atStart => exact ⟨0, _, by omega, rfl, rfl, by simp [Hid, colF], World.ownsRow_nil _ _ _ _, HB.out, by rw [HBE.out]; exact Nat.le_refl _⟩
  case round =>
    obtain ⟨k, C, hk, rfl, rfl, HCc, HO, HBL, HZ⟩ := hrel
    have hcb := HCB.out k
    rw [← HCc.out] at hcb
    by_cases hlt : k < n
    · have hik : (k : Int) < (n : Int) := by omega
      have hik2 : (k : Int) < 200 := by omega
      have hkL : k < I.length := by rw [HN.out]; exact hlt
      obtain ⟨g, o, rfl, hg, hc⟩ := HC.out (by omega)
      obtain ⟨x, hx⟩ : ∃ x, I[k]? = some x := ⟨_, List.getElem?_eq_getElem hkL⟩
      have hgB : g < B := by rw [HBE.out]; omega
      have h4 : ∀ j, j < 4 → ∀ u, (cin x)[j]? = some u → wr.cell? ⟨g, o + k * 4 + j, none⟩ = some u := fun j hj u hu => by
        have := hc (k * 4 + j) u (by rw [cins_get I k j x hx hj]; exact hu)
        rw [← Nat.add_assoc] at this
        exact (HBL.out.cell (p := ⟨g, _, none⟩) hgB).trans this
      have d0 := h4 0 (by omega) _ rfl; have d1 := h4 1 (by omega) _ rfl; have d2 := h4 2 (by omega) _ rfl; have d3 := h4 3 (by omega) _ rfl
      have HX : Hid (L0[k]? = some (hIt x)) := by rw [HL0.out, List.getElem?_map, hx]; rfl
      clear h4 hc hx
      obtain ⟨xc, xp, xr, xq⟩ := x
      simp only [Nat.add_zero] at d0 d1 d2 d3
      obtain ⟨R, hR⟩ : ∃ R, R = wr.heap.size := ⟨_, rfl⟩
      have HK : Hid (Bk (wr.alloc (.cells #[.int .i64 xc, .int .i64 xp, .int .i64 xr, .int .i64 xq] 100)) R 100 #[.int .i64 xc, .int .i64 xp, .int .i64 xr, .int .i64 xq]) := by rw [hR]; exact Bk.new _ _ _
      have HRR := Lib.hid hR
      have F1 : Hid (∀ w', Bk w' R 100 #[.int .i64 xc, .int .i64 xp, .int .i64 xr, .int .i64 xq] → (w'.cell? ⟨R, 0, none⟩ = some (.int .i64 xc) ∧ w'.cell? ⟨R, 1, none⟩ = some (.int .i64 xp) ∧ w'.cell? ⟨R, 2, none⟩ = some (.int .i64 xr) ∧ w'.cell? ⟨R, 3, none⟩ = some (.int .i64 xq))) := fun w' h => by
        have e := h.cell
        exact ⟨by rw [e]; rfl, by rw [e]; rfl, by rw [e]; rfl, by rw [e]; rfl⟩
      clear hR
      go_upto_region 7 with fail
      rw [← HRR.out]
      clear d0 d1 d2 d3
      go_cut [10] (fun s10 wx => s10 = .pointer (some ⟨R + 1, 0, none⟩) ∧ Hid (Bk wx (R + 1) 100 #[.int .i64 (atI xc), .int .i64 (spanN xp), .int .i64 (atI xr), .int .i64 (spanN xq)]) ∧ Hid (Below wr.heap.size wr wx) ∧ Hid (wx.heap.size = R + 2))
      case first =>
        go_region_held3 (fun w' => w'.cell? ⟨R, 0, none⟩ = some (.int .i64 xc) ∧ w'.cell? ⟨R, 1, none⟩ = some (.int .i64 xp) ∧ w'.cell? ⟨R, 2, none⟩ = some (.int .i64 xr) ∧ w'.cell? ⟨R, 3, none⟩ = some (.int .i64 xq))
          (first | exact F1.out _ HK.out | exact F1.out _ (Bk.drew HK.out) | exact F1.out _ (Bk.drew (HK.out.alloc _)) | exact F1.out _ (Bk.drew ((HK.out.alloc _).far (by simp [HRR.out]) _)))
          ((go_at_call 84; refine (c_between _ _ _ _).mono ?_; rintro e w' ⟨rfl, rfl⟩; (first | rw [f1] | rw [f2])))
        all_goals
          go_wp2_with fail
          go_meet
          exact ⟨by rw [HRR.out], Bk.drew (bk_new' _ _ _ (by rw [HRR.out]; simp)), bl_drew (bl_alloc (bl_alloc (Below.refl _ _) _) _), by rw [HRR.out]; simp [Hid]⟩
      case rest =>
        obtain ⟨rfl, HKc, HBc, HZc⟩ := hcut
        have hkx := HKc.out
        have HOX := Lib.hid ((Kept.of_below HBc.out (fun _ => False)).own HO.out (fun _ _ h => h))
        have HBX : Hid (Below B w wc) := HBL.out.trans (HBc.out.mono HZ.out)
        have hBx : B ≤ wc.heap.size := Nat.le_trans HZ.out HBc.out.size
        have HNE : Hid (some (R + 1) ≠ u7.ownBlock) := fun e => by have h1 := (own_lt HO.out e.symm).2; have h2 := HRR.out; omega
        have HTK : Hid (L0.take (k + 1) = L0.take k ++ [hIt ⟨xc, xp, xr, xq⟩]) := by
          obtain ⟨h1, h2⟩ := List.getElem?_eq_some_iff.1 HX.out
          unfold Hid
          rw [List.take_succ_eq_append_getElem h1, h2]
        have q1 := hkx.cell; have q2 := hkx.lt
        have hsp := spanN_bd xp
        have hat : 0 ≤ atI xc ∧ atI xc ≤ 200 := by unfold atI; omega
        by_cases hpos : 0 < atI xc
        · go_wp2_with (first | (at_builtin; refine wp_push rfl _ _ 91 rfl B 100 Try.underlying91 inf_CellR rfl (by decide) wc u7 k (ics (L0.take k)) [.int .i64 (atI xc), .int .i64 (spanN xp), .int .i64 (atI xr), .int .i64 (spanN xq)] rfl rfl rfl HOX.out rfl (by simp [Value.oneCell']) (by omega) (by omega) hBx ?_; intro v5 w5 hpush; have HPU := Lib.hid hpush; have hk5 := (hkx.grown hpush.grown (HNE.out)).cell; clear hpush) | (go_at_call 71; refine (c_most4 _ _ _).mono ?_; rintro e w' ⟨rfl, rfl⟩))
          · go_roundw
            case rel =>
              refine ⟨k + 1, max C (max (spanN xp) (atI xc + spanN xp - 1)), by omega, by go_num, rfl, ?_, ?_, HPU.out.below HBX.out (Nat.le_refl _) hBx, Nat.le_trans hBx HPU.out.size_⟩
              · rw [colF_take _ _ _ _ HX.out, ← HCc.out]; show max C (max (spanN xp : Int) (atI xc + (spanN xp : Int) - 1)) = if 0 < atI xc then max (max C (spanN xp : Int)) (atI xc + (spanN xp : Int) - 1) else max C (spanN xp : Int); rw [if_pos hpos]; omega
              · have := HPU.out.own; rw [HTK.out, ics_snoc]; exact this
            case measure => simp [intOf]; omega
        · go_wp2_with (first | (at_builtin; refine wp_push rfl _ _ 91 rfl B 100 Try.underlying91 inf_CellR rfl (by decide) wc u7 k (ics (L0.take k)) [.int .i64 (atI xc), .int .i64 (spanN xp), .int .i64 (atI xr), .int .i64 (spanN xq)] rfl rfl rfl HOX.out rfl (by simp [Value.oneCell']) (by omega) (by omega) hBx ?_; intro v5 w5 hpush; have HPU := Lib.hid hpush; have hk5 := (hkx.grown hpush.grown (HNE.out)).cell; clear hpush) | (go_at_call 71; refine (c_most4 _ _ _).mono ?_; rintro e w' ⟨rfl, rfl⟩))
          · go_roundw
            case rel =>
              refine ⟨k + 1, max C (spanN xp), by omega, by go_num, rfl, ?_, ?_, HPU.out.below HBX.out (Nat.le_refl _) hBx, Nat.le_trans hBx HPU.out.size_⟩
              · rw [colF_take _ _ _ _ HX.out, ← HCc.out]; show max C (spanN xp : Int) = if 0 < atI xc then max (max C (spanN xp : Int)) (atI xc + (spanN xp : Int) - 1) else max C (spanN xp : Int); rw [if_neg (by omega)]
              · have := HPU.out.own; rw [HTK.out, ics_snoc]; exact this
            case measure => simp [intOf]; omega
    · obtain rfl : k = n := by omega
      have hik : ¬ (k : Int) < (k : Int) := by omega
      have hL0 : L0.length = k := by rw [HL0.out, List.length_map, HN.out]
      have HLL := Lib.hid hL0
      rw [List.take_of_length_le (by omega)] at HCc HO
      by_cases hk0 : k = 0
      · omega
      · obtain ⟨g, cap, hu, hgB, hgl⟩ := HO.out.form (by omega)
        have HU := Lib.hid hu
        subst hu
        clear hL0 hk HC HN hlt
        obtain ⟨gs, hgs⟩ : ∃ gs, gs = wr.heap.size := ⟨_, rfl⟩
        have HGS := Lib.hid hgs
        obtain ⟨w1, hm1, HM1⟩ := make_B wr k (by omega)
        rw [← hgs] at hm1
        have HO1 : Hid (w1.ownsRow B 100 4 (.slice (some ⟨g, 0, none⟩) k cap) k (ics L0)) := by rw [HM1.out]; exact HO.out.alloc _
        have HS1 : Hid (Bk w1 gs 4 (rowV k (fun _ => .bool false))) := by rw [HM1.out]; exact bk_new' _ _ _ hgs
        have HB1 : Hid (Below B w w1) := by rw [HM1.out]; exact HBL.out.alloc HZ.out _
        have HGL : Hid (g < gs) := by rw [hgs]; exact hgl
        have HGB : Hid (B ≤ g ∧ B ≤ gs) := ⟨hgB, by rw [hgs]; exact HZ.out⟩
        clear hgs hgl hgB
        go_wp2_with fail
        clear hm1
        go_loopw [12] (fun i wr => ∃ (j : Nat), j ≤ k ∧ i = .int .i64 j ∧ Hid (wr.ownsRow B 100 4 (.slice (some ⟨g, 0, none⟩) k cap) k (ics L0)) ∧ Hid (Bk wr gs 4 (rowV k (fun a => if a < j then .bool ((L0.map stB).getD a false) else .bool false))) ∧ Hid (Below B w wr)) (fun i _ => k - (intOf i).toNat)
        case atStart => exact ⟨0, by omega, rfl, HO1.out, by simpa [Hid] using HS1.out, HB1.out⟩
        case round =>
          obtain ⟨j, hj, rfl, HO2, HS2, HB2⟩ := hrel
          by_cases hjk : j < k
          · skip
            have hik2 : (j : Int) < (k : Int) := by omega
            have hjL : j < L0.length := by rw [HLL.out]; exact hjk
            obtain ⟨x, hx⟩ : ∃ x, L0[j]? = some x := ⟨_, List.getElem?_eq_getElem hjL⟩
            obtain ⟨_, A3, c3, e3, _, hc3⟩ := RdS.of_own HO2.out
            injection e3 with e3 _ e4
            subst e3 e4
            obtain ⟨g3, o3, e5, _, hc4⟩ := hc3 (by omega)
            injection e5 with e5
            injection e5 with e5 e6
            subst e5 e6
            obtain ⟨d0, d1, d2, d3⟩ := ic_cells hc4 hx
            have q1 : wr.cell? ⟨gs, j, none⟩ = some (.bool false) := by rw [HS2.out.cell, rowV_get _ _ _ hjk]; simp
            have q2 := HS2.out.free j
            have HX := Lib.hid hx
            clear hc3 hc4 hx
            obtain ⟨xc, xp, xr, xq⟩ := x
            simp only [Nat.zero_add] at d0 d1 d2 d3
            have HO3 : Hid (∀ u, (wr.setCell ⟨gs, j, none⟩ u).ownsRow B 100 4 (.slice (some ⟨g, 0, none⟩) k cap) k (ics L0)) := fun u => (Kept.set_ (ex := fun q => q = gs) (Kept.refl _ _) gs j (fun _ => rfl) u).own HO2.out (fun q hq e => by
              have e3 : g = q := by simpa [Value.ownBlock] using hq
              have e4 := HGL.out
              omega)
            by_cases c1 : 0 < xc
            · by_cases c2 : 0 < xr
              · skip
                go_wp2_with fail
                go_roundw
                case rel =>
                  refine ⟨j + 1, by omega, by go_num, HO3.out _, ?_, HB2.out.setCell (p := ⟨gs, j, none⟩) HGB.out.2 _⟩
                  have h1 := HS2.out.set_ j (.bool ((L0.map stB).getD j false))
                  have h2 : (L0.map stB).getD j false = true := by rw [List.getD_eq_getElem?_getD, List.getElem?_map, HX.out]; show stB _ = _; unfold stB; simp only; exact decide_eq_true ⟨c1, c2⟩
                  rw [rowV_set, rowV_next k j (fun a => .bool ((L0.map stB).getD a false)) (.bool false) _ (fun q _ => rfl)] at h1
                  rw [h2] at h1
                  exact h1
                case measure => simp [intOf]; omega
              · skip
                go_wp2_with fail
                go_roundw
                case rel =>
                  refine ⟨j + 1, by omega, by go_num, HO3.out _, ?_, HB2.out.setCell (p := ⟨gs, j, none⟩) HGB.out.2 _⟩
                  have h1 := HS2.out.set_ j (.bool ((L0.map stB).getD j false))
                  have h2 : (L0.map stB).getD j false = false := by rw [List.getD_eq_getElem?_getD, List.getElem?_map, HX.out]; show stB _ = _; unfold stB; simp only; exact decide_eq_false (fun h => c2 h.2)
                  rw [rowV_set, rowV_next k j (fun a => .bool ((L0.map stB).getD a false)) (.bool false) _ (fun q _ => rfl)] at h1
                  rw [h2] at h1
                  exact h1
                case measure => simp [intOf]; omega
            · skip
              go_wp2_with fail
              go_roundw
              case rel =>
                refine ⟨j + 1, by omega, by go_num, HO3.out _, ?_, HB2.out.setCell (p := ⟨gs, j, none⟩) HGB.out.2 _⟩
                have h1 := HS2.out.set_ j (.bool ((L0.map stB).getD j false))
                have h2 : (L0.map stB).getD j false = false := by rw [List.getD_eq_getElem?_getD, List.getElem?_map, HX.out]; show stB _ = _; unfold stB; simp only; exact decide_eq_false (fun h => c1 h.1)
                rw [rowV_set, rowV_next k j (fun a => .bool ((L0.map stB).getD a false)) (.bool false) _ (fun q _ => rfl)] at h1
                rw [h2] at h1
                exact h1
              case measure => simp [intOf]; omega
          · obtain rfl : j = k := by omega
            have hik2 : ¬ (j : Int) < (j : Int) := by omega
            have HSS : Hid (Bk wr gs 4 ((L0.map stB).map Value.bool).toArray) := by
              have h1 := HS2.out
              have e : rowV j (fun a => if a < j then Value.bool ((L0.map stB).getD a false) else .bool false) = ((L0.map stB).map Value.bool).toArray := by
                apply Array.ext'
                apply List.ext_getElem?
                intro q
                simp only [rowV, List.getElem?_map, List.map_map]
                by_cases hq : q < j
                · have hqL : q < L0.length := by rw [HLL.out]; exact hq
                  rw [List.getElem?_range hq, List.getElem?_eq_getElem hqL]
                  simp [hq, List.getD_eq_getElem?_getD, hqL]
                · rw [List.getElem?_eq_none (by simp; omega), List.getElem?_eq_none (by rw [HLL.out]; omega)]
                  rfl
              rw [e] at h1
              exact h1
            have hGG : GG 300 L0 (L0.map stB) C := by
              have hcb2 := HCB.out L0.length
              rw [List.take_length, ← HCc.out] at hcb2
              refine ⟨by simp, fun x hx => ?_, by omega, by omega⟩
              rw [HL0.out] at hx
              obtain ⟨y, _, rfl⟩ := List.mem_map.1 hx
              have h1 := spanN_bd y.p; have h2 := spanN_bd y.q
              have h3 : 0 ≤ atI y.c ∧ atI y.c ≤ 200 := by unfold atI; omega
              have h4 : 0 ≤ atI y.r ∧ atI y.r ≤ 200 := by unfold atI; omega
              have h5 : (spanN y.p : Int) ≤ C := by rw [HCc.out]; exact (colF_ge _ L0).2 (hIt y) (by rw [HL0.out]; exact List.mem_map.2 ⟨y, ‹_›, rfl⟩)
              simp only [hIt]
              omega
            have HGG := Lib.hid hGG
            have HR3C : Hid (Run3 0 L0 (L0.map stB) C L3 S3 C3) := by rw [HCc.out]; exact HR3.out
            clear hGG hcb
            go_wp2_with fail
            go_loopw [1, 13] (fun co i wr => ∃ (q : Nat) (L : List Itm) (S : List Bool) (C : Int), q ≤ j ∧ i = .int .i64 q ∧ co = .int .i64 C ∧ Hid (wr.ownsRow B 100 4 (.slice (some ⟨g, 0, none⟩) j cap) j (ics L)) ∧ Hid (Bk wr gs 4 (S.map Value.bool).toArray) ∧ Hid (Below B w wr) ∧ Hid (Run3 q L S C L3 S3 C3) ∧ Hid (GG (300 + 30 * q) L S C) ∧ Hid (L.length = j)) (fun _ i _ => j - (intOf i).toNat)
            case atStart => exact ⟨0, L0, _, C, by omega, rfl, rfl, HO2.out, HSS.out, HB2.out, HR3C.out, HGG.out.mono (by omega), HLL.out⟩
            case round =>
              obtain ⟨q, L, S, C, hq, rfl, rfl, HO3, HS3, HB3, HRN, HG, HLn⟩ := hrel
              by_cases hqj : q < j
              · skip
                have hik3 : (q : Int) < (j : Int) := by omega
                obtain ⟨_, A3, c3, e3, _, hc3⟩ := RdS.of_own HO3.out
                injection e3 with e3 _ e4
                subst e3 e4
                obtain ⟨g3, o3, e5, _, hc4⟩ := hc3 (by omega)
                injection e5 with e5
                injection e5 with e5 e6
                subst e5 e6
                have hrun := HRN.out
                cases hrun with
                | done h => exact absurd h (by have := HLn.out; omega)
                | @skip _ _ _ _ _ _ _ x b hx hb hor hnext =>
                  obtain ⟨d0, d1, d2, d3⟩ := ic_cells hc4 hx
                  have qs := HS3.out.cell q
                  have qs2 : (S.map Value.bool).toArray[q]? = some (.bool b) := by simp [hb]
                  rw [qs2] at qs
                  have HNX := Lib.hid hnext
                  clear hc3 hc4 hx hb hnext qs2
                  obtain ⟨xc, xp, xr, xq⟩ := x
                  simp only [Nat.zero_add] at d0 d1 d2 d3 hor
                  cases b
                  · have hr0 : xr = 0 := by rcases hor with h | h; cases h; exact h
                    subst hr0
                    go_wp2_with fail
                    go_roundw
                    case rel => exact ⟨q + 1, L, S, C, by omega, by go_num, rfl, HO3.out, HS3.out, HB3.out, HNX.out, HG.out.mono (by push_cast; omega), HLn.out⟩
                    case measure => simp [intOf]; omega
                  · go_wp2_with fail
                    go_roundw
                    case rel => exact ⟨q + 1, L, S, C, by omega, by go_num, rfl, HO3.out, HS3.out, HB3.out, HNX.out, HG.out.mono (by push_cast; omega), HLn.out⟩
                    case measure => simp [intOf]; omega
                | @put _ _ _ _ _ _ _ x t kk hx hb hr hsr hnext =>
                  obtain ⟨d0, d1, d2, d3⟩ := ic_cells hc4 hx
                  have qs := HS3.out.cell q
                  have qs2 : (S.map Value.bool).toArray[q]? = some (.bool false) := by simp [hb]
                  rw [qs2] at qs
                  have HNX := Lib.hid hnext; have HX := Lib.hid hx; have HBF := Lib.hid hb
                  have hE : (300 + 30 * (q : Int)) ≤ 2100 := by omega
                  have htb := Srch.le hsr (fun c hc => HG.out.farC hc) (by omega)
                  have HSR := Lib.hid hsr
                  have qf := HO3.out.frozenAt (q * 4)
                  have hg4 : g ≠ gs := by have := HGL.out; omega
                  have HG4 := Lib.hid hg4
                  have hlen4 := HLn.out
                  clear hc3 hc4 hx hb hnext qs2 hsr hg4
                  obtain ⟨xc, xp, xr, xq⟩ := x
                  simp only [Nat.zero_add] at d0 d1 d2 d3 hr htb HNX HSR HX
                  have hfr : ∀ (c : Int) (wx : World), 0 ≤ c → c ≤ 200000 → wx.ownsRow B 100 4 (.slice (some ⟨g, 0, none⟩) j cap) j (ics (L.set q ⟨c, xp, xr, xq⟩)) → Bk wx gs 4 (S.map Value.bool).toArray → Calls Try.prog 85 #[.slice (some ⟨g, 0, none⟩) j cap, .slice (some ⟨gs, 0, none⟩) j j, agI c xp xr xq] wx (FrRetR L S ⟨c, xp, xr, xq⟩ wx) := fun c wx h1 h2 ho hs => by
                    have hxb := HG.out.each _ (List.mem_of_getElem? HX.out)
                    simp only at hxb
                    refine (c_freeR _ _ j (L.set q ⟨c, xp, xr, xq⟩) S ⟨c, xp, xr, xq⟩ wx (RdS.of_own ho) (rds_bkS hs (by rw [HG.out.len, HLn.out])) (by omega) (HG.out.ib (x := ⟨xc, xp, xr, xq⟩) (by omega) HX.out ⟨h1, h2⟩ (by omega)) (by unfold IB; simp only; omega)).mono ?_
                    rintro e w' ⟨v, h3, h4, h5⟩
                    exact ⟨v, h3, h4.trans (FreeP.set_ HBF.out), h5⟩
                  have HFR := Lib.hid hfr
                  have HOA : Hid ((wr.setCell ⟨g, q * 4, none⟩ (.int .i64 1)).ownsRow B 100 4 (.slice (some ⟨g, 0, none⟩) j cap) j (ics (L.set q ⟨1, xp, xr, xq⟩))) := by
                    have := (HO3.out.stored (q * 4) (.int .i64 1)).1
                    rw [ics_setC L q _ 1 HX.out] at this
                    exact this
                  have HSA := Lib.hid (HS3.out.far (p := ⟨g, q * 4, none⟩) (Ne.symm HG4.out) (.int .i64 1))
                  have HBA := Lib.hid (HB3.out.setCell (p := ⟨g, q * 4, none⟩) HGB.out.1 (.int .i64 1))
                  clear hfr
                  go_wp2_with fail
                  refine (HFR.out 1 _ (by omega) (by omega) HOA.out HSA.out).mono ?_
                  rintro e w5 ⟨fv, rfl, hfv, hb5⟩
                  have HO5 : Hid (w5.ownsRow B 100 4 (.slice (some ⟨g, 0, none⟩) j cap) j (ics (L.set q ⟨1, xp, xr, xq⟩))) := (Kept.of_below hb5 (fun _ => False)).own HOA.out (fun _ _ h => h)
                  have HS5 := Lib.hid (HSA.out.below hb5 HSA.out.lt)
                  have HB5 : Hid (Below B w w5) := HBA.out.trans (hb5.mono (by have h1 := HGL.out; have h2 := HSA.out.lt; have h3 := HGB.out.1; omega))
                  have HFV := Lib.hid hfv
                  clear hfv hb5 d0 d1 d2 d3 qs qf
                  go_wp2_with fail
                  go_loopg [14] kk (fun gk okv wr => ∃ (c : Int) (fv : Bool), okv = .bool fv ∧ 1 ≤ c ∧ Hid (fv = true ↔ FreeP L S ⟨c, xp, xr, xq⟩) ∧ Hid (Srch (fun c => FreeP L S ⟨c, xp, xr, xq⟩) c t gk) ∧ Hid (wr.ownsRow B 100 4 (.slice (some ⟨g, 0, none⟩) j cap) j (ics (L.set q ⟨c, xp, xr, xq⟩))) ∧ Hid (Bk wr gs 4 (S.map Value.bool).toArray) ∧ Hid (Below B w wr))
                  case atStart => exact ⟨1, fv, rfl, by omega, HFV.out, HSR.out, HO5.out, HS5.out, HB5.out⟩
                  case round =>
                    obtain ⟨c, fv, rfl, hc1, HF, HSC, HO6, HS6, HB6⟩ := hrel
                    have hct := HSC.out.ge
                    have hql : (L.set q ⟨c, xp, xr, xq⟩)[q]? = some ⟨c, xp, xr, xq⟩ := by rw [List.getElem?_set_self (by rw [HLn.out]; exact hqj)]
                    have HQL := Lib.hid hql
                    obtain ⟨d0, d1, d2, d3⟩ := own_cells HO6.out hql
                    have qf := HO6.out.frozenAt (q * 4)
                    simp only at d0 d1 d2 d3
                    clear hql
                    cases fv
                    · have hno : ¬ FreeP L S ⟨c, xp, xr, xq⟩ := fun h => by have := HF.out.2 h; cases this
                      obtain ⟨m, hm, hsm⟩ := HSC.out.miss hno
                      have HM := Lib.hid hm; have HSM := Lib.hid hsm
                      have hct2 := hsm.ge
                      clear hno hm hsm
                      have HOA : Hid ((wr.setCell ⟨g, q * 4, none⟩ (.int .i64 (c + 1))).ownsRow B 100 4 (.slice (some ⟨g, 0, none⟩) j cap) j (ics (L.set q ⟨c + 1, xp, xr, xq⟩))) := by
                        have := (HO6.out.stored (q * 4) (.int .i64 (c + 1))).1
                        rw [ics_setC _ q _ (c + 1) HQL.out, List.set_set] at this
                        exact this
                      have HSA := Lib.hid (HS6.out.far (p := ⟨g, q * 4, none⟩) (Ne.symm HG4.out) (.int .i64 (c + 1)))
                      have HBA := Lib.hid (HB6.out.setCell (p := ⟨g, q * 4, none⟩) HGB.out.1 (.int .i64 (c + 1)))
                      go_wp2_with fail
                      refine (HFR.out (c + 1) _ (by omega) (by omega) HOA.out HSA.out).mono ?_
                      rintro e w7 ⟨fv, rfl, hfv, hb7⟩
                      have HO7 : Hid (w7.ownsRow B 100 4 (.slice (some ⟨g, 0, none⟩) j cap) j (ics (L.set q ⟨c + 1, xp, xr, xq⟩))) := (Kept.of_below hb7 (fun _ => False)).own HOA.out (fun _ _ h => h)
                      have HS7 := Lib.hid (HSA.out.below hb7 HSA.out.lt)
                      have HB7 : Hid (Below B w w7) := HBA.out.trans (hb7.mono (by have h1 := HGL.out; have h2 := HSA.out.lt; have h3 := HGB.out.1; omega))
                      have HFV := Lib.hid hfv
                      clear hfv hb7
                      go_wp2_with fail
                      go_roundg m
                      case measure => exact HM.out
                      case rel => exact ⟨c + 1, fv, rfl, by omega, HFV.out, HSM.out, HO7.out, HS7.out, HB7.out⟩
                    · have htc := HSC.out.hit (HF.out.1 rfl)
                      subst htc
                      have HS8 := Lib.hid (bks_set (q := q) HS6.out)
                      have HO8 : Hid ((wr.setCell ⟨gs, q, none⟩ (.bool true)).ownsRow B 100 4 (.slice (some ⟨g, 0, none⟩) j cap) j (ics (L.set q ⟨t, xp, xr, xq⟩))) := (Kept.set_ (ex := fun a => a = gs) (Kept.refl _ _) gs q (fun _ => rfl) _).own HO6.out (fun a ha e => by
                        have e3 : g = a := by simpa [Value.ownBlock] using ha
                        exact HG4.out (e3.trans e))
                      have HB8 := Lib.hid (HB6.out.setCell (p := ⟨gs, q, none⟩) HGB.out.2 (.bool true))
                      obtain ⟨k0, k1, _, _⟩ := own_cells HO8.out HQL.out
                      simp only at k0 k1
                      have hxb := HG.out.each _ (List.mem_of_getElem? HX.out)
                      simp only at hxb
                      have hgC := HG.out.cols
                      have sf := HS6.out.free q
                      have sc : wr.cell? ⟨gs, q, none⟩ = some (.bool false) := by rw [HS6.out.cell]; simp [HBF.out]
                      have w1 : IntKind.i64.wrap (t + xp) = t + xp := IntWalk.i64_in _ (by omega)
                      have w2 : IntKind.i64.wrap (t + xp - 1) = t + xp - 1 := IntWalk.i64_in _ (by omega)
                      have hgn : GG (300 + 30 * ((q + 1 : Nat) : Int)) (L.set q ⟨t, xp, xr, xq⟩) (S.set q true) (max C (t + xp - 1)) := HG.out.set_ (x := ⟨xc, xp, xr, xq⟩) HX.out (by push_cast; omega) (by omega) (by simp only; push_cast; omega) (by omega) (by simp only; push_cast; omega) (by omega) (by push_cast; omega)
                      have HGN := Lib.hid hgn
                      clear hgn d0 d1 d2 d3
                      go_wp2_with fail
                      go_quiet ((go_at_call 71; first | exact q_left (c_most4 _ _ _) | exact q_add (c_most4 _ _ _)))
                      go_wp2_with fail
                      go_roundw
                      case rel => exact ⟨q + 1, L.set q ⟨t, xp, xr, xq⟩, S.set q true, max C (t + xp - 1), by omega, by go_num, rfl, HO8.out, HS8.out.drewN _, belowN HB8.out _, HNX.out, HGN.out, by simp [Hid, HLn.out]⟩
                      case measure => simp [intOf]; omega
              · obtain rfl : q = j := by omega
                have hik3 : ¬ (q : Int) < (q : Int) := by omega
                have hfin : L3 = L ∧ S3 = S ∧ C3 = C := by
                  have hrun := HRN.out
                  cases hrun with
                  | done h => exact ⟨rfl, rfl, rfl⟩
                  | skip hx hb hor hnext => have := (List.getElem?_eq_some_iff.1 hx).1; have := HLn.out; omega
                  | put hx hb hr hsr hnext => have := (List.getElem?_eq_some_iff.1 hx).1; have := HLn.out; omega
                obtain ⟨rfl, rfl, rfl⟩ := hfin
                have HG4 := Lib.hid (HG.out.mono (E' := 3000) (by omega))
                have HC3 := HG4.out.cols
                clear hik3 hqj hq HG HRN
                go_wp2_with fail
                go_loopw [15, 16, 17] (fun ro co i wr => ∃ (m : Nat) (L : List Itm) (S : List Bool) (row col : Int), m ≤ q ∧ i = .int .i64 m ∧ ro = .int .i64 row ∧ co = .int .i64 col ∧ 1 ≤ row ∧ row ≤ 3001 + 30 * m ∧ 1 ≤ col ∧ col ≤ 3001 + 30 * m ∧ Hid (wr.ownsRow B 100 4 (.slice (some ⟨g, 0, none⟩) q cap) q (ics L)) ∧ Hid (Bk wr gs 4 (S.map Value.bool).toArray) ∧ Hid (Below B w wr) ∧ Hid (Run4 C3 m L S row col L4) ∧ Hid (GG (3000 + 30 * m) L S C3) ∧ Hid (L.length = q)) (fun _ _ i _ => q - (intOf i).toNat)
                case atStart => exact ⟨0, L3, S3, 1, 1, by omega, rfl, rfl, rfl, by omega, by omega, by omega, by omega, HO3.out, HS3.out, HB3.out, HR4.out, by simpa [Hid] using HG4.out, HLn.out⟩
                case round =>
                  obtain ⟨m, L, S, row, col, hm, rfl, rfl, rfl, hr1, hr2, hc1, hc2, HO4, HS4, HB4, HRN4, HG5, HLn4⟩ := hrel
                  by_cases hmq : m < q
                  · skip
                    have hik4 : (m : Int) < (q : Int) := by omega
                    have hmL : m < L.length := by rw [HLn4.out]; exact hmq
                    rcases HRN4.out.split hmL with ⟨x, hx, hb, hnext⟩ | ⟨x, tr, tc, hx, hb, hnext, hor⟩
                    · skip
                      have qs := HS4.out.cell m
                      have qs2 : (S.map Value.bool).toArray[m]? = some (.bool true) := by simp [hb]
                      rw [qs2] at qs
                      have HNX := Lib.hid hnext
                      clear hx hb hnext qs2 hmL
                      go_wp2_with fail
                      go_roundw
                      case rel => exact ⟨m + 1, L, S, row, col, by omega, by go_num, rfl, rfl, hr1, by push_cast; omega, hc1, by push_cast; omega, HO4.out, HS4.out, HB4.out, HNX.out, HG5.out.mono (by push_cast; omega), HLn4.out⟩
                      case measure => simp [intOf]; omega
                    · skip
                      obtain ⟨n1, n2, n3, n4, hgn⟩ := Run4.next HG5.out hx ⟨hr1, by omega⟩ ⟨hc1, by omega⟩ hor
                      have HGN : Hid (GG (3000 + 30 * ((m + 1 : Nat) : Int)) (L.set m ⟨tc, x.p, tr, x.q⟩) (S.set m true) C3) := hgn.mono (by push_cast; omega)
                      have hln := HLn4.out
                      obtain ⟨d0, d1, d2, d3⟩ := own_cells HO4.out hx
                      have qs := HS4.out.cell m
                      have qs2 : (S.map Value.bool).toArray[m]? = some (.bool false) := by simp [hb]
                      rw [qs2] at qs
                      have HNX := Lib.hid hnext; have HX := Lib.hid hx; have HBF := Lib.hid hb
                      have hxb := HG5.out.each _ (List.mem_of_getElem? hx)
                      have hgC := HG5.out.cols
                      have HOR := Lib.hid hor
                      have hgg : g < wr.heap.size := (own_lt HO4.out (k := g) rfl).2
                      have hgs : gs < wr.heap.size := HS4.out.lt
                      have hgb := HGB.out.1
                      clear hx hb hnext qs2 hor hgn
                      obtain ⟨xc, xp, xr, xq⟩ := x
                      simp only at d0 d1 d2 d3 hxb HNX HOR HX HGN
                      obtain ⟨R, hR⟩ : ∃ R, R = wr.heap.size := ⟨_, rfl⟩
                      have HRR := Lib.hid hR
                      have hRg : g < R := by omega
                      have hRs : gs < R := by omega
                      have hRB : B ≤ R := by omega
                      have HB5 : Hid (Below B w (wr.alloc (.cells #[.int .i64 xc, .int .i64 xp, .int .i64 xr, .int .i64 xq] 100))) := (HB4.out.alloc (by omega) _)
                      have HO5 := Lib.hid (HO4.out.alloc (.cells #[.int .i64 xc, .int .i64 xp, .int .i64 xr, .int .i64 xq] 100))
                      have HS5 := Lib.hid (HS4.out.alloc (.cells #[.int .i64 xc, .int .i64 xp, .int .i64 xr, .int .i64 xq] 100))
                      have HX5 : Hid (Bk (wr.alloc (.cells #[.int .i64 xc, .int .i64 xp, .int .i64 xr, .int .i64 xq] 100)) R 100 #[.int .i64 xc, .int .i64 xp, .int .i64 xr, .int .i64 xq]) := bk_new' _ _ _ hR
                      clear hR hgg hgs hmL
                      go_upto_if 176 with fail
                      rw [← HRR.out]
                      clear d0 d1 d2 d3 qs
                      obtain ⟨w5, hw5⟩ : ∃ w5, w5 = wr.alloc (.cells #[.int .i64 xc, .int .i64 xp, .int .i64 xr, .int .i64 xq] 100) := ⟨_, rfl⟩
                      rw [← hw5]
                      rw [← hw5] at HB5 HO5 HS5 HX5
                      clear hw5
                      go_cut [15, 16, 19] (fun _ _ _ wx => Hid (Bk wx R 100 #[.int .i64 tc, .int .i64 xp, .int .i64 tr, .int .i64 xq]) ∧ Hid (wx.ownsRow B 100 4 (.slice (some ⟨g, 0, none⟩) q cap) q (ics L)) ∧ Hid (Bk wx gs 4 (S.map Value.bool).toArray) ∧ Hid (Below B w wx))
                      case first =>
                        rcases HOR.out with ⟨hxc, hcc, kk, hsr⟩ | ⟨hxc, kk, hsr⟩
                        · skip
                          subst hcc
                          by_cases hcc2 : tc < col
                          · have HSR : Hid (Srch (fun r => FreeP L S ⟨tc, xp, r, xq⟩) (row + 1) tr kk) := by rw [if_pos hcc2] at hsr; exact hsr
                            have hct0 := HSR.out.ge
                            clear hsr
                            have hfr : ∀ (r : Int) (wx : World), 0 ≤ r → r ≤ 200000 → wx.ownsRow B 100 4 (.slice (some ⟨g, 0, none⟩) q cap) q (ics L) → Bk wx gs 4 (S.map Value.bool).toArray → Calls Try.prog 85 #[.slice (some ⟨g, 0, none⟩) q cap, .slice (some ⟨gs, 0, none⟩) q q, agI tc xp r xq] wx (FrRetR L S ⟨tc, xp, r, xq⟩ wx) := fun r wx h1 h2 ho hs =>
                              c_freeR _ _ q L S ⟨tc, xp, r, xq⟩ wx (RdS.of_own ho) (rds_bkS hs (by rw [HG5.out.len, HLn4.out])) (by omega) (fun f hf => by have := HG5.out.each f hf; unfold IB; omega) (by unfold IB; simp only; omega)
                            have HFR := Lib.hid hfr
                            clear hfr
                            have q1 := HX5.out.cell; have q2 := HX5.out.free; have q3 := HX5.out.lt
                            have hRg' : R ≠ g := by omega
                            have hRs' : R ≠ gs := by omega
                            have HXA : Hid (Bk (w5.setCell ⟨R, 2, none⟩ (.int .i64 (row + 1))) R 100 #[.int .i64 tc, .int .i64 xp, .int .i64 (row + 1), .int .i64 xq]) := by
                              have := HX5.out.set_ 2 (.int .i64 (row + 1))
                              simpa [Hid] using this
                            have HOA : Hid ((w5.setCell ⟨R, 2, none⟩ (.int .i64 (row + 1))).ownsRow B 100 4 (.slice (some ⟨g, 0, none⟩) q cap) q (ics L)) := own_far HO5.out hRg' 2 _
                            have HSA := Lib.hid (HS5.out.far (p := ⟨R, 2, none⟩) (Ne.symm hRs') (.int .i64 (row + 1)))
                            have HBA := Lib.hid (HB5.out.setCell (p := ⟨R, 2, none⟩) hRB (.int .i64 (row + 1)))
                            go_wp2_with fail
                            refine (HFR.out (row + 1) _ (by omega) (by omega) HOA.out HSA.out).mono ?_
                            rintro e w6 ⟨fv, rfl, hfv, hb6⟩
                            have HX6 := Lib.hid (HXA.out.below hb6 HXA.out.lt)
                            have HO6 : Hid (w6.ownsRow B 100 4 (.slice (some ⟨g, 0, none⟩) q cap) q (ics L)) := (Kept.of_below hb6 (fun _ => False)).own HOA.out (fun _ _ h => h)
                            have HS6 := Lib.hid (HSA.out.below hb6 HSA.out.lt)
                            have HB6 : Hid (Below B w w6) := HBA.out.trans (hb6.mono (by have := HXA.out.lt; omega))
                            have HFV := Lib.hid hfv
                            clear hfv hb6 q1 q2 q3
                            go_wp2_with fail
                            go_loopg [19] kk (fun gk okv wr => ∃ (r : Int) (fv : Bool), okv = .bool fv ∧ 1 ≤ r ∧ Hid (fv = true ↔ FreeP L S ⟨tc, xp, r, xq⟩) ∧ Hid (Srch (fun r => FreeP L S ⟨tc, xp, r, xq⟩) r tr gk) ∧ Hid (Bk wr R 100 #[.int .i64 tc, .int .i64 xp, .int .i64 r, .int .i64 xq]) ∧ Hid (wr.ownsRow B 100 4 (.slice (some ⟨g, 0, none⟩) q cap) q (ics L)) ∧ Hid (Bk wr gs 4 (S.map Value.bool).toArray) ∧ Hid (Below B w wr))
                            case atStart => exact ⟨row + 1, fv, rfl, by omega, HFV.out, HSR.out, HX6.out, HO6.out, HS6.out, HB6.out⟩
                            case round =>
                              obtain ⟨r, fv, rfl, hc1, HF, HSC, HX7, HO7, HS7, HB7⟩ := hrel
                              have hct := HSC.out.ge
                              have q1 := HX7.out.cell; have q2 := HX7.out.free; have q3 := HX7.out.lt
                              cases fv
                              · have hno : ¬ FreeP L S ⟨tc, xp, r, xq⟩ := fun h => by have := HF.out.2 h; cases this
                                obtain ⟨k2, hm, hsm⟩ := HSC.out.miss hno
                                have HM := Lib.hid hm; have HSM := Lib.hid hsm
                                have hct2 := hsm.ge
                                clear hno hm hsm
                                have HXB : Hid (Bk (wr.setCell ⟨R, 2, none⟩ (.int .i64 (r + 1))) R 100 #[.int .i64 tc, .int .i64 xp, .int .i64 (r + 1), .int .i64 xq]) := by
                                  have := HX7.out.set_ 2 (.int .i64 (r + 1))
                                  simpa [Hid] using this
                                have HOB : Hid ((wr.setCell ⟨R, 2, none⟩ (.int .i64 (r + 1))).ownsRow B 100 4 (.slice (some ⟨g, 0, none⟩) q cap) q (ics L)) := own_far HO7.out hRg' 2 _
                                have HSB := Lib.hid (HS7.out.far (p := ⟨R, 2, none⟩) (Ne.symm hRs') (.int .i64 (r + 1)))
                                have HBB := Lib.hid (HB7.out.setCell (p := ⟨R, 2, none⟩) hRB (.int .i64 (r + 1)))
                                go_wp2_with fail
                                refine (HFR.out (r + 1) _ (by omega) (by omega) HOB.out HSB.out).mono ?_
                                rintro e w8 ⟨fv, rfl, hfv, hb8⟩
                                have HX8 := Lib.hid (HXB.out.below hb8 HXB.out.lt)
                                have HO8 : Hid (w8.ownsRow B 100 4 (.slice (some ⟨g, 0, none⟩) q cap) q (ics L)) := (Kept.of_below hb8 (fun _ => False)).own HOB.out (fun _ _ h => h)
                                have HS8 := Lib.hid (HSB.out.below hb8 HSB.out.lt)
                                have HB8 : Hid (Below B w w8) := HBB.out.trans (hb8.mono (by have := HXB.out.lt; omega))
                                have HFV := Lib.hid hfv
                                clear hfv hb8 q1 q2 q3
                                go_wp2_with fail
                                go_roundg k2
                                case measure => exact HM.out
                                case rel => exact ⟨r + 1, fv, rfl, by omega, HFV.out, HSM.out, HX8.out, HO8.out, HS8.out, HB8.out⟩
                              · have htc := HSC.out.hit (HF.out.1 rfl)
                                subst htc
                                go_wp2_with fail
                                go_meet
                                case rel => exact ⟨HX7.out, HO7.out, HS7.out, HB7.out⟩
                          · have HSR : Hid (Srch (fun r => FreeP L S ⟨tc, xp, r, xq⟩) (row) tr kk) := by rw [if_neg hcc2] at hsr; exact hsr
                            have hct0 := HSR.out.ge
                            clear hsr
                            have hfr : ∀ (r : Int) (wx : World), 0 ≤ r → r ≤ 200000 → wx.ownsRow B 100 4 (.slice (some ⟨g, 0, none⟩) q cap) q (ics L) → Bk wx gs 4 (S.map Value.bool).toArray → Calls Try.prog 85 #[.slice (some ⟨g, 0, none⟩) q cap, .slice (some ⟨gs, 0, none⟩) q q, agI tc xp r xq] wx (FrRetR L S ⟨tc, xp, r, xq⟩ wx) := fun r wx h1 h2 ho hs =>
                              c_freeR _ _ q L S ⟨tc, xp, r, xq⟩ wx (RdS.of_own ho) (rds_bkS hs (by rw [HG5.out.len, HLn4.out])) (by omega) (fun f hf => by have := HG5.out.each f hf; unfold IB; omega) (by unfold IB; simp only; omega)
                            have HFR := Lib.hid hfr
                            clear hfr
                            have q1 := HX5.out.cell; have q2 := HX5.out.free; have q3 := HX5.out.lt
                            have hRg' : R ≠ g := by omega
                            have hRs' : R ≠ gs := by omega
                            have HXA : Hid (Bk (w5.setCell ⟨R, 2, none⟩ (.int .i64 (row))) R 100 #[.int .i64 tc, .int .i64 xp, .int .i64 (row), .int .i64 xq]) := by
                              have := HX5.out.set_ 2 (.int .i64 (row))
                              simpa [Hid] using this
                            have HOA : Hid ((w5.setCell ⟨R, 2, none⟩ (.int .i64 (row))).ownsRow B 100 4 (.slice (some ⟨g, 0, none⟩) q cap) q (ics L)) := own_far HO5.out hRg' 2 _
                            have HSA := Lib.hid (HS5.out.far (p := ⟨R, 2, none⟩) (Ne.symm hRs') (.int .i64 (row)))
                            have HBA := Lib.hid (HB5.out.setCell (p := ⟨R, 2, none⟩) hRB (.int .i64 (row)))
                            go_wp2_with fail
                            refine (HFR.out (row) _ (by omega) (by omega) HOA.out HSA.out).mono ?_
                            rintro e w6 ⟨fv, rfl, hfv, hb6⟩
                            have HX6 := Lib.hid (HXA.out.below hb6 HXA.out.lt)
                            have HO6 : Hid (w6.ownsRow B 100 4 (.slice (some ⟨g, 0, none⟩) q cap) q (ics L)) := (Kept.of_below hb6 (fun _ => False)).own HOA.out (fun _ _ h => h)
                            have HS6 := Lib.hid (HSA.out.below hb6 HSA.out.lt)
                            have HB6 : Hid (Below B w w6) := HBA.out.trans (hb6.mono (by have := HXA.out.lt; omega))
                            have HFV := Lib.hid hfv
                            clear hfv hb6 q1 q2 q3
                            go_wp2_with fail
                            go_loopg [19] kk (fun gk okv wr => ∃ (r : Int) (fv : Bool), okv = .bool fv ∧ 1 ≤ r ∧ Hid (fv = true ↔ FreeP L S ⟨tc, xp, r, xq⟩) ∧ Hid (Srch (fun r => FreeP L S ⟨tc, xp, r, xq⟩) r tr gk) ∧ Hid (Bk wr R 100 #[.int .i64 tc, .int .i64 xp, .int .i64 r, .int .i64 xq]) ∧ Hid (wr.ownsRow B 100 4 (.slice (some ⟨g, 0, none⟩) q cap) q (ics L)) ∧ Hid (Bk wr gs 4 (S.map Value.bool).toArray) ∧ Hid (Below B w wr))
                            case atStart => exact ⟨row, fv, rfl, by omega, HFV.out, HSR.out, HX6.out, HO6.out, HS6.out, HB6.out⟩
                            case round =>
                              obtain ⟨r, fv, rfl, hc1, HF, HSC, HX7, HO7, HS7, HB7⟩ := hrel
                              have hct := HSC.out.ge
                              have q1 := HX7.out.cell; have q2 := HX7.out.free; have q3 := HX7.out.lt
                              cases fv
                              · have hno : ¬ FreeP L S ⟨tc, xp, r, xq⟩ := fun h => by have := HF.out.2 h; cases this
                                obtain ⟨k2, hm, hsm⟩ := HSC.out.miss hno
                                have HM := Lib.hid hm; have HSM := Lib.hid hsm
                                have hct2 := hsm.ge
                                clear hno hm hsm
                                have HXB : Hid (Bk (wr.setCell ⟨R, 2, none⟩ (.int .i64 (r + 1))) R 100 #[.int .i64 tc, .int .i64 xp, .int .i64 (r + 1), .int .i64 xq]) := by
                                  have := HX7.out.set_ 2 (.int .i64 (r + 1))
                                  simpa [Hid] using this
                                have HOB : Hid ((wr.setCell ⟨R, 2, none⟩ (.int .i64 (r + 1))).ownsRow B 100 4 (.slice (some ⟨g, 0, none⟩) q cap) q (ics L)) := own_far HO7.out hRg' 2 _
                                have HSB := Lib.hid (HS7.out.far (p := ⟨R, 2, none⟩) (Ne.symm hRs') (.int .i64 (r + 1)))
                                have HBB := Lib.hid (HB7.out.setCell (p := ⟨R, 2, none⟩) hRB (.int .i64 (r + 1)))
                                go_wp2_with fail
                                refine (HFR.out (r + 1) _ (by omega) (by omega) HOB.out HSB.out).mono ?_
                                rintro e w8 ⟨fv, rfl, hfv, hb8⟩
                                have HX8 := Lib.hid (HXB.out.below hb8 HXB.out.lt)
                                have HO8 : Hid (w8.ownsRow B 100 4 (.slice (some ⟨g, 0, none⟩) q cap) q (ics L)) := (Kept.of_below hb8 (fun _ => False)).own HOB.out (fun _ _ h => h)
                                have HS8 := Lib.hid (HSB.out.below hb8 HSB.out.lt)
                                have HB8 : Hid (Below B w w8) := HBB.out.trans (hb8.mono (by have := HXB.out.lt; omega))
                                have HFV := Lib.hid hfv
                                clear hfv hb8 q1 q2 q3
                                go_wp2_with fail
                                go_roundg k2
                                case measure => exact HM.out
                                case rel => exact ⟨r + 1, fv, rfl, by omega, HFV.out, HSM.out, HX8.out, HO8.out, HS8.out, HB8.out⟩
                              · have htc := HSC.out.hit (HF.out.1 rfl)
                                subst htc
                                go_wp2_with fail
                                go_meet
                                case rel => exact ⟨HX7.out, HO7.out, HS7.out, HB7.out⟩
                        · skip
                          have hfd := c_found (.slice (some ⟨g, 0, none⟩) q cap) (.slice (some ⟨gs, 0, none⟩) q q) q L S ⟨xc, xp, xr, xq⟩ row col C3 tr tc kk w5 (RdS.of_own HO5.out) (rds_bkS HS5.out (by rw [HG5.out.len, HLn4.out])) (by omega) (fun f hf => by have := HG5.out.each f hf; unfold IB; omega) (by simp only; omega) (by simp only; omega) (by omega) (by omega) (by simp only; omega) (by omega) hsr
                          have HFD := Lib.hid hfd
                          clear hfd
                          have q1 := HX5.out.cell; have q2 := HX5.out.free; have q3 := HX5.out.lt
                          go_wp2_with fail
                          refine HFD.out.mono ?_
                          rintro e w6 ⟨rfl, hb6⟩
                          have HX6 := Lib.hid (HX5.out.below hb6 HX5.out.lt)
                          have HO6 : Hid (w6.ownsRow B 100 4 (.slice (some ⟨g, 0, none⟩) q cap) q (ics L)) := (Kept.of_below hb6 (fun _ => False)).own HO5.out (fun _ _ h => h)
                          have HS6 := Lib.hid (HS5.out.below hb6 HS5.out.lt)
                          have HB6 : Hid (Below B w w6) := HB5.out.trans (hb6.mono (by omega))
                          clear hb6 q1 q2 q3
                          have q1 := HX6.out.cell; have q2 := HX6.out.free; have q3 := HX6.out.lt
                          go_wp2_with fail
                          go_meet
                          case rel =>
                            have h1 := ((((HX6.out.set_ 0 (.int .i64 tc)).set_ 1 (.int .i64 xp)).set_ 2 (.int .i64 tr)).set_ 3 (.int .i64 xq))
                            have hRg' : R ≠ g := by omega
                            have hRs' : R ≠ gs := by omega
                            refine ⟨by simpa [Hid] using h1, ?_, ?_, ?_⟩
                            · exact own_far (own_far (own_far (own_far HO6.out hRg' 0 _) hRg' 1 _) hRg' 2 _) hRg' 3 _
                            · exact (((HS6.out.far (p := ⟨R, 0, none⟩) (Ne.symm hRs') _).far (p := ⟨R, 1, none⟩) (Ne.symm hRs') _).far (p := ⟨R, 2, none⟩) (Ne.symm hRs') _).far (p := ⟨R, 3, none⟩) (Ne.symm hRs') _
                            · exact (((HB6.out.setCell (p := ⟨R, 0, none⟩) hRB _).setCell (p := ⟨R, 1, none⟩) hRB _).setCell (p := ⟨R, 2, none⟩) hRB _).setCell (p := ⟨R, 3, none⟩) hRB _
                      case rest =>
                        obtain ⟨HXc, HOc, HSc, HBc⟩ := hcut
                        have q1 := HXc.out.cell; have q2 := HXc.out.free; have q3 := HXc.out.lt
                        obtain ⟨k0, k1, k2, k3⟩ := own_cells HOc.out HX.out
                        have kf := HOc.out.frozenAt
                        have sf := HSc.out.free m
                        have sc : wc.cell? ⟨gs, m, none⟩ = some (.bool false) := by rw [HSc.out.cell]; simp [HBF.out]
                        have ne1 : g ≠ gs := by have := HGL.out; omega
                        simp only at k0 k1 k2 k3
                        go_wp2_with fail
                        go_roundw
                        case rel =>
                          have hp := own_put4 HOc.out HX.out ⟨tc, xp, tr, xq⟩
                          have hp2 := (Kept.set_ (ex := fun a => a = gs) (Kept.refl _ _) gs m (fun _ => rfl) (.bool true)).own hp (fun a ha e => by
                            have e3 : g = a := by simpa [Value.ownBlock] using ha
                            exact ne1 (e3.trans e))
                          have hs2 := bks_set (q := m) ((((HSc.out.far (p := ⟨g, m * 4, none⟩) (Ne.symm ne1) (.int .i64 tc)).far (p := ⟨g, m * 4 + 1, none⟩) (Ne.symm ne1) (.int .i64 xp)).far (p := ⟨g, m * 4 + 2, none⟩) (Ne.symm ne1) (.int .i64 tr)).far (p := ⟨g, m * 4 + 3, none⟩) (Ne.symm ne1) (.int .i64 xq))
                          have hb2 := ((((HBc.out.setCell (p := ⟨g, m * 4, none⟩) HGB.out.1 (.int .i64 tc)).setCell (p := ⟨g, m * 4 + 1, none⟩) HGB.out.1 (.int .i64 xp)).setCell (p := ⟨g, m * 4 + 2, none⟩) HGB.out.1 (.int .i64 tr)).setCell (p := ⟨g, m * 4 + 3, none⟩) HGB.out.1 (.int .i64 xq)).setCell (p := ⟨gs, m, none⟩) HGB.out.2 (.bool true)
                          exact ⟨m + 1, L.set m ⟨tc, xp, tr, xq⟩, S.set m true, tr, tc, by omega, by go_num, rfl, rfl, n1, by push_cast; omega, n3, by push_cast; omega, hp2, hs2, hb2, HNX.out, HGN.out, by simp [Hid, HLn4.out]⟩
                        case measure => simp [intOf]; omega
                  · obtain rfl : m = q := by omega
                    have hik4 : ¬ (m : Int) < (m : Int) := by omega
                    obtain rfl : L4 = L := HRN4.out.fin (by rw [HLn4.out]; exact Nat.le_refl _)
                    clear hmq
                    go_wp2_with fail
                    go_loopw [20, 21] (fun ro i wr => ∃ (a : Nat), a ≤ m ∧ i = .int .i64 a ∧ ro = .int .i64 (rowsF (L4.take a)) ∧ Hid (wr.ownsRow B 100 4 (.slice (some ⟨g, 0, none⟩) m cap) m (ics L4)) ∧ Hid (Below B w wr)) (fun _ i _ => m - (intOf i).toNat)
                    case atStart => exact ⟨0, by omega, rfl, rfl, HO4.out, HB4.out⟩
                    case round =>
                      obtain ⟨a, ha, rfl, rfl, HO5, HB5⟩ := hrel
                      by_cases ham : a < m
                      · have hik5 : (a : Int) < (m : Int) := by omega
                        obtain ⟨x, hx⟩ : ∃ x, L4[a]? = some x := ⟨_, List.getElem?_eq_getElem (by rw [HLn4.out]; exact ham)⟩
                        obtain ⟨d0, d1, d2, d3⟩ := own_cells HO5.out hx
                        have hxb := HG5.out.each _ (List.mem_of_getElem? hx)
                        have HX := Lib.hid hx
                        clear hx
                        obtain ⟨xc, xp, xr, xq⟩ := x
                        simp only at d0 d1 d2 d3 hxb
                        have w1 : IntKind.i64.wrap (xr + xq) = xr + xq := IntWalk.i64_in _ (by omega)
                        have w2 : IntKind.i64.wrap (xr + xq - 1) = xr + xq - 1 := IntWalk.i64_in _ (by omega)
                        go_wp2_with fail
                        go_quiet ((go_at_call 71; first | exact q_left (c_most4 _ _ _) | exact q_add (c_most4 _ _ _)))
                        go_wp2_with fail
                        go_roundw
                        case rel => exact ⟨a + 1, by omega, by go_num, by rw [rowsF_take _ _ _ HX.out], HO5.out, belowN HB5.out _⟩
                        case measure => simp [intOf]; omega
                      · obtain rfl : a = m := by omega
                        have hik5 : ¬ (a : Int) < (a : Int) := by omega
                        go_wp2_with fail
                        go_ret3
                        exact ⟨.slice (some ⟨g, 0, none⟩) a cap, by rw [List.take_of_length_le (by rw [HLn4.out]; exact Nat.le_refl _)]; rfl, RdS.of_own HO5.out, by rw [← HBE.out]; exact HB5.out⟩

set_option maxRecDepth 100000 in
set_option maxHeartbeats 4000000 in
theorem c_PlaceR0 (A : Option Addr) (c : Nat) (cols : Int) (w : World) : Calls Try.prog 53 #[.slice A 0 c, .int .i64 cols] w (PlRet w 0 [] (colB cols)) := by
  have f3 := btw_col
  obtain ⟨w1, hm1, HM1⟩ := make_B w 0 (by omega)
  simp only [Int.natCast_zero] at hm1
  go_enter Try.func53, Try.ntmps53
  go_wp2_with (first | (go_at_call 84; refine (c_between _ _ _ _).mono ?_; rintro e w' ⟨rfl, rfl⟩) | (go_at_call 71; refine (c_most4 _ _ _).mono ?_; rintro e w' ⟨rfl, rfl⟩; rw [f3]))
  refine wp_loop_rounds 1 ?_
  rw [rounds_succ]
  go_wp2_with fail
  iterate 4
    refine wp_loop_rounds 1 ?_
    rw [rounds_succ]
    go_wp2_with fail
  go_ret3
  exact ⟨.slice none 0 0, rfl, RdS.nil _ _ _, by rw [HM1.out]; exact bl_alloc (Below.refl _ _) _⟩
end Go.Proofs.Ytnjckpgacbibhaa
