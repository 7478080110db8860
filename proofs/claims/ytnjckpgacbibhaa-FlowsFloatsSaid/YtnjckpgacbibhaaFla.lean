/- floats: what is left between two heights: the program's and the reference's -/
import Derived.Test.YtnjckpgacbibhaaWd
import Derived.Test.Ytnjckpgacbibhaaflo
namespace Go.Proofs.Ytnjckpgacbibhaa
set_option linter.unusedVariables false
set_option linter.unusedSimpArgs false
open Go.RowKit Go.Cas

def fc (f : Flo) : List Value := [.bool f.r, .int .i64 f.x, .int .i64 f.y, .int .i64 f.w, .int .i64 f.h]
def fcs (L : List Flo) : List Value := L.flatMap fc
theorem fcs_len (L : List Flo) : (fcs L).length = L.length * 5 := by
  unfold fcs
  induction L with
  | nil => rfl
  | cons f L ih => rw [List.flatMap_cons, List.length_append, ih]; simp [fc]; omega
theorem fcs_snoc (L : List Flo) (f : Flo) : fcs (L ++ [f]) = fcs L ++ fc f := by simp [fcs]
theorem fcs_get (L : List Flo) (k j : Nat) (f : Flo) (h : L[k]? = some f) (hj : j < 5) : (fcs L)[k * 5 + j]? = (fc f)[j]? := by
  unfold fcs
  induction L generalizing k with
  | nil => simp at h
  | cons g L ih =>
    rw [List.flatMap_cons]
    cases k with
    | zero => simp at h; subst h; rw [Nat.zero_mul, Nat.zero_add, List.getElem?_append_left (by simpa [fc] using hj)]
    | succ k =>
      simp at h
      rw [List.getElem?_append_right (by simp [fc]; omega)]
      have := ih k h
      rw [← this]; congr 1; simp [fc]; omega
abbrev agF (r : Bool) (x y w h : Int) : Value := .agg #[.bool r, .int .i64 x, .int .i64 y, .int .i64 w, .int .i64 h]
/-- bounds of one -/
def FB (f : Flo) : Prop := -33554432 ≤ f.x ∧ f.x ≤ 33554432 ∧ 0 ≤ f.w ∧ f.w ≤ 16777216 ∧ 0 ≤ f.h ∧ f.h ≤ 16777216 ∧ -16777216 ≤ f.y ∧ f.y ≤ 10000000000
theorem goodF_fb {L : List Flo} (g : GoodF L) (f : Flo) (h : f ∈ L) : FB f := by
  have := g.each f h
  have := g.len
  unfold FB; omega
theorem goodF_fbi {L : List Flo} (g : GoodF L) {k : Nat} {f : Flo} (h : L[k]? = some f) : FB f := goodF_fb g f (List.mem_of_getElem? h)
theorem floor_hit (r : Bool) (x y w h a b : Int) : hitF ⟨r, x, y, w, h⟩ a b = decide (y < a + max b 1 ∧ a < y + max h 1) := rfl

set_option maxHeartbeats 1000000 in
theorem c_reaches (r : Bool) (x y w h a b : Int) (W : World) (hy : -16777216 ≤ y ∧ y ≤ 10000000000) (hh : 0 ≤ h ∧ h ≤ 16777216) (ha : -10000000000 ≤ a ∧ a ≤ 10000000000) (hb : -16777216 ≤ b ∧ b ≤ 16777216) :
    Calls Try.prog 93 #[agF r x y w h, .int .i64 a, .int .i64 b] W fun e w' => e = .returned (.bool (hitF ⟨r, x, y, w, h⟩ a b)) ∧ Below W.heap.size W w' := by
  have f1 := fold_max
  by_cases h1 : y < a + max b 1
  · by_cases h2 : a < y + max h 1
    · have R := Lib.hid (show hitF ⟨r, x, y, w, h⟩ a b = true by rw [floor_hit]; exact decide_eq_true ⟨h1, h2⟩)
      go_enter Try.func93, Try.ntmps93
      go_wp2_with fail
      go_ret
      exact ⟨ret_bool (by rw [R.out] <;> first | rfl | (simp; done) | (simp; omega)), by repeat (first | with_reducible refine bl_drewN ?_ _ | with_reducible refine bl_alloc ?_ _ | exact Below.refl _ _)⟩
    · have R := Lib.hid (show hitF ⟨r, x, y, w, h⟩ a b = false by rw [floor_hit]; exact decide_eq_false (fun h => h2 h.2))
      go_enter Try.func93, Try.ntmps93
      go_wp2_with fail
      go_ret
      exact ⟨ret_bool (by rw [R.out] <;> first | rfl | (simp; done) | (simp; omega)), by repeat (first | with_reducible refine bl_drewN ?_ _ | with_reducible refine bl_alloc ?_ _ | exact Below.refl _ _)⟩
  · have R := Lib.hid (show hitF ⟨r, x, y, w, h⟩ a b = false by rw [floor_hit]; exact decide_eq_false (fun h => h1 h.1))
    go_enter Try.func93, Try.ntmps93
    go_wp2_with fail
    go_ret
    exact ⟨ret_bool (by rw [R.out] <;> first | rfl | (simp; done) | (simp; omega)), by repeat (first | with_reducible refine bl_drewN ?_ _ | with_reducible refine bl_alloc ?_ _ | exact Below.refl _ _)⟩
set_option maxHeartbeats 1000000 in
theorem c_meets (r : Bool) (x y w h a b : Int) (W : World) (hy : -16777216 ≤ y ∧ y ≤ 10000000000) (hh : 0 ≤ h ∧ h ≤ 16777216) (ha : -10000000000 ≤ a ∧ a ≤ 10000000000) (hb : -16777216 ≤ b ∧ b ≤ 16777216) :
    Calls Try.prog 78 #[agF r x y w h, .int .i64 a, .int .i64 b] W fun e w' => e = .returned (.bool (hitF ⟨r, x, y, w, h⟩ a b)) ∧ Below W.heap.size W w' := by
  have f1 := fold_max
  by_cases h1 : y < a + max b 1
  · have d1 : decide (y < a + max b 1) = true := decide_eq_true h1
    by_cases h2 : a < y + max h 1
    · have R := Lib.hid (show hitF ⟨r, x, y, w, h⟩ a b = true by rw [floor_hit]; exact decide_eq_true ⟨h1, h2⟩)
      go_enter Try.func78, Try.ntmps78
      go_wp2_with fail
      go_quiet ((go_at_call 71; first | exact q_left (c_most4 _ _ _) | exact q_add (c_most4 _ _ _)))
      go_wp2_with fail
      go_ret
      exact ⟨ret_bool (by rw [R.out] <;> first | rfl | (simp; done) | (simp; omega)), by repeat (first | with_reducible refine bl_drewN ?_ _ | with_reducible refine bl_alloc ?_ _ | exact Below.refl _ _)⟩
    · have R := Lib.hid (show hitF ⟨r, x, y, w, h⟩ a b = false by rw [floor_hit]; exact decide_eq_false (fun h => h2 h.2))
      go_enter Try.func78, Try.ntmps78
      go_wp2_with fail
      go_quiet ((go_at_call 71; first | exact q_left (c_most4 _ _ _) | exact q_add (c_most4 _ _ _)))
      go_wp2_with fail
      go_ret
      exact ⟨ret_bool (by rw [R.out] <;> first | rfl | (simp; done) | (simp; omega)), by repeat (first | with_reducible refine bl_drewN ?_ _ | with_reducible refine bl_alloc ?_ _ | exact Below.refl _ _)⟩
  · have d1 : decide (y < a + max b 1) = false := decide_eq_false h1
    have R := Lib.hid (show hitF ⟨r, x, y, w, h⟩ a b = false by rw [floor_hit]; exact decide_eq_false (fun h => h1 h.1))
    go_enter Try.func78, Try.ntmps78
    go_wp2_with fail
    go_quiet ((go_at_call 71; first | exact q_left (c_most4 _ _ _) | exact q_add (c_most4 _ _ _)))
    go_wp2_with fail
    go_ret
    exact ⟨ret_bool (by rw [R.out] <;> first | rfl | (simp; done) | (simp; omega)), by repeat (first | with_reducible refine bl_drewN ?_ _ | with_reducible refine bl_alloc ?_ _ | exact Below.refl _ _)⟩

theorem edL_drop (y h : Int) (L : List Flo) (k : Nat) (f : Flo) (l : Int) (hk : L[k]? = some f) : edL y h (L.drop k) l = edL y h (L.drop (k + 1)) (if hitF f y h = true ∧ f.r = false then max l (f.x + f.w) else l) := by
  obtain ⟨h1, h2⟩ := List.getElem?_eq_some_iff.1 hk
  rw [List.drop_eq_getElem_cons h1, h2]; rfl
theorem edR_drop (y h : Int) (L : List Flo) (k : Nat) (f : Flo) (r : Int) (hk : L[k]? = some f) : edR y h (L.drop k) r = edR y h (L.drop (k + 1)) (if hitF f y h = true ∧ f.r = true then min r f.x else r) := by
  obtain ⟨h1, h2⟩ := List.getElem?_eq_some_iff.1 hk
  rw [List.drop_eq_getElem_cons h1, h2]; rfl
theorem edS_drop (y h : Int) (L : List Flo) (k : Nat) (f : Flo) (hk : L[k]? = some f) : edS y h (L.drop k) = (hitF f y h || edS y h (L.drop (k + 1))) := by
  obtain ⟨h1, h2⟩ := List.getElem?_eq_some_iff.1 hk
  rw [List.drop_eq_getElem_cons h1, h2]; rfl
theorem bl_grow {w wr : World} (h : Below w.heap.size w wr) {w' : World} (h2 : Below wr.heap.size wr w') : Below w.heap.size w w' := bl_trans h h2
/-- the cells of one float -/
theorem rd_cells {w : World} {g o : Nat} {L : List Flo} {k : Nat} {f : Flo} (hc : ∀ j u, (fcs L)[j]? = some u → w.cell? ⟨g, o + j, none⟩ = some u) (hk : L[k]? = some f) :
    w.cell? ⟨g, o + k * 5, none⟩ = some (.bool f.r) ∧ w.cell? ⟨g, o + k * 5 + 1, none⟩ = some (.int .i64 f.x) ∧ w.cell? ⟨g, o + k * 5 + 2, none⟩ = some (.int .i64 f.y) ∧ w.cell? ⟨g, o + k * 5 + 3, none⟩ = some (.int .i64 f.w) ∧ w.cell? ⟨g, o + k * 5 + 4, none⟩ = some (.int .i64 f.h) :=
  ⟨hc (k * 5) _ (by simpa [fc] using fcs_get L k 0 f hk (by omega)), by have := hc (k * 5 + 1) _ (by simpa [fc] using fcs_get L k 1 f hk (by omega)); rwa [← Nat.add_assoc] at this,
   by have := hc (k * 5 + 2) _ (by simpa [fc] using fcs_get L k 2 f hk (by omega)); rwa [← Nat.add_assoc] at this, by have := hc (k * 5 + 3) _ (by simpa [fc] using fcs_get L k 3 f hk (by omega)); rwa [← Nat.add_assoc] at this,
   by have := hc (k * 5 + 4) _ (by simpa [fc] using fcs_get L k 4 f hk (by omega)); rwa [← Nat.add_assoc] at this⟩
def edV (y h lo hi : Int) (L : List Flo) : Value := .tuple #[.int .i64 (edL y h L lo), .int .i64 (edR y h L hi), .bool (edS y h L)]
theorem edV_of {y h lo hi l r : Int} {s : Bool} {L : List Flo} (h1 : l = edL y h L lo) (h2 : r = edR y h L hi) (h3 : s = edS y h L) : Ending.returned (.tuple #[.int .i64 l, .int .i64 r, .bool s]) = .returned (edV y h lo hi L) := by subst h1 h2 h3; rfl

set_option maxRecDepth 100000 in
set_option maxHeartbeats 4000000 in
theorem c_edges (p lp lim n : Nat) (v : Value) (L : List Flo) (lo hi y h : Int) (w : World) (kp : Bk w p 115 #[.int .i64 lo, .int .i64 hi, .pointer (some ⟨lp, 0, none⟩)]) (kl : Bk w lp 74 #[v]) (hr : RdS w lim 5 v n (fcs L)) (hlim : lim ≤ w.heap.size) (gd : ∀ f ∈ L, FB f) (hn : n ≤ 1000)
    (hy : -10000000000 ≤ y ∧ y ≤ 10000000000) (hh : -16777216 ≤ h ∧ h ≤ 16777216) : Calls Try.prog 77 #[.pointer (some ⟨p, 0, none⟩), .int .i64 y, .int .i64 h] w fun e w' => e = .returned (edV y h lo hi L) ∧ Below w.heap.size w w' := by
  obtain ⟨hl, A, c, rfl, hnc, hcell⟩ := hr
  have hlen : L.length = n := by rw [fcs_len] at hl; omega
  have HN := Lib.hid hlen
  have HC := Lib.hid hcell
  have GD := Lib.hid gd
  have HB := Lib.hid (Below.refl w.heap.size w)
  obtain ⟨TL, hTL⟩ : ∃ T, T = edL y h L lo := ⟨_, rfl⟩
  obtain ⟨TR, hTR⟩ : ∃ T, T = edR y h L hi := ⟨_, rfl⟩
  obtain ⟨TS, hTS⟩ : ∃ T, T = edS y h L := ⟨_, rfl⟩
  have HTL := Lib.hid hTL; have HTR := Lib.hid hTR; have HTS := Lib.hid hTS
  clear hcell hl hlen hTL hTR hTS gd
  have c1 := kp.cell; have c2 := kl.cell; have f1 := fold_max; have f2 := fold_min
  go_enter Try.func77, Try.ntmps77
  go_wp2_with fail
  go_quiet (fail)
  go_wp2_with fail
  clear c1 c2
  go_loopw [6, 7, 8, 26] (fun l r s i wr => ∃ (k : Nat) (l' r' : Int) (s' : Bool), k ≤ n ∧ i = .int .i64 k ∧ l = .int .i64 l' ∧ r = .int .i64 r' ∧ s = .bool s' ∧ Hid (Below w.heap.size w wr) ∧ Hid (edL y h (L.drop k) l' = TL) ∧ Hid (edR y h (L.drop k) r' = TR) ∧ Hid ((s' || edS y h (L.drop k)) = TS)) (fun _ _ _ i _ => n - (intOf i).toNat)
  case atStart => exact ⟨0, lo, hi, false, by omega, rfl, rfl, rfl, rfl, bl_drewN HB.out _, HTL.out.symm, HTR.out.symm, by simp [Hid, HTS.out]⟩
  case round =>
    obtain ⟨k, l', r', s', hk, rfl, rfl, rfl, rfl, HBL, H1, H2, H3⟩ := hrel
    by_cases hlt : k < n
    · have hkL : k < L.length := by rw [HN.out]; exact hlt
      obtain ⟨g, o, rfl, hg, hc⟩ := HC.out (by omega)
      obtain ⟨f, hf⟩ : ∃ f, L[k]? = some f := ⟨_, List.getElem?_eq_getElem hkL⟩
      have hb := GD.out f (List.mem_of_getElem? hf)
      obtain ⟨d0, d1, d2, d3, d4⟩ := rd_cells hc hf
      have lift : ∀ {q u}, w.cell? ⟨g, q, none⟩ = some u → wr.cell? ⟨g, q, none⟩ = some u := fun {q u} e => (HBL.out.cell (p := ⟨g, q, none⟩) (by show g < _; omega)).trans e
      have d0 := lift d0; have d1 := lift d1; have d2 := lift d2; have d3 := lift d3; have d4 := lift d4
      have s1 := Lib.hid (edL_drop y h L k f l' hf); have s2 := Lib.hid (edR_drop y h L k f r' hf); have s3 := Lib.hid (edS_drop y h L k f hf)
      clear lift hc hf hg
      obtain ⟨r, x, fy, fw, fh⟩ := f
      simp only at d0 d1 d2 d3 d4
      obtain ⟨b1, b2, b3, b4, b5, b6, b7, b8⟩ := hb
      simp only at b1 b2 b3 b4 b5 b6 b7 b8
      have hi : (k : Int) < (n : Int) := by omega
      rcases hb : hitF ⟨r, x, fy, fw, fh⟩ y h
      · go_wp2_with (go_at_call 93; refine (c_reaches _ _ _ _ _ _ _ _ ⟨b7, b8⟩ ⟨b5, b6⟩ hy hh).mono ?_; rw [hb]; rintro e w' ⟨rfl, hbl⟩; have kx := (Bk.new _ _ _).below hbl (by simp); have kc := kx.cell; clear kx)
        go_roundw
        case rel => exact ⟨k + 1, l', r', s', by omega, by go_num, rfl, rfl, rfl, bl_trans (bl_alloc HBL.out _) hbl, by have := H1.out; rwa [s1.out, if_neg (by simp [hb])] at this, by have := H2.out; rwa [s2.out, if_neg (by simp [hb])] at this, by have := H3.out; rw [s3.out, hb] at this; simpa [Hid] using this⟩
        case measure => simp [intOf]; omega
      · cases r
        · go_wp2_with (go_at_call 93; refine (c_reaches _ _ _ _ _ _ _ _ ⟨b7, b8⟩ ⟨b5, b6⟩ hy hh).mono ?_; rw [hb]; rintro e w' ⟨rfl, hbl⟩; have kx := (Bk.new _ _ _).below hbl (by simp); have kc := kx.cell; clear kx)
          go_roundw
          case rel => exact ⟨k + 1, max l' (x + fw), r', true, by omega, by go_num, rfl, rfl, rfl, bl_trans (bl_alloc HBL.out _) hbl, by have := H1.out; rwa [s1.out, if_pos (by simp [hb])] at this, by have := H2.out; rwa [s2.out, if_neg (by simp [hb])] at this, by have := H3.out; rw [s3.out, hb] at this; simpa [Hid] using this⟩
          case measure => simp [intOf]; omega
        · go_wp2_with (go_at_call 93; refine (c_reaches _ _ _ _ _ _ _ _ ⟨b7, b8⟩ ⟨b5, b6⟩ hy hh).mono ?_; rw [hb]; rintro e w' ⟨rfl, hbl⟩; have kx := (Bk.new _ _ _).below hbl (by simp); have kc := kx.cell; clear kx)
          go_roundw
          case rel => exact ⟨k + 1, l', min r' x, true, by omega, by go_num, rfl, rfl, rfl, bl_trans (bl_alloc HBL.out _) hbl, by have := H1.out; rwa [s1.out, if_neg (by simp [hb])] at this, by have := H2.out; rwa [s2.out, if_pos (by simp [hb])] at this, by have := H3.out; rw [s3.out, hb] at this; simpa [Hid] using this⟩
          case measure => simp [intOf]; omega
    · have hi : ¬ (k : Int) < (n : Int) := by omega
      go_wp2_with fail
      go_ret3
      refine ⟨edV_of ?_ ?_ ?_, HBL.out⟩
      · have := H1.out; rw [List.drop_eq_nil_of_le (by rw [HN.out]; omega), HTL.out] at this; exact this
      · have := H2.out; rw [List.drop_eq_nil_of_le (by rw [HN.out]; omega), HTR.out] at this; exact this
      · have := H3.out; rw [List.drop_eq_nil_of_le (by rw [HN.out]; omega), HTS.out] at this; simpa [edS] using this

set_option maxRecDepth 100000 in
set_option maxHeartbeats 8000000 in
theorem c_EdgesR (p lim n : Nat) (v : Value) (L : List Flo) (lo hi y h : Int) (w : World) (kp : Bk w p 83 #[.int .i64 lo, .int .i64 hi, v]) (hr : RdS w lim 5 v n (fcs L)) (hlim : lim ≤ w.heap.size) (gd : ∀ f ∈ L, FB f) (hn : n ≤ 1000)
    (hy : -10000000000 ≤ y ∧ y ≤ 10000000000) (hh : -16777216 ≤ h ∧ h ≤ 16777216) : Calls Try.prog 47 #[.pointer (some ⟨p, 0, none⟩), .int .i64 y, .int .i64 h] w fun e w' => e = .returned (edV y h lo hi L) ∧ Below w.heap.size w w' := by
  obtain ⟨hl, A, c, rfl, hnc, hcell⟩ := hr
  have hlen : L.length = n := by rw [fcs_len] at hl; omega
  have HN := Lib.hid hlen
  have HC := Lib.hid hcell
  have GD := Lib.hid gd
  have KP := Lib.hid kp
  have HB := Lib.hid (Below.refl w.heap.size w)
  obtain ⟨TL, hTL⟩ : ∃ T, T = edL y h L lo := ⟨_, rfl⟩
  obtain ⟨TR, hTR⟩ : ∃ T, T = edR y h L hi := ⟨_, rfl⟩
  obtain ⟨TS, hTS⟩ : ∃ T, T = edS y h L := ⟨_, rfl⟩
  have HTL := Lib.hid hTL; have HTR := Lib.hid hTR; have HTS := Lib.hid hTS
  clear hcell hl hlen hTL hTR hTS gd
  have c1 := kp.cell
  go_enter Try.func47, Try.ntmps47
  go_wp2_with fail
  clear c1
  go_loopw [9, 10, 11, 12] (fun l r s i wr => ∃ (k : Nat) (l' r' : Int) (s' : Bool), k ≤ n ∧ i = .int .i64 k ∧ l = .int .i64 l' ∧ r = .int .i64 r' ∧ s = .bool s' ∧ Hid (Below w.heap.size w wr) ∧ Hid (edL y h (L.drop k) l' = TL) ∧ Hid (edR y h (L.drop k) r' = TR) ∧ Hid ((s' || edS y h (L.drop k)) = TS)) (fun _ _ _ i _ => n - (intOf i).toNat)
  case atStart => exact ⟨0, lo, hi, false, by omega, rfl, rfl, rfl, rfl, HB.out, HTL.out.symm, HTR.out.symm, by simp [Hid, HTS.out]⟩
  case round =>
    obtain ⟨k, l', r', s', hk, rfl, rfl, rfl, rfl, HBL, H1, H2, H3⟩ := hrel
    have kq := (KP.out.below HBL.out KP.out.lt).cell
    by_cases hlt : k < n
    · have hkL : k < L.length := by rw [HN.out]; exact hlt
      obtain ⟨g, o, rfl, hg, hc⟩ := HC.out (by omega)
      obtain ⟨f, hf⟩ : ∃ f, L[k]? = some f := ⟨_, List.getElem?_eq_getElem hkL⟩
      have hb := GD.out f (List.mem_of_getElem? hf)
      obtain ⟨d0, d1, d2, d3, d4⟩ := rd_cells hc hf
      have lift : ∀ {q u}, w.cell? ⟨g, q, none⟩ = some u → wr.cell? ⟨g, q, none⟩ = some u := fun {q u} e => (HBL.out.cell (p := ⟨g, q, none⟩) (by show g < _; omega)).trans e
      replace d0 := lift d0; replace d1 := lift d1; replace d2 := lift d2; replace d3 := lift d3; replace d4 := lift d4
      have s1 := Lib.hid (edL_drop y h L k f l' hf); have s2 := Lib.hid (edR_drop y h L k f r' hf); have s3 := Lib.hid (edS_drop y h L k f hf)
      have hgw : g < wr.heap.size := by have := HBL.out.size; omega
      have hpw : p < wr.heap.size := by have := HBL.out.size; have := KP.out.lt; omega
      clear lift hc hf hg
      obtain ⟨r, x, fy, fw, fh⟩ := f
      simp only at d0 d1 d2 d3 d4
      obtain ⟨b1, b2, b3, b4, b5, b6, b7, b8⟩ := hb
      simp only at b1 b2 b3 b4 b5 b6 b7 b8
      have hik : (k : Int) < (n : Int) := by omega
      rcases hb : hitF ⟨r, x, fy, fw, fh⟩ y h
      · go_wp2_with (go_at_call 78; refine (c_meets _ _ _ _ _ _ _ _ ⟨b7, b8⟩ ⟨b5, b6⟩ hy hh).mono ?_; rw [hb]; rintro e w' ⟨rfl, hbl⟩)
        go_roundw
        case rel => exact ⟨k + 1, l', r', s', by omega, by go_num, rfl, rfl, rfl, bl_trans HBL.out hbl, by have := H1.out; rwa [s1.out, if_neg (by simp [hb])] at this, by have := H2.out; rwa [s2.out, if_neg (by simp [hb])] at this, by have := H3.out; rw [s3.out, hb] at this; simpa [Hid] using this⟩
        case measure => simp [intOf]; omega
      · have L1 : ∀ (w' : World), Below wr.heap.size wr w' → (∀ i, w'.cell? ⟨p, i, none⟩ = #[.int .i64 lo, .int .i64 hi, Value.slice (some ⟨g, o, none⟩) n c][i]?) ∧ w'.cell? ⟨g, o + k * 5, none⟩ = some (.bool r) ∧ w'.cell? ⟨g, o + k * 5 + 1, none⟩ = some (.int .i64 x) ∧ w'.cell? ⟨g, o + k * 5 + 3, none⟩ = some (.int .i64 fw) := fun w' hb => ⟨fun i => (hb.cell (p := ⟨p, i, none⟩) hpw).trans (kq i), (hb.cell (p := ⟨g, _, none⟩) hgw).trans d0, (hb.cell (p := ⟨g, _, none⟩) hgw).trans d1, (hb.cell (p := ⟨g, _, none⟩) hgw).trans d3⟩
        have L2 := Lib.hid L1
        clear L1
        cases r
        · go_wp2_with (first | (go_at_call 78; refine (c_meets _ _ _ _ _ _ _ _ ⟨b7, b8⟩ ⟨b5, b6⟩ hy hh).mono ?_; rw [hb]; rintro e w' ⟨rfl, hbl⟩; obtain ⟨kq, d0, d1, d3⟩ := L2.out _ hbl))
          go_quiet ((go_at_call 71; first | exact q_left (c_most4 _ _ _) | exact q_add (c_most4 _ _ _)))
          go_wp2_with fail
          go_roundw
          case rel => exact ⟨k + 1, max l' (x + fw), r', true, by omega, by go_num, rfl, rfl, rfl, bl_drewN (bl_trans HBL.out hbl) _, by have := H1.out; rwa [s1.out, if_pos (by simp [hb])] at this, by have := H2.out; rwa [s2.out, if_neg (by simp [hb])] at this, by have := H3.out; rw [s3.out, hb] at this; simpa [Hid] using this⟩
          case measure => simp [intOf]; omega
        · go_wp2_with (first | (go_at_call 78; refine (c_meets _ _ _ _ _ _ _ _ ⟨b7, b8⟩ ⟨b5, b6⟩ hy hh).mono ?_; rw [hb]; rintro e w' ⟨rfl, hbl⟩; obtain ⟨kq, d0, d1, d3⟩ := L2.out _ hbl) | (go_at_call 79; refine (c_least4 _ _ _).mono ?_; rintro e w' ⟨rfl, rfl⟩))
          go_roundw
          case rel => exact ⟨k + 1, l', min r' x, true, by omega, by go_num, rfl, rfl, rfl, bl_trans HBL.out hbl, by have := H1.out; rwa [s1.out, if_neg (by simp [hb])] at this, by have := H2.out; rwa [s2.out, if_pos (by simp [hb])] at this, by have := H3.out; rw [s3.out, hb] at this; simpa [Hid] using this⟩
          case measure => simp [intOf]; omega
    · have hik : ¬ (k : Int) < (n : Int) := by omega
      go_wp2_with fail
      go_ret3
      refine ⟨edV_of ?_ ?_ ?_, HBL.out⟩
      · have := H1.out; rw [List.drop_eq_nil_of_le (by rw [HN.out]; omega), HTL.out] at this; exact this
      · have := H2.out; rw [List.drop_eq_nil_of_le (by rw [HN.out]; omega), HTR.out] at this; exact this
      · have := H3.out; rw [List.drop_eq_nil_of_le (by rw [HN.out]; omega), HTS.out] at this; simpa [edS] using this
end Go.Proofs.Ytnjckpgacbibhaa
