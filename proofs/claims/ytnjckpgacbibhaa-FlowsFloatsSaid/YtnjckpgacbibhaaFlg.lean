/- floats: a new room, another room, edges, clear, all -/
import Derived.Test.YtnjckpgacbibhaaFlf
import Derived.Laws.AppendOwnNone
namespace Go.Proofs.Ytnjckpgacbibhaa
set_option linter.unusedVariables false
set_option linter.unusedSimpArgs false
open Go.RowKit Go.Cas

theorem fcs_one (L : List Flo) : ∀ u ∈ fcs L, u.oneCell' = true := by
  intro u hu
  unfold fcs at hu
  rw [List.mem_flatMap] at hu
  obtain ⟨f, _, hf⟩ := hu
  simp only [fc, List.mem_cons, List.mem_nil_iff, or_false] at hf
  rcases hf with rfl | rfl | rfl | rfl | rfl <;> rfl
theorem add_none' (b o i : Nat) : (⟨b, o, none⟩ : Addr).add i = ⟨b, o + i, none⟩ := by
  unfold Addr.add; split
  · rename_i h; subst h; rfl
  · rfl
theorem c_New (wd : Int) (w : World) : Calls Try.prog 41 #[.int .i64 wd] w fun e w' => e = .returned (.pointer (some ⟨w.heap.size + 1, 0, none⟩)) ∧ Bk w' (w.heap.size + 1) 115 #[.int .i64 0, .int .i64 (zH wd), .pointer (some ⟨w.heap.size, 0, none⟩)] ∧ Bk w' w.heap.size 74 #[.slice none 0 0] ∧ Below w.heap.size w w' ∧ w'.heap.size = w.heap.size + 2 := by
  have f1 := fold_max
  go_enter Try.func41, Try.ntmps41
  go_wp2_with (go_at_call 54; refine (c_held _ _).mono ?_; rintro e w' ⟨rfl, rfl⟩)
  go_ret
  exact ⟨rfl, bk_new' _ _ _ (by simp), (Bk.new _ _ _).alloc _, bl_alloc (bl_alloc (Below.refl _ _) _) _, by simp⟩
theorem c_In (p lp : Nat) (lo hi a b : Int) (w : World) (kp : Bk w p 115 #[.int .i64 lo, .int .i64 hi, .pointer (some ⟨lp, 0, none⟩)]) : Calls Try.prog 46 #[.pointer (some ⟨p, 0, none⟩), .int .i64 a, .int .i64 b] w fun e w' => e = .returned (.pointer (some ⟨w.heap.size, 0, none⟩)) ∧ w' = w.alloc (.cells #[.int .i64 (hld a), .int .i64 (max (hld a) (hld b)), .pointer (some ⟨lp, 0, none⟩)] 115) := by
  have f1 := fold_max
  have c1 := kp.cell
  go_enter Try.func46, Try.ntmps46
  go_wp2_with (go_at_call 54; refine (c_held _ _).mono ?_; rintro e w' ⟨rfl, rfl⟩)
  go_ret
  exact ⟨rfl, rfl⟩
theorem c_EdgesX (p lp lim n : Nat) (v : Value) (L : List Flo) (lo hi y h : Int) (w : World) (kp : Bk w p 115 #[.int .i64 lo, .int .i64 hi, .pointer (some ⟨lp, 0, none⟩)]) (kl : Bk w lp 74 #[v]) (hr : RdS w lim 5 v n (fcs L)) (hlim : lim ≤ w.heap.size) (gd : ∀ f ∈ L, FB f) (hn : n ≤ 1000)
    : Calls Try.prog 45 #[.pointer (some ⟨p, 0, none⟩), .int .i64 y, .int .i64 h] w fun e w' => e = .returned (.tuple #[.int .i64 (edL (hld y) (hld h) L lo), .int .i64 (edR (hld y) (hld h) L hi)]) ∧ Below w.heap.size w w' := by
  have HE := Lib.hid (c_edges p lp lim n v L lo hi (hld y) (hld h) w kp kl hr hlim gd hn (by have := hld_bd y; omega) (hld_bd h))
  unfold edV at HE
  clear kp kl hr hlim gd hn
  go_enter Try.func45, Try.ntmps45
  go_wp2_with (first | (go_at_call 54; refine (c_held _ _).mono ?_; rintro e w' ⟨rfl, rfl⟩) | (go_at_call 77; refine (HE.out).mono ?_; rintro e w' ⟨rfl, hb⟩))
  go_ret2
  exact ⟨rfl, hb⟩
set_option maxHeartbeats 1000000 in
theorem c_AddFull (p lp : Nat) (A : Option Addr) (c : Nat) (lo hi wd h fr : Int) (rt : Bool) (w : World) (kp : Bk w p 115 #[.int .i64 lo, .int .i64 hi, .pointer (some ⟨lp, 0, none⟩)]) (kl : Bk w lp 74 #[.slice A 200 c]) : Calls Try.prog 42 #[.pointer (some ⟨p, 0, none⟩), .bool rt, .int .i64 wd, .int .i64 h, .int .i64 fr] w fun e w' => e = .returned (.tuple #[.int .i64 0, .int .i64 0]) ∧ w = w' := by
  have c1 := kp.cell; have c2 := kl.cell
  clear kp kl
  go_enter Try.func42, Try.ntmps42
  go_wp2_with fail
  go_ret2
  exact ⟨rfl, rfl⟩
set_option maxHeartbeats 1000000 in
theorem c_AddRFull (p : Nat) (A : Option Addr) (c : Nat) (lo hi wd h fr : Int) (rt : Bool) (w : World) (kp : Bk w p 83 #[.int .i64 lo, .int .i64 hi, .slice A 200 c]) : Calls Try.prog 48 #[.pointer (some ⟨p, 0, none⟩), .bool rt, .int .i64 wd, .int .i64 h, .int .i64 fr] w fun e w' => e = .returned (.tuple #[.int .i64 0, .int .i64 0]) ∧ w = w' := by
  have c1 := kp.cell
  clear kp
  go_enter Try.func48, Try.ntmps48
  go_wp2_with fail
  go_ret2
  exact ⟨rfl, rfl⟩

/-- where floats of some sides end -/
def clE (a b : Bool) : List Flo → Int → Bool → Int
  | [], e, _ => e
  | f :: L, e, s => if (f.r = true ∧ b = true) ∨ (f.r = false ∧ a = true) then (if s = false ∨ e < f.y + f.h then clE a b L (f.y + f.h) true else clE a b L e true) else clE a b L e s
theorem clE_drop (a b : Bool) (L : List Flo) (k : Nat) (f : Flo) (e : Int) (s : Bool) (hk : L[k]? = some f) : clE a b (L.drop k) e s = if (f.r = true ∧ b = true) ∨ (f.r = false ∧ a = true) then (if s = false ∨ e < f.y + f.h then clE a b (L.drop (k + 1)) (f.y + f.h) true else clE a b (L.drop (k + 1)) e true) else clE a b (L.drop (k + 1)) e s := by
  obtain ⟨h1, h2⟩ := List.getElem?_eq_some_iff.1 hk
  rw [List.drop_eq_getElem_cons h1, h2]; rfl
theorem clE_none (L : List Flo) (e : Int) (s : Bool) : clE false false L e s = e := by
  induction L generalizing e s with
  | nil => rfl
  | cons f L ih => simp [clE, ih]

set_option maxRecDepth 100000 in
set_option maxHeartbeats 8000000 in
theorem c_ClearF (p lp lim n : Nat) (v : Value) (L : List Flo) (lo hi : Int) (a b : Bool) (w : World) (kp : Bk w p 115 #[.int .i64 lo, .int .i64 hi, .pointer (some ⟨lp, 0, none⟩)]) (kl : Bk w lp 74 #[v]) (hr : RdS w lim 5 v n (fcs L)) (hlim : lim ≤ w.heap.size) (gd : ∀ f ∈ L, FB f) (hn : n ≤ 1000) : Calls Try.prog 49 #[.pointer (some ⟨p, 0, none⟩), .bool a, .bool b] w fun e w' => e = .returned (.int .i64 (clE a b L 0 false)) ∧ Below w.heap.size w w' := by
  obtain ⟨hl, A, c, rfl, hnc, hcell⟩ := hr
  have hlen : L.length = n := by rw [fcs_len] at hl; omega
  have HN := Lib.hid hlen
  have HC := Lib.hid hcell
  have GD := Lib.hid gd
  have KP := Lib.hid kp
  have HB := Lib.hid (Below.refl w.heap.size w)
  obtain ⟨T, hT⟩ : ∃ T, T = clE a b L 0 false := ⟨_, rfl⟩
  have HT := Lib.hid hT
  clear hcell hl hlen hT gd
  have c1 := kp.cell; have c2 := kl.cell
  go_enter Try.func49, Try.ntmps49
  go_wp2_with fail
  clear c1 c2
  go_loopw [7, 8, 19] (fun q s i wr => ∃ (k : Nat) (q' : Int) (s' : Bool), k ≤ n ∧ i = .int .i64 k ∧ q = .int .i64 q' ∧ s = .bool s' ∧ Hid (Below w.heap.size w wr) ∧ Hid (clE a b (L.drop k) q' s' = T)) (fun _ _ i _ => n - (intOf i).toNat)
  case atStart => exact ⟨0, 0, false, by omega, rfl, rfl, rfl, HB.out, HT.out.symm⟩
  case round =>
    obtain ⟨k, q', s', hk, rfl, rfl, rfl, HBL, H1⟩ := hrel
    skip
    by_cases hlt : k < n
    · have hkL : k < L.length := by rw [HN.out]; exact hlt
      obtain ⟨g, o, rfl, hg, hc⟩ := HC.out (by omega)
      obtain ⟨f, hf⟩ : ∃ f, L[k]? = some f := ⟨_, List.getElem?_eq_getElem hkL⟩
      have hb := GD.out f (List.mem_of_getElem? hf)
      obtain ⟨d0, d1, d2, d3, d4⟩ := rd_cells hc hf
      have lift : ∀ {q u}, w.cell? ⟨g, q, none⟩ = some u → wr.cell? ⟨g, q, none⟩ = some u := fun {q u} e => (HBL.out.cell (p := ⟨g, q, none⟩) (by show g < _; omega)).trans e
      replace d0 := lift d0; replace d1 := lift d1; replace d2 := lift d2; replace d3 := lift d3; replace d4 := lift d4
      have s1 := Lib.hid (clE_drop a b L k f q' s' hf)
      clear lift hc hf hg
      obtain ⟨r, x, fy, fw, fh⟩ := f
      simp only at d0 d1 d2 d3 d4
      obtain ⟨b1, b2, b3, b4, b5, b6, b7, b8⟩ := hb
      simp only at b1 b2 b3 b4 b5 b6 b7 b8
      have hik : (k : Int) < (n : Int) := by omega
      cases r <;> cases a <;> cases b
      all_goals
        go_wp2_with fail
        skip
      all_goals
        first
          | (go_roundw
             case rel => exact ⟨k + 1, q', s', by omega, by go_num, rfl, rfl, bl_alloc HBL.out _, by have := H1.out; rw [s1.out, if_neg (by simp)] at this; exact this⟩
             case measure => simp [intOf]; omega)
          | (go_roundw
             case rel => exact ⟨k + 1, fy + fh, true, by omega, by go_num, rfl, rfl, bl_alloc HBL.out _, by have := H1.out; rw [s1.out, if_pos (by simp), if_pos (by first | (left; rfl) | (left; assumption) | (right; assumption) | (right; show q' < fy + fh; omega) | (simp_all; done))] at this; exact this⟩
             case measure => simp [intOf]; omega)
          | (go_roundw
             case rel => exact ⟨k + 1, q', true, by omega, by go_num, rfl, rfl, bl_alloc HBL.out _, by have := H1.out; rw [s1.out, if_pos (by simp), if_neg (by simp_all)] at this; exact this⟩
             case measure => simp [intOf]; omega)
          | (go_roundw
             case rel => exact ⟨k + 1, q', s', by omega, by go_num, rfl, rfl, bl_alloc HBL.out _, by (have h0 : s' = true := by (first | assumption | (simp_all; done))); subst h0; have := H1.out; rw [s1.out, if_pos (by simp), if_neg (by simp_all)] at this; exact this⟩
             case measure => simp [intOf]; omega)
    · have hik : ¬ (k : Int) < (n : Int) := by omega
      go_wp2_with fail
      go_ret
      refine ⟨ret_int ?_, HBL.out⟩
      have := H1.out; rw [List.drop_eq_nil_of_le (by rw [HN.out]; omega), HT.out] at this; exact this

set_option maxRecDepth 100000 in
set_option maxHeartbeats 8000000 in
theorem c_ClearR (p lim n : Nat) (v : Value) (L : List Flo) (lo hi : Int) (a b : Bool) (w : World) (kp : Bk w p 83 #[.int .i64 lo, .int .i64 hi, v]) (hr : RdS w lim 5 v n (fcs L)) (hlim : lim ≤ w.heap.size) (gd : ∀ f ∈ L, FB f) (hn : n ≤ 1000) : Calls Try.prog 50 #[.pointer (some ⟨p, 0, none⟩), .bool a, .bool b] w fun e w' => e = .returned (.int .i64 (clE a b L 0 false)) ∧ Below w.heap.size w w' := by
  obtain ⟨hl, A, c, rfl, hnc, hcell⟩ := hr
  have hlen : L.length = n := by rw [fcs_len] at hl; omega
  have HN := Lib.hid hlen
  have HC := Lib.hid hcell
  have GD := Lib.hid gd
  have KP := Lib.hid kp
  have HB := Lib.hid (Below.refl w.heap.size w)
  obtain ⟨T, hT⟩ : ∃ T, T = clE a b L 0 false := ⟨_, rfl⟩
  have HT := Lib.hid hT
  clear hcell hl hlen hT gd
  have c1 := kp.cell
  go_enter Try.func50, Try.ntmps50
  go_wp2_with fail
  clear c1
  go_loopw [7, 8, 9] (fun q s i wr => ∃ (k : Nat) (q' : Int) (s' : Bool), k ≤ n ∧ i = .int .i64 k ∧ q = .int .i64 q' ∧ s = .bool s' ∧ Hid (Below w.heap.size w wr) ∧ Hid (clE a b (L.drop k) q' s' = T)) (fun _ _ i _ => n - (intOf i).toNat)
  case atStart => exact ⟨0, 0, false, by omega, rfl, rfl, rfl, HB.out, HT.out.symm⟩
  case round =>
    obtain ⟨k, q', s', hk, rfl, rfl, rfl, HBL, H1⟩ := hrel
    have kq := (KP.out.below HBL.out KP.out.lt).cell
    by_cases hlt : k < n
    · have hkL : k < L.length := by rw [HN.out]; exact hlt
      obtain ⟨g, o, rfl, hg, hc⟩ := HC.out (by omega)
      obtain ⟨f, hf⟩ : ∃ f, L[k]? = some f := ⟨_, List.getElem?_eq_getElem hkL⟩
      have hb := GD.out f (List.mem_of_getElem? hf)
      obtain ⟨d0, d1, d2, d3, d4⟩ := rd_cells hc hf
      have lift : ∀ {q u}, w.cell? ⟨g, q, none⟩ = some u → wr.cell? ⟨g, q, none⟩ = some u := fun {q u} e => (HBL.out.cell (p := ⟨g, q, none⟩) (by show g < _; omega)).trans e
      replace d0 := lift d0; replace d1 := lift d1; replace d2 := lift d2; replace d3 := lift d3; replace d4 := lift d4
      have s1 := Lib.hid (clE_drop a b L k f q' s' hf)
      clear lift hc hf hg
      obtain ⟨r, x, fy, fw, fh⟩ := f
      simp only at d0 d1 d2 d3 d4
      obtain ⟨b1, b2, b3, b4, b5, b6, b7, b8⟩ := hb
      simp only at b1 b2 b3 b4 b5 b6 b7 b8
      have hik : (k : Int) < (n : Int) := by omega
      cases r <;> cases a <;> cases b
      all_goals
        go_wp2_with fail
        (try (go_quiet (fail); go_wp2_with fail))
      all_goals
        first
          | (go_roundw
             case rel => exact ⟨k + 1, q', s', by omega, by go_num, rfl, rfl, HBL.out, by have := H1.out; rw [s1.out, if_neg (by simp)] at this; exact this⟩
             case measure => simp [intOf]; omega)
          | (go_roundw
             case rel => exact ⟨k + 1, fy + fh, true, by omega, by go_num, rfl, rfl, bl_drewN HBL.out _, by have := H1.out; rw [s1.out, if_pos (by simp), if_pos (by first | (left; rfl) | (left; assumption) | (right; assumption) | (right; show q' < fy + fh; omega) | (simp_all; done))] at this; exact this⟩
             case measure => simp [intOf]; omega)
          | (go_roundw
             case rel => exact ⟨k + 1, q', true, by omega, by go_num, rfl, rfl, bl_drewN HBL.out _, by have := H1.out; rw [s1.out, if_pos (by simp), if_neg (by simp_all)] at this; exact this⟩
             case measure => simp [intOf]; omega)
          | (go_roundw
             case rel => exact ⟨k + 1, q', s', by omega, by go_num, rfl, rfl, bl_drewN HBL.out _, by (have h0 : s' = true := by (first | assumption | (simp_all; done))); subst h0; have := H1.out; rw [s1.out, if_pos (by simp), if_neg (by simp_all)] at this; exact this⟩
             case measure => simp [intOf]; omega)
    · have hik : ¬ (k : Int) < (n : Int) := by omega
      go_wp2_with fail
      go_ret
      refine ⟨ret_int ?_, HBL.out⟩
      have := H1.out; rw [List.drop_eq_nil_of_le (by rw [HN.out]; omega), HT.out] at this; exact this
end Go.Proofs.Ytnjckpgacbibhaa
