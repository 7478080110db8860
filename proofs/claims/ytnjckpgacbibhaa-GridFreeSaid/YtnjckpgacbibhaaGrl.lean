/- the grid: the law's own loops -/
import Derived.Test.YtnjckpgacbibhaaGrk
namespace Go.Proofs.Ytnjckpgacbibhaa
set_option linter.unusedVariables false
set_option linter.unusedSimpArgs false
open Go.RowKit Go.Cas Go.WideShapes Go.ChangeShapes

theorem cells_Cell : Try.prog.cellsOf 100 = 4 := by kernel_rfl
set_option maxRecDepth 100000 in
theorem open_Cells {H : Type} {enc : TypeId × Value → H} {b0 base : Nat} {r : Reach} {spare : Nat → Bool} {held : Bool} {d : DataW H} {p : List MemPlace} {v : Value} {w : World}
    (hv : Value.okWide Try.prog w r b0 91 v) (h : DataW.Trod enc Try.prog w base spare held 91 v d p) :
    ∃ (n : Nat) (L : List CIn), L.length = n ∧ n ≤ maxLen ∧ RdS w w.heap.size 4 v n (cins L) := by
  obtain ⟨n, L, h1, h2, h3, _⟩ := open_rows cin (fun _ => True) 4 (fun _ => rfl) (by omega) Try.underlying91 cells_Cell (fun m cs y hl hf' => by
    match cs, hl with
    | [c0, c1, c2, c3], _ =>
      obtain ⟨x0, e0, _⟩ := field_int (k := .i64) Try.underlying100 (by kernel_rfl) hf' rfl (i := 0) rfl Try.underlying3
      obtain ⟨x1, e1, _⟩ := field_int (k := .i64) Try.underlying100 (by kernel_rfl) hf' rfl (i := 1) rfl Try.underlying3
      obtain ⟨x2, e2, _⟩ := field_int (k := .i64) Try.underlying100 (by kernel_rfl) hf' rfl (i := 2) rfl Try.underlying3
      obtain ⟨x3, e3, _⟩ := field_int (k := .i64) Try.underlying100 (by kernel_rfl) hf' rfl (i := 3) rfl Try.underlying3
      simp only [List.getElem?_cons_zero, List.getElem?_cons_succ, Option.some.injEq] at e0 e1 e2 e3
      subst e0 e1 e2 e3
      exact ⟨⟨x0, x1, x2, x3⟩, rfl, trivial⟩) hv h
  exact ⟨n, L, h1, h2, h3⟩

set_option maxRecDepth 100000 in
set_option maxHeartbeats 4000000 in
theorem c_PlaceP0 (A : Option Addr) (c : Nat) (cols : Int) (w : World) : Calls Try.prog 51 #[.slice A 0 c, .int .i64 cols] w (PlRet w 0 [] (colB cols)) := by
  have f1 := fold_max; have f2 := fold_min; have f3 := colB_prog
  have hmm := @run_makeMap Try.prog
  obtain ⟨w1, hm1, HM1⟩ := make_B (w.alloc (.map #[] 0)) 0 (by omega)
  have hz1 : (w.alloc (.map #[] 0)).heap.size = w.heap.size + 1 := by simp
  rw [hz1] at hm1
  simp only [Int.natCast_zero] at hm1
  clear hz1
  have h0c : (0 : Int) ≤ (c : Int) := by omega
  go_enter Try.func51, Try.ntmps51
  go_wp2_with fail
  iterate 5
    refine wp_loop_rounds 1 ?_
    rw [rounds_succ]
    go_wp2_with fail
  go_ret3
  exact ⟨.slice none 0 0, rfl, RdS.nil _ _ _, by rw [HM1.out]; exact bl_alloc (bl_alloc (Below.refl _ _) _) _⟩
theorem place_P (v : Value) (n lim : Nat) (I : List CIn) (cols : Int) (w : World) (hr : RdS w lim 4 v n (cins I)) (hlim : lim ≤ w.heap.size) (hn : n ≤ 60) (L4 : List Itm) (C3 : Int) (h : PlOK I cols L4 C3) : Calls Try.prog 51 #[v, .int .i64 cols] w (PlRet w n L4 C3) := by
  by_cases h0 : 0 < n
  · obtain ⟨L3, S3, h3, h4⟩ := h
    exact c_PlaceP v n lim I cols w hr hlim hn h0 _ L3 L4 S3 C3 rfl h3 h4
  · obtain rfl : n = 0 := by omega
    obtain ⟨hl, A, c, rfl, _⟩ := hr
    have hI : I = [] := by rw [cins_len] at hl; exact List.eq_nil_of_length_eq_zero (by omega)
    subst hI
    obtain ⟨L3, S3, h3, h4⟩ := h
    have e3 : L3 = [] ∧ C3 = colB cols := by
      cases h3 with
      | done h => exact ⟨rfl, rfl⟩
      | skip hx => simp at hx
      | put hx => simp at hx
    obtain ⟨rfl, rfl⟩ := e3
    have e4 : L4 = [] := h4.fin (by simp)
    subst e4
    exact c_PlaceP0 A c cols w
theorem place_R (v : Value) (n lim : Nat) (I : List CIn) (cols : Int) (w : World) (hr : RdS w lim 4 v n (cins I)) (hlim : lim ≤ w.heap.size) (hn : n ≤ 60) (L4 : List Itm) (C3 : Int) (h : PlOK I cols L4 C3) : Calls Try.prog 53 #[v, .int .i64 cols] w (PlRet w n L4 C3) := by
  by_cases h0 : 0 < n
  · obtain ⟨L3, S3, h3, h4⟩ := h
    exact c_PlaceR v n lim I cols w hr hlim hn h0 _ L3 L4 S3 C3 rfl h3 h4
  · obtain rfl : n = 0 := by omega
    obtain ⟨hl, A, c, rfl, _⟩ := hr
    have hI : I = [] := by rw [cins_len] at hl; exact List.eq_nil_of_length_eq_zero (by omega)
    subst hI
    obtain ⟨L3, S3, h3, h4⟩ := h
    have e3 : L3 = [] ∧ C3 = colB cols := by
      cases h3 with
      | done h => exact ⟨rfl, rfl⟩
      | skip hx => simp at hx
      | put hx => simp at hx
    obtain ⟨rfl, rfl⟩ := e3
    have e4 : L4 = [] := h4.fin (by simp)
    subst e4
    exact c_PlaceR0 A c cols w

theorem cins_snoc (L : List CIn) (x : CIn) : cins (L ++ [x]) = cins L ++ cin x := by simp [cins]
theorem belowV {B : Nat} {a w : World} (h : Below B a w) : Below B a w.drew := ⟨h.os, h.tape, h.output, h.size, h.block⟩
def CeRet (w : World) (n : Nat) (I : List CIn) (e : Ending) (w' : World) : Prop := ∃ u, e = .returned u ∧ RdS w' w'.heap.size 4 u n (cins I) ∧ Below w.heap.size w w'
set_option maxRecDepth 100000 in
set_option maxHeartbeats 8000000 in
theorem c_cells (v : Value) (n : Nat) (I : List CIn) (w : World) (hr : RdS w w.heap.size 4 v n (cins I)) (hn : n ≤ 60) : Calls Try.prog 52 #[v] w (CeRet w n I) := by
  obtain ⟨hl, A, c, rfl, hnc, hcell⟩ := hr
  have e1 : I.length = n := by rw [cins_len] at hl; omega
  have HC := Lib.hid hcell
  have HN := Lib.hid e1
  have HB := Lib.hid (Below.refl w.heap.size w)
  obtain ⟨B, hB⟩ : ∃ B, B = w.heap.size := ⟨_, rfl⟩
  have HBE := Lib.hid hB
  rw [← hB] at HB
  obtain ⟨i0, hi0, hz0, hz1, hz2⟩ := info_parts inf_Item
  clear hcell hl e1 hB
  go_enter Try.func52, Try.ntmps52
  go_wp2_with fail
  go_loopw [3, 4] (fun l i wr => ∃ (k : Nat), k ≤ n ∧ i = .int .i64 k ∧ Hid (wr.ownsRow B 99 4 l k (cins (I.take k))) ∧ Hid (Below B w wr) ∧ Hid (B ≤ wr.heap.size)) (fun _ i _ => n - (intOf i).toNat)
  case atStart => exact ⟨0, by omega, rfl, World.ownsRow_nil _ _ _ _, HB.out, by rw [HBE.out]; exact Nat.le_refl _⟩
  case round =>
    obtain ⟨k, hk, rfl, HO, HBL, HZ⟩ := hrel
    by_cases hlt : k < n
    · have hik : (k : Int) < (n : Int) := by omega
      have hkL : k < I.length := by rw [HN.out]; exact hlt
      obtain ⟨g, o, rfl, hg, hc⟩ := HC.out (by omega)
      obtain ⟨x, hx⟩ : ∃ x, I[k]? = some x := ⟨_, List.getElem?_eq_getElem hkL⟩
      have hgB : g < B := by rw [HBE.out]; exact hg
      have F4 : Hid (∀ w', Below B w w' → (w'.cell? ⟨g, o + k * 4, none⟩ = some (.int .i64 x.c) ∧ w'.cell? ⟨g, o + k * 4 + 1, none⟩ = some (.int .i64 x.p) ∧ w'.cell? ⟨g, o + k * 4 + 2, none⟩ = some (.int .i64 x.r) ∧ w'.cell? ⟨g, o + k * 4 + 3, none⟩ = some (.int .i64 x.q))) := fun w' hb => by
        have h4 : ∀ j, j < 4 → ∀ u, (cin x)[j]? = some u → w'.cell? ⟨g, o + k * 4 + j, none⟩ = some u := fun j hj u hu => by
          have := hc (k * 4 + j) u (by rw [cins_get I k j x hx hj]; exact hu)
          rw [← Nat.add_assoc] at this
          exact (hb.cell (p := ⟨g, _, none⟩) hgB).trans this
        exact ⟨h4 0 (by omega) _ rfl, h4 1 (by omega) _ rfl, h4 2 (by omega) _ rfl, h4 3 (by omega) _ rfl⟩
      have HTK : Hid (I.take (k + 1) = I.take k ++ [x]) := by
        obtain ⟨h1, h2⟩ := List.getElem?_eq_some_iff.1 hx
        unfold Hid
        rw [List.take_succ_eq_append_getElem h1, h2]
      clear hc hx hkL hg
      obtain ⟨xc, xp, xr, xq⟩ := x
      simp only at F4
      have hk60 : k < 60 := by omega
      go_wp2_with fail
      go_region_held3 (fun w' => w'.cell? ⟨g, o + k * 4, none⟩ = some (.int .i64 xc) ∧ w'.cell? ⟨g, o + k * 4 + 1, none⟩ = some (.int .i64 xp) ∧ w'.cell? ⟨g, o + k * 4 + 2, none⟩ = some (.int .i64 xr) ∧ w'.cell? ⟨g, o + k * 4 + 3, none⟩ = some (.int .i64 xq))
        (first
          | exact F4.out _ HBL.out
          | exact F4.out _ (belowV HBL.out)
          | exact F4.out _ (belowV (HBL.out.alloc HZ.out _))
          | exact F4.out _ HB5.out)
        ((refine step_append_lies _ (by rfl) _ _ _ (by rfl) B 99 i0 _ 4 32 Try.underlying92 hi0 hz0 hz1 hz2 rfl (by omega) u3 k (cins (I.take k)) (by rfl) ((HO.out.alloc _).drew)
            ⟨wr.heap.size, 0, none⟩ 1 1 [.int .i64 xc, .int .i64 xp, .int .i64 xr, .int .i64 xq] (by rfl) (by rfl) (World.news_of_block (cs := #[.int .i64 xc, .int .i64 xp, .int .i64 xr, .int .i64 xq]) (t := 99) (fr := (0, 0)) (Bk.drew (bk_new' wr 99 #[.int .i64 xc, .int .i64 xp, .int .i64 xr, .int .i64 xq] rfl))) (by simp [Value.oneCell'])
            (by omega) (by unfold maxLen; omega) (by omega) (by have := HZ.out; simp; omega) (wr.heap.size + 1) (by simp) ?_; intro gg cap w5 hown5 hgrow5 hat5 hlt5; have HB5 := Lib.hid ((belowV (HBL.out.alloc HZ.out _)).grown hgrow5 (by have := HZ.out; simp; omega) (fun k hk => (own_lt HO.out hk).1)); have HW5 := Lib.hid hown5; have HZ5 := Lib.hid (Nat.lt_of_le_of_lt (own_lt hown5 (k := gg) rfl).1 hlt5); clear hown5))
      go_wp2_with fail
      go_roundw
      case rel =>
        refine ⟨k + 1, by omega, by go_num, ?_, HB5.out, Nat.le_of_lt HZ5.out⟩
        have := HW5.out
        rw [HTK.out, cins_snoc]
        exact this
      case measure => simp [intOf]; omega
    · obtain rfl : k = n := by omega
      have hik : ¬ (k : Int) < (k : Int) := by omega
      have htk : I.take k = I := List.take_of_length_le (by rw [HN.out]; exact Nat.le_refl _)
      rw [htk] at HO
      clear htk
      go_wp2_with fail
      go_ret
      exact ⟨u3, rfl, RdS.of_own HO.out, by rw [← HBE.out]; exact HBL.out⟩
end Go.Proofs.Ytnjckpgacbibhaa
