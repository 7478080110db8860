/- the grid: the first place from a cursor on: the reference's -/
import Derived.Test.YtnjckpgacbibhaaGrd
import Derived.Deep.LoopGhost
namespace Go.Proofs.Ytnjckpgacbibhaa
set_option linter.unusedVariables false
set_option linter.unusedSimpArgs false
open Go.RowKit Go.Cas

/-- where the reference's two loops stand: at a place within the columns, or behind a row's end -/
def At2 (ok : Int → Int → Prop) (cols span tr tc : Int) (g : Nat) (r c : Int) : Prop :=
  (c + span - 1 ≤ cols ∧ ∃ k, g = 2 * k + 2 ∧ Srch2 ok cols span r c tr tc k) ∨ (¬ c + span - 1 ≤ cols ∧ ∃ k, g = 2 * k + 3 ∧ Srch2 ok cols span (r + 1) 1 tr tc k)
theorem At2.start {ok : Int → Int → Prop} {cols span r c tr tc : Int} {k : Nat} (h : Srch2 ok cols span r c tr tc k) : ∃ g, g ≤ 2 * k + 2 ∧ At2 ok cols span tr tc g r c := by
  by_cases hv : c + span - 1 ≤ cols
  · exact ⟨2 * k + 2, Nat.le_refl _, .inl ⟨hv, k, rfl, h⟩⟩
  · cases h with
    | here h1 h2 => exact absurd h1 hv
    | next h1 h2 h3 => omega
    | wrap h1 h2 h3 => exact ⟨_, by omega, .inr ⟨hv, _, rfl, h3⟩⟩
theorem At2.hit {ok : Int → Int → Prop} {cols span r c tr tc : Int} {g : Nat} (h : At2 ok cols span tr tc g r c) (hv : c + span - 1 ≤ cols) (ho : ok r c) : tr = r ∧ tc = c := by
  rcases h with ⟨_, k, _, h⟩ | ⟨h, _⟩
  · cases h with
    | here h1 h2 => exact ⟨rfl, rfl⟩
    | next h1 h2 h3 => exact absurd ⟨hv, ho⟩ h1
    | wrap h1 h2 h3 => exact absurd ⟨hv, ho⟩ h1
  · exact absurd hv h
theorem At2.miss {ok : Int → Int → Prop} {cols span r c tr tc : Int} {g : Nat} (h : At2 ok cols span tr tc g r c) (hv : c + span - 1 ≤ cols) (ho : ¬ ok r c) : ∃ g', g' < g ∧ At2 ok cols span tr tc g' r (c + 1) := by
  rcases h with ⟨_, k, hg, h⟩ | ⟨h, _⟩
  · cases h with
    | here h1 h2 => exact absurd h2 ho
    | next h1 h2 h3 => exact ⟨_, by omega, .inl ⟨h2, _, rfl, h3⟩⟩
    | wrap h1 h2 h3 => exact ⟨_, by omega, .inr ⟨h2, _, rfl, h3⟩⟩
  · exact absurd hv h
theorem At2.down {ok : Int → Int → Prop} {cols span r c tr tc : Int} {g : Nat} (h : At2 ok cols span tr tc g r c) (hv : ¬ c + span - 1 ≤ cols) (hs : span ≤ cols) : ∃ g', g' < g ∧ At2 ok cols span tr tc g' (r + 1) 1 := by
  rcases h with ⟨h, _⟩ | ⟨_, k, hg, h⟩
  · exact absurd h hv
  · exact ⟨2 * k + 2, by omega, .inl ⟨by omega, k, rfl, h⟩⟩
/-- rows and columns only grow -/
theorem Srch2.bd {ok : Int → Int → Prop} {cols span r c tr tc : Int} {k : Nat} (h : Srch2 ok cols span r c tr tc k) : r ≤ tr ∧ tc + span - 1 ≤ cols := by
  induction h with
  | here h1 h2 => exact ⟨by omega, h1⟩
  | next h1 h2 h3 ih => exact ih
  | wrap h1 h2 h3 ih => exact ⟨by omega, ih.2⟩
theorem At2.bd {ok : Int → Int → Prop} {cols span r c tr tc : Int} {g : Nat} (h : At2 ok cols span tr tc g r c) : r ≤ tr := by
  rcases h with ⟨_, k, _, h⟩ | ⟨_, k, _, h⟩
  · exact h.bd.1
  · have := h.bd.1; omega

set_option maxRecDepth 100000 in
set_option maxHeartbeats 8000000 in
theorem c_found (u v : Value) (n : Nat) (L : List Itm) (S : List Bool) (x : Itm) (row col cols tr tc : Int) (kk : Nat) (w : World) (hl : RdS w w.heap.size 4 u n (ics L)) (hs : RdS w w.heap.size 1 v n (S.map Value.bool)) (hn : n ≤ 1000) (hL : ∀ f ∈ L, IB f) (hxp : 1 ≤ x.p ∧ x.p ≤ 20) (hxq : 1 ≤ x.q ∧ x.q ≤ 20)
    (hrow : 0 ≤ row ∧ row ≤ 900000) (hcol : 1 ≤ col ∧ col ≤ 900000) (hcols : (x.p : Int) ≤ cols ∧ cols ≤ 900000) (htr : tr ≤ 900000) (hk : Srch2 (fun r c => FreeP L S ⟨c, x.p, r, x.q⟩) cols x.p row col tr tc kk) :
    Calls Try.prog 86 #[u, v, agI x.c x.p x.r x.q, .int .i64 row, .int .i64 col, .int .i64 cols] w fun e w' => e = .returned (agI tc x.p tr x.q) ∧ Below w.heap.size w w' := by
  obtain ⟨g0, hg0, hat⟩ := At2.start hk
  have HAT := Lib.hid hat
  have HL := Lib.hid hl; have HS := Lib.hid hs; have HIB := Lib.hid hL
  obtain ⟨xc, xp, xr, xq⟩ := x
  simp only at hxp hxq hcols HAT ⊢
  obtain ⟨ok, hok⟩ : ∃ ok : Int → Int → Prop, ok = fun r c => FreeP L S ⟨c, xp, r, xq⟩ := ⟨_, rfl⟩
  rw [← hok] at HAT
  have HOK : Hid (∀ r c, ok r c ↔ FreeP L S ⟨c, xp, r, xq⟩) := fun r c => by rw [hok]
  have HB := Lib.hid (bl_alloc (Below.refl _ w) (.cells #[.int .i64 xc, .int .i64 xp, .int .i64 xr, .int .i64 xq] 100))
  have HX := Lib.hid (Bk.new w 100 #[.int .i64 xc, .int .i64 xp, .int .i64 xr, .int .i64 xq])
  obtain ⟨R, hR⟩ : ∃ R, R = w.heap.size := ⟨_, rfl⟩
  have HRR := Lib.hid hR
  rw [← hR] at HX
  clear hat hk hg0 hl hs hL hok hR
  go_enter Try.func86, Try.ntmps86
  go_wp2_with fail
  rw [← HRR.out]
  have HX1 : Hid (Bk ((w.alloc (.cells #[.int .i64 xc, .int .i64 xp, .int .i64 xr, .int .i64 xq] 100)).alloc (.cells #[.int .i64 0, .int .i64 0, .int .i64 0, .int .i64 0] 100)) (R + 1) 100 #[.int .i64 0, .int .i64 0, .int .i64 0, .int .i64 0]) := bk_new' _ _ _ (by rw [HRR.out]; simp)
  go_loopg [3, 4] g0 (fun g ro co wr => ∃ (r c : Int), ro = .int .i64 r ∧ co = .int .i64 c ∧ 0 ≤ r ∧ 1 ≤ c ∧ c ≤ 900001 ∧ Hid (At2 ok cols xp tr tc g r c) ∧ Hid (∃ a b, Bk wr R 100 #[.int .i64 a, .int .i64 xp, .int .i64 b, .int .i64 xq]) ∧ Hid (Bk wr (R + 1) 100 #[.int .i64 0, .int .i64 0, .int .i64 0, .int .i64 0]) ∧ Hid (Below w.heap.size w wr))
  case atStart => exact ⟨row, col, rfl, rfl, hrow.1, hcol.1, by omega, HAT.out, ⟨xc, xr, HX.out.alloc _⟩, HX1.out, bl_alloc HB.out _⟩
  case round =>
    obtain ⟨r, c, rfl, rfl, hr0, hc0, hc1, HA, HXR, HXS, HBL⟩ := hrel
    obtain ⟨gg, hgg⟩ : ∃ gg, gg = gk := ⟨_, rfl⟩
    have HGG := Lib.hid hgg
    have HA0 : Hid (At2 ok cols xp tr tc gg r c) := by rw [hgg]; exact HA.out
    clear hgg
    go_wp2_with fail
    go_loopg [4] gg (fun g co wr => ∃ (c : Int), co = .int .i64 c ∧ 1 ≤ c ∧ c ≤ 900001 ∧ g ≤ gg ∧ Hid (At2 ok cols xp tr tc g r c) ∧ Hid (∃ a b, Bk wr R 100 #[.int .i64 a, .int .i64 xp, .int .i64 b, .int .i64 xq]) ∧ Hid (Bk wr (R + 1) 100 #[.int .i64 0, .int .i64 0, .int .i64 0, .int .i64 0]) ∧ Hid (Below w.heap.size w wr))
    case atStart => exact ⟨c, rfl, hc0, hc1, Nat.le_refl _, HA0.out, HXR.out, HXS.out, HBL.out⟩
    case round =>
      obtain ⟨c, rfl, hc0, hc1, hgl, HA, HXR, HXS, HBL⟩ := hrel
      have hrt := HA.out.bd
      obtain ⟨a, b, hxr⟩ := HXR.out
      have q1 := hxr.cell; have q2 := hxr.free; have q3 := hxr.lt
      have q4 := HXS.out.cell; have q5 := HXS.out.free; have q6 := HXS.out.lt
      have HXW := Lib.hid hxr
      clear hxr
      by_cases hv : c + (xp : Int) - 1 ≤ cols
      · have hfr : ∀ wx, Below w.heap.size w wx → Calls Try.prog 85 #[u, v, agI c xp r xq] wx (FrRetR L S ⟨c, xp, r, xq⟩ wx) := fun wx hbx =>
          c_freeR u v n L S ⟨c, xp, r, xq⟩ wx ((HL.out.below hbx).mono hbx.size) ((HS.out.below hbx).mono hbx.size) hn HIB.out ⟨by show -1000000 ≤ c ∧ c ≤ 1000000; omega, by show -1000000 ≤ r ∧ r ≤ 1000000; omega, hxp, hxq⟩
        have HFR := Lib.hid hfr
        clear hfr
        have HB2 := Lib.hid (bl_set (bl_set HBL.out R 2 (by rw [HRR.out]; exact Nat.le_refl _) (.int .i64 r)) R 0 (by rw [HRR.out]; exact Nat.le_refl _) (.int .i64 c))
        have HX2 : Hid (Bk ((wr.setCell ⟨R, 2, none⟩ (.int .i64 r)).setCell ⟨R, 0, none⟩ (.int .i64 c)) R 100 #[.int .i64 c, .int .i64 xp, .int .i64 r, .int .i64 xq]) := by
          have := (HXW.out.set_ 2 (.int .i64 r)).set_ 0 (.int .i64 c)
          simpa [Hid] using this
        have HS2 := Lib.hid ((HXS.out.far (p := ⟨R, 2, none⟩) (by simp) (.int .i64 r)).far (p := ⟨R, 0, none⟩) (by simp) (.int .i64 c))
        go_wp2_with fail
        refine (HFR.out _ HB2.out).mono ?_
        rintro e w9 ⟨fv, rfl, hfv, hb9⟩
        have HB9 := Lib.hid (bl_trans HB2.out hb9)
        have HX9 := Lib.hid (HX2.out.below hb9 HX2.out.lt)
        have HS9 := Lib.hid (HS2.out.below hb9 HS2.out.lt)
        have HFV := Lib.hid hfv
        clear hb9 hfv q1 q2 q3 q4 q5 q6
        have q1 := HX9.out.cell; have q3 := HX9.out.lt
        have q4 := HS9.out.cell; have q5 := HS9.out.free; have q6 := HS9.out.lt
        cases fv
        · have hno : ¬ ok r c := fun h => by have := HFV.out.2 ((HOK.out r c).1 h); cases this
          obtain ⟨g', hg', hA'⟩ := HA.out.miss hv hno
          have HA' := Lib.hid hA'
          clear hno hA'
          go_wp2_with fail
          go_roundg g'
          case measure => exact hg'
          case rel => exact ⟨c + 1, rfl, by omega, by omega, by omega, HA'.out, ⟨_, _, HX9.out⟩, HS9.out, HB9.out⟩
        · have hyes : ok r c := (HOK.out r c).2 (HFV.out.1 rfl)
          obtain ⟨e1, e2⟩ := HA.out.hit hv hyes
          have HE1 := Lib.hid e1; have HE2 := Lib.hid e2
          clear e1 e2 hyes
          go_wp2_with fail
          exact bodyPost_ret (v := agI c xp r xq) (by simp [results, Try.results86, go_sem, q1, q3, q4, q5, q6]) rfl ⟨by rw [HE1.out, HE2.out], by repeat (first | exact HB9.out | with_reducible refine bl_set ?_ _ _ (by rw [HRR.out]; omega) _)⟩
      · obtain ⟨g', hg', hA'⟩ := HA.out.down hv hcols.1
        have HA' := Lib.hid hA'
        clear hA'
        go_wp2_with fail
        go_roundg g'
        case measure => rw [← HGG.out]; omega
        case rel => exact ⟨r + 1, 1, rfl, rfl, by omega, by omega, by omega, HA'.out, ⟨_, _, HXW.out⟩, HXS.out, HBL.out⟩
end Go.Proofs.Ytnjckpgacbibhaa
