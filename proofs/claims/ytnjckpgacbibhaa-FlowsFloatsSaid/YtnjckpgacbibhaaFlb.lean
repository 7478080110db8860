/- floats: the next height, the fit: the program's -/
import Derived.Test.YtnjckpgacbibhaaFla
import Derived.Deep.LoopGhost
namespace Go.Proofs.Ytnjckpgacbibhaa
set_option linter.unusedVariables false
set_option linter.unusedSimpArgs false
open Go.RowKit Go.Cas

theorem nxB_drop (y : Int) (L : List Flo) (k : Nat) (f : Flo) (b : Int) (d : Bool) (hk : L[k]? = some f) : nxB y (L.drop k) b d = nxB y (L.drop (k + 1)) (nx1B y f.bot (nx1B y f.y b d) (nx1F y f.y b d)) (nx1F y f.bot (nx1B y f.y b d) (nx1F y f.y b d)) := by
  obtain ⟨h1, h2⟩ := List.getElem?_eq_some_iff.1 hk
  rw [List.drop_eq_getElem_cons h1, h2]; rfl
theorem nx_fin {y : Int} {L : List Flo} {b1 b2 T : Int} {d1 d2 : Bool} (h : nxB y L b1 d1 = T) (hb : b2 = b1) (hd : d2 = d1) : Hid (nxB y L b2 d2 = T) := by subst hb hd; exact h
theorem nx1_hit {y a b : Int} {d : Bool} (h : y < a) (h2 : d = false ∨ a < b) : nx1B y a b d = a ∧ nx1F y a b d = true := by
  unfold nx1B nx1F; rw [if_pos ⟨h, h2⟩, if_pos ⟨h, h2⟩]; exact ⟨rfl, rfl⟩
theorem nx1_low {y a b : Int} {d : Bool} (h : ¬ y < a) : nx1B y a b d = b ∧ nx1F y a b d = d := by
  unfold nx1B nx1F; rw [if_neg (fun h2 => h h2.1), if_neg (fun h2 => h h2.1)]; exact ⟨rfl, rfl⟩
theorem nx1_far {y a b : Int} (h : ¬ a < b) : nx1B y a b true = b ∧ nx1F y a b true = true := by
  unfold nx1B nx1F; rw [if_neg (fun h2 => by rcases h2.2 with h3 | h3; cases h3; exact h h3), if_neg (fun h2 => by rcases h2.2 with h3 | h3; cases h3; exact h h3)]; exact ⟨rfl, rfl⟩

set_option maxRecDepth 100000 in
set_option maxHeartbeats 8000000 in
theorem c_next (p lp bp by_ lim n : Nat) (v : Value) (L : List Flo) (lo hi y : Int) (w : World) (kb : Bk w bp 68 #[.pointer (some ⟨p, 0, none⟩)]) (ky : Bk w by_ 3 #[.int .i64 y]) (kp : Bk w p 115 #[.int .i64 lo, .int .i64 hi, .pointer (some ⟨lp, 0, none⟩)]) (kl : Bk w lp 74 #[v]) (hr : RdS w lim 5 v n (fcs L)) (hlim : lim ≤ w.heap.size) (gd : ∀ f ∈ L, FB f) (hn : n ≤ 1000)
    (hy : -10000000000 ≤ y ∧ y ≤ 10000000000) : Calls Try.prog 92 #[.pointer (some ⟨bp, 0, none⟩), .pointer (some ⟨by_, 0, none⟩)] w fun e w' => e = .returned (.int .i64 (nxB y L 0 false)) ∧ Below w.heap.size w w' := by
  obtain ⟨hl, A, c, rfl, hnc, hcell⟩ := hr
  have hlen : L.length = n := by rw [fcs_len] at hl; omega
  have HN := Lib.hid hlen
  have HC := Lib.hid hcell
  have GD := Lib.hid gd
  have HB := Lib.hid (Below.refl w.heap.size w)
  have KY := Lib.hid ky
  obtain ⟨T, hT⟩ : ∃ T, T = nxB y L 0 false := ⟨_, rfl⟩
  have HT := Lib.hid hT
  have f1 := fold_max
  have c0 := kb.cell; have c1 := kp.cell; have c2 := kl.cell
  clear hcell hl hlen gd hT
  go_enter Try.func92, Try.ntmps92
  go_wp2_with fail
  clear c0 c1 c2
  go_loopw [3, 4, 16] (fun b d i wr => ∃ (k : Nat) (b' : Int) (d' : Bool), k ≤ n ∧ i = .int .i64 k ∧ b = .int .i64 b' ∧ d = .bool d' ∧ Hid (Below w.heap.size w wr) ∧ Hid (nxB y (L.drop k) b' d' = T)) (fun _ _ i _ => n - (intOf i).toNat)
  case atStart => exact ⟨0, 0, false, by omega, rfl, rfl, rfl, HB.out, HT.out.symm⟩
  case round =>
    obtain ⟨k, b', d', hk, rfl, rfl, rfl, HBL, H1⟩ := hrel
    by_cases hlt : k < n
    · have hkL : k < L.length := by rw [HN.out]; exact hlt
      obtain ⟨g, o, rfl, hg, hc⟩ := HC.out (by omega)
      obtain ⟨f, hf⟩ : ∃ f, L[k]? = some f := ⟨_, List.getElem?_eq_getElem hkL⟩
      have hb := GD.out f (List.mem_of_getElem? hf)
      obtain ⟨d0, d1, d2, d3, d4⟩ := rd_cells hc hf
      have lift : ∀ {q u}, w.cell? ⟨g, q, none⟩ = some u → wr.cell? ⟨g, q, none⟩ = some u := fun {q u} e => (HBL.out.cell (p := ⟨g, q, none⟩) (by show g < _; omega)).trans e
      have d0 := lift d0; have d1 := lift d1; have d2 := lift d2; have d3 := lift d3; have d4 := lift d4
      have e1 := (KY.out.below HBL.out KY.out.lt).cell
      have el := (KY.out.below HBL.out KY.out.lt).lt
      have s1 := Lib.hid (nxB_drop y L k f b' d' hf)
      clear lift hc hf hg
      obtain ⟨r, x, fy, fw, fh⟩ := f
      simp only at d0 d1 d2 d3 d4
      obtain ⟨b1, b2, b3, b4, b5, b6, b7, b8⟩ := hb
      simp only at b1 b2 b3 b4 b5 b6 b7 b8
      have hi : (k : Int) < (n : Int) := by omega
      cases d'
      all_goals
        go_wp2_with fail
        refine wp_loop_rounds 3 ?_
        repeat any_goals (rw [rounds_succ]; go_wp2_with fail)
      all_goals
        go_roundw
        case rel => exact ⟨k + 1, _, _, by omega, by go_num, rfl, rfl, bl_alloc (bl_alloc HBL.out _) _, nx_fin (s1.out.symm.trans H1.out) (by (simp only [nx1B, nx1F, Flo.bot]; repeat' split) <;> first | rfl | omega | (simp_all; done) | (exfalso; simp_all; omega) | (simp_all; omega)) (by (simp only [nx1B, nx1F, Flo.bot]; repeat' split) <;> first | rfl | omega | (simp_all; done) | (exfalso; simp_all; omega) | (simp_all; omega))⟩
        case measure => simp [intOf]; omega
    · have hik : ¬ (k : Int) < (n : Int) := by omega
      go_wp2_with fail
      go_ret
      refine ⟨ret_int ?_, HBL.out⟩
      have := H1.out; rw [List.drop_eq_nil_of_le (by rw [HN.out]; omega), HT.out] at this; exact this
end Go.Proofs.Ytnjckpgacbibhaa
