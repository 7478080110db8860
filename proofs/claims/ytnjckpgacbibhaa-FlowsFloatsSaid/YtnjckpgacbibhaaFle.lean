/- floats: one more: the program's -/
import Derived.Test.YtnjckpgacbibhaaFlc
import Derived.Deep.RegionLaw
namespace Go.Proofs.Ytnjckpgacbibhaa
set_option linter.unusedVariables false
set_option linter.unusedSimpArgs false
open Go.RowKit Go.Cas

theorem inf_Float : (Try.prog.info? 77).map (fun i => (i.zero, i.size, i.bytes)) = some (some (.agg #[.bool false, .int .i64 0, .int .i64 0, .int .i64 0, .int .i64 0]), 5, 40) := by kernel_rfl
theorem inf_FloatR : (Try.prog.info? 88).map (fun i => (i.zero, i.size, i.bytes)) = some (some (.agg #[.bool false, .int .i64 0, .int .i64 0, .int .i64 0, .int .i64 0]), 5, 40) := by kernel_rfl
theorem frF_take (L : List Flo) (fr : Int) (k : Nat) (f : Flo) (h : L[k]? = some f) : frF (L.take (k + 1)) fr = max (frF (L.take k) fr) f.y := by
  obtain ⟨h1, h2⟩ := List.getElem?_eq_some_iff.1 h
  rw [List.take_succ_eq_append_getElem h1, h2, frF_snoc]
def zH (n : Int) : Int := max 0 (hld n)
theorem zH_bd (n : Int) : 0 ≤ zH n ∧ zH n ≤ 16777216 := by have := hld_bd n; unfold zH; omega
theorem frF_bd {L : List Flo} (gd : ∀ f ∈ L, FB2 f) (k : Nat) (fr : Int) (h : -16777216 ≤ fr ∧ fr ≤ 16777216) : -16777216 ≤ frF (L.take k) fr ∧ frF (L.take k) fr ≤ 9000000000 :=
  ⟨Int.le_trans h.1 (frF_ge _ _).1, frF_le _ _ _ (by omega) (fun f hf => (gd f (List.mem_of_mem_take hf)).2)⟩

set_option maxRecDepth 100000 in
set_option maxHeartbeats 8000000 in
theorem c_Add (p lp base n : Nat) (v : Value) (L : List Flo) (lo hi wd h fr : Int) (rt : Bool) (w : World) (kp : Bk w p 115 #[.int .i64 lo, .int .i64 hi, .pointer (some ⟨lp, 0, none⟩)]) (kl : Bk w lp 74 #[v]) (own : w.ownsRow base 77 5 v n (fcs L)) (hbs : base ≤ w.heap.size) (hpl : p ≠ lp) (hvp : v.ownBlock ≠ some p) (hvl : v.ownBlock ≠ some lp) (gd : ∀ f ∈ L, FB2 f) (hn : n < 200)
    (hlo : -16777216 ≤ lo ∧ lo ≤ 16777216) (hhi : -16777216 ≤ hi ∧ hi ≤ 16777216) : Calls Try.prog 42 #[.pointer (some ⟨p, 0, none⟩), .bool rt, .int .i64 wd, .int .i64 h, .int .i64 fr] w fun e w' => ∃ x y v', e = .returned (.tuple #[.int .i64 x, .int .i64 y]) ∧ IsFit L lo hi (zH wd) (zH h) (frF L (hld fr)) y ∧ x = xF L lo hi (zH wd) (zH h) y rt ∧ Bk w' lp 74 #[v'] ∧ w'.ownsRow base 77 5 v' (n + 1) (fcs (L ++ [⟨rt, x, y, zH wd, zH h⟩])) ∧ (v'.ownBlock = v.ownBlock ∨ ∃ k, w.heap.size ≤ k ∧ v'.ownBlock = some k) ∧ Kept w w' (fun k => k = lp ∨ v.ownBlock = some k) := by
  have hr := RdS.of_own own
  have HR := Lib.hid hr
  obtain ⟨hl, A, c, rfl, hnc, hcell⟩ := hr
  have hlen : L.length = n := by rw [fcs_len] at hl; omega
  have HN := Lib.hid hlen
  have HC := Lib.hid hcell
  have GD := Lib.hid gd
  have KP := Lib.hid kp
  have KL := Lib.hid kl
  have OWN := Lib.hid own
  have HB := Lib.hid (Below.refl w.heap.size w)
  have HFB := Lib.hid (fun k => frF_bd gd k (hld fr) (hld_bd fr))
  have HVP := Lib.hid hvp; have HVL := Lib.hid hvl; have HPL := Lib.hid hpl
  have f1 := fold_max
  have zw := zH_bd wd; have zh := zH_bd h
  have z1 : ∀ m, max 0 (hld m) = zH m := fun _ => rfl
  have c1 := kp.cell; have c2 := kl.cell
  clear hcell hl hlen gd kp kl own hvp hvl hpl
  go_enter Try.func42, Try.ntmps42
  go_wp2_with (go_at_call 54; refine (c_held _ _).mono ?_; rintro e w' ⟨rfl, rfl⟩)
  clear c1 c2
  go_loopw [4, 39] (fun a i wr => ∃ (k : Nat) (a' : Int), k ≤ n ∧ i = .int .i64 k ∧ a = .int .i64 a' ∧ Hid (a' = frF (L.take k) (hld fr)) ∧ Hid (Below w.heap.size w wr)) (fun _ i _ => n - (intOf i).toNat)
  case atStart => exact ⟨0, _, by omega, rfl, rfl, by simp [Hid, frF], HB.out⟩
  case round =>
    obtain ⟨k, a, hk, rfl, rfl, H1, HBL⟩ := hrel
    by_cases hlt : k < n
    · have hkL : k < L.length := by rw [HN.out]; exact hlt
      obtain ⟨g, o, rfl, hg, hc⟩ := HC.out (by omega)
      obtain ⟨f, hf⟩ : ∃ f, L[k]? = some f := ⟨_, List.getElem?_eq_getElem hkL⟩
      obtain ⟨d0, d1, d2, d3, d4⟩ := rd_cells hc hf
      have lift : ∀ {q u}, w.cell? ⟨g, q, none⟩ = some u → wr.cell? ⟨g, q, none⟩ = some u := fun {q u} e => (HBL.out.cell (p := ⟨g, q, none⟩) hg).trans e
      replace d0 := lift d0; replace d1 := lift d1; replace d2 := lift d2; replace d3 := lift d3; replace d4 := lift d4
      have s1 := Lib.hid (frF_take L (hld fr) k f hf)
      clear lift hc hf hg
      obtain ⟨r, x, fy, fw, fh⟩ := f
      simp only at d0 d1 d2 d3 d4
      have hik : (k : Int) < (n : Int) := by omega
      go_wp2_with fail
      go_roundw
      case rel => exact ⟨k + 1, max a fy, by omega, by go_num, rfl, by rw [s1.out, H1.out]; rfl, bl_alloc HBL.out _⟩
      case measure => simp [intOf]; omega
    · have hik : ¬ (k : Int) < (n : Int) := by omega
      have hfr := HFB.out k
      have hFR : Hid (frF (L.take k) (hld fr) = frF L (hld fr)) := by rw [List.take_of_length_le (by rw [HN.out]; omega)]; rfl
      rw [← H1.out] at hfr
      have hcf : ∀ wx, wx = wr → Calls Try.prog 76 #[.pointer (some ⟨p, 0, none⟩), .int .i64 (zH wd), .int .i64 (zH h), .int .i64 a] wx fun e w' => ∃ y l r, e = .returned (.tuple #[.int .i64 y, .int .i64 l, .int .i64 r]) ∧ Below wr.heap.size wr w' ∧ Hid (IsFit L lo hi (zH wd) (zH h) a y ∧ l = edL y (zH h) L lo ∧ r = edR y (zH h) L hi) ∧ -16777216 ≤ l ∧ l ≤ 50331648 ∧ -33554432 ≤ r ∧ r ≤ 16777216 := by
        rintro wx rfl
        refine (c_Fit p lp w.heap.size n _ L lo hi (zH wd) (zH h) a _ (KP.out.below HBL.out KP.out.lt) (KL.out.below HBL.out KL.out.lt) (HR.out.below HBL.out) HBL.out.size GD.out (by omega) hlo hhi zw (by omega) zh).mono ?_
        rintro e w' ⟨⟨y, rfl, hy⟩, hb⟩
        obtain ⟨⟨l1, l2⟩, r1, r2⟩ := ed_bd (y := y) (h := zH h) (fun f hf => (GD.out f hf).1) hlo.1 hlo.2 hhi.1 hhi.2
        exact ⟨y, _, _, rfl, hb, ⟨hy, rfl, rfl⟩, l1, l2, r1, r2⟩
      have HCF := Lib.hid hcf
      clear hcf
      go_wp2_with fail
      refine (HCF.out _ rfl).mono ?_; rintro e w2 ⟨y, l, r, rfl, hbl, HF, l1, l2, r1, r2⟩
      have HBL2 := Lib.hid (bl_trans HBL.out hbl)
      have kp2 := KP.out.below HBL2.out KP.out.lt; have kl2 := KL.out.below HBL2.out KL.out.lt
      have lg := kp2.lt; have ll := kl2.lt
      have own2 := (Kept.of_below HBL2.out (fun _ => False)).own OWN.out (fun _ _ h => h)
      clear hbl
      obtain ⟨i0, hi0, hz0, hz1, hz2⟩ := info_parts inf_Float
      have c1 := kp2.cell 2
      have c2 := kl2.cell 0
      have c3 := kl2.free 0
      simp only [List.getElem?_toArray, List.getElem?_cons_succ, List.getElem?_cons_zero] at c1 c2
      have OWN2 := Lib.hid own2
      have HKL2 := Lib.hid kl2
      have HKP2 := Lib.hid kp2
      have hb2 := HBL2.out.size
      clear own2 kp2 kl2
      cases rt
      · skip
        go_wp2_with fail
        go_region_law
          ((refine step_append_lies _ (by rfl) _ _ _ (by rfl) base 77 i0 _ 5 40 Try.underlying74 hi0 hz0 hz1 hz2 rfl (by omega) (.slice A n c) n (fcs L) (by rfl) ((OWN2.out.alloc _).drew)
              ⟨w2.heap.size, 0, none⟩ 1 1 [.bool false, .int .i64 l, .int .i64 y, .int .i64 (zH wd), .int .i64 (zH h)] (by rfl) (by rfl) (World.news_of_block (cs := #[.bool false, .int .i64 l, .int .i64 y, .int .i64 (zH wd), .int .i64 (zH h)]) (t := 77) (fr := (0, 0)) (heap_alloc_new w2 _)) (by simp [Value.oneCell'])
              (by omega) (by unfold maxLen; omega) (by omega) (by simp; omega) (w2.heap.size + 1) (by simp) ?_; intro gg cap w1 hown1 hgrow hat hlt; have hbk1 := (Bk.drew (HKL2.out.alloc _)).grown hgrow (Ne.symm HVL.out); have hfz := hbk1.free 0; have hce := hbk1.cell 0; have hll := hbk1.lt; have hpk1 := (Bk.drew (HKP2.out.alloc _)).grown hgrow (Ne.symm HVP.out); have hpc := hpk1.cell 2))
        all_goals
          go_wp2_with fail
          go_ret2
          have hk1 : Kept w2 w1 (fun k => (Value.slice A n c).ownBlock = some k) := (Kept.alloc (Kept.refl _ _) _).drew.then_ (Kept.grown hgrow _ (fun k h => h)) (fun _ _ h => h)
          refine ⟨l, y, .slice (some ⟨gg, 0, none⟩) (n + 1) cap, rfl, ?_, ?_, ?_, ?_, ?_, ?_⟩
          · rw [← hFR.out, ← H1.out]; exact HF.out.1
          · rw [HF.out.2.1]; rfl
          · have := (hk1.bk HKL2.out HVL.out).set_ 0 (.slice (some ⟨gg, 0, none⟩) (n + 1) cap); simpa using this
          · rw [fcs_snoc]
            refine (Kept.set_ (ex := fun k => k = lp) (Kept.refl _ _) lp 0 (fun _ => rfl) _).own hown1 (fun k hk he => ?_)
            subst he
            rcases hat with hat | hat
            · exact HVL.out (by rw [hat]; exact hk)
            · have : gg = k := by simpa [Value.ownBlock] using hk
              omega
          · rcases hat with hat | hat
            · left; rw [hat]; rfl
            · right; exact ⟨gg, by omega, rfl⟩
          · refine ((Kept.of_below HBL2.out _).then_ (hk1.mono (fun k _ h => .inr h)) (fun _ _ h => h)).set_ lp 0 (fun _ => .inl rfl) _
      · skip
        go_wp2_with fail
        go_region_law
          ((refine step_append_lies _ (by rfl) _ _ _ (by rfl) base 77 i0 _ 5 40 Try.underlying74 hi0 hz0 hz1 hz2 rfl (by omega) (.slice A n c) n (fcs L) (by rfl) ((OWN2.out.alloc _).drew)
              ⟨w2.heap.size, 0, none⟩ 1 1 [.bool true, .int .i64 (r - zH wd), .int .i64 y, .int .i64 (zH wd), .int .i64 (zH h)] (by rfl) (by rfl) (World.news_of_block (cs := #[.bool true, .int .i64 (r - zH wd), .int .i64 y, .int .i64 (zH wd), .int .i64 (zH h)]) (t := 77) (fr := (0, 0)) (heap_alloc_new w2 _)) (by simp [Value.oneCell'])
              (by omega) (by unfold maxLen; omega) (by omega) (by simp; omega) (w2.heap.size + 1) (by simp) ?_; intro gg cap w1 hown1 hgrow hat hlt; have hbk1 := (Bk.drew (HKL2.out.alloc _)).grown hgrow (Ne.symm HVL.out); have hfz := hbk1.free 0; have hce := hbk1.cell 0; have hll := hbk1.lt; have hpk1 := (Bk.drew (HKP2.out.alloc _)).grown hgrow (Ne.symm HVP.out); have hpc := hpk1.cell 2))
        all_goals
          go_wp2_with fail
          go_ret2
          have hk1 : Kept w2 w1 (fun k => (Value.slice A n c).ownBlock = some k) := (Kept.alloc (Kept.refl _ _) _).drew.then_ (Kept.grown hgrow _ (fun k h => h)) (fun _ _ h => h)
          refine ⟨(r - zH wd), y, .slice (some ⟨gg, 0, none⟩) (n + 1) cap, rfl, ?_, ?_, ?_, ?_, ?_, ?_⟩
          · rw [← hFR.out, ← H1.out]; exact HF.out.1
          · rw [HF.out.2.2]; rfl
          · have := (hk1.bk HKL2.out HVL.out).set_ 0 (.slice (some ⟨gg, 0, none⟩) (n + 1) cap); simpa using this
          · rw [fcs_snoc]
            refine (Kept.set_ (ex := fun k => k = lp) (Kept.refl _ _) lp 0 (fun _ => rfl) _).own hown1 (fun k hk he => ?_)
            subst he
            rcases hat with hat | hat
            · exact HVL.out (by rw [hat]; exact hk)
            · have : gg = k := by simpa [Value.ownBlock] using hk
              omega
          · rcases hat with hat | hat
            · left; rw [hat]; rfl
            · right; exact ⟨gg, by omega, rfl⟩
          · refine ((Kept.of_below HBL2.out _).then_ (hk1.mono (fun k _ h => .inr h)) (fun _ _ h => h)).set_ lp 0 (fun _ => .inl rfl) _
end Go.Proofs.Ytnjckpgacbibhaa
