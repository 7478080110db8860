/- floats: one more: the reference's -/
import Derived.Test.YtnjckpgacbibhaaFle
import Derived.Test.YtnjckpgacbibhaaFld
namespace Go.Proofs.Ytnjckpgacbibhaa
set_option linter.unusedVariables false
set_option linter.unusedSimpArgs false
open Go.RowKit Go.Cas

set_option maxRecDepth 100000 in
set_option maxHeartbeats 8000000 in
theorem c_AddR (p base n : Nat) (v : Value) (L : List Flo) (lo hi wd h fr : Int) (rt : Bool) (w : World) (kp : Bk w p 83 #[.int .i64 lo, .int .i64 hi, v]) (own : w.ownsRow base 88 5 v n (fcs L)) (hbs : base ≤ w.heap.size) (hvp : v.ownBlock ≠ some p) (gd : ∀ f ∈ L, FB2 f) (hn : n < 200)
    (hlo : -16777216 ≤ lo ∧ lo ≤ 16777216) (hhi : -16777216 ≤ hi ∧ hi ≤ 16777216) : Calls Try.prog 48 #[.pointer (some ⟨p, 0, none⟩), .bool rt, .int .i64 wd, .int .i64 h, .int .i64 fr] w fun e w' => ∃ x y v', e = .returned (.tuple #[.int .i64 x, .int .i64 y]) ∧ IsFit L lo hi (zH wd) (zH h) (frF L (hld fr)) y ∧ x = xF L lo hi (zH wd) (zH h) y rt ∧ Bk w' p 83 #[.int .i64 lo, .int .i64 hi, v'] ∧ w'.ownsRow base 88 5 v' (n + 1) (fcs (L ++ [⟨rt, x, y, zH wd, zH h⟩])) ∧ (v'.ownBlock = v.ownBlock ∨ ∃ k, w.heap.size ≤ k ∧ v'.ownBlock = some k) ∧ Kept w w' (fun k => k = p ∨ v.ownBlock = some k) := by
  have hr := RdS.of_own own
  have HR := Lib.hid hr
  obtain ⟨hl, A, c, rfl, hnc, hcell⟩ := hr
  have hlen : L.length = n := by rw [fcs_len] at hl; omega
  have HN := Lib.hid hlen
  have HC := Lib.hid hcell
  have GD := Lib.hid gd
  have KP := Lib.hid kp
  have OWN := Lib.hid own
  have HB := Lib.hid (Below.refl w.heap.size w)
  have HFB := Lib.hid (fun k => frF_bd gd k (hld fr) (hld_bd fr))
  have HVP := Lib.hid hvp
  have zw := zH_bd wd; have zh := zH_bd h
  have z1 : ∀ m, max (hld m) 0 = zH m := fun m => by unfold zH; omega
  have c1 := kp.cell
  clear hcell hl hlen gd kp own hvp
  go_enter Try.func48, Try.ntmps48
  go_wp2_with (first | (go_at_call 17; refine (c_Held4 _ _).mono ?_; rintro e w' ⟨rfl, rfl⟩) | (go_at_call 71; refine (c_most4 _ _ _).mono ?_; rintro e w' ⟨rfl, rfl⟩; rw [z1]))
  clear c1
  go_loopw [4, 12] (fun a i wr => ∃ (k : Nat) (a' : Int), k ≤ n ∧ i = .int .i64 k ∧ a = .int .i64 a' ∧ Hid (a' = frF (L.take k) (hld fr)) ∧ w = wr) (fun _ i _ => n - (intOf i).toNat)
  case atStart => exact ⟨0, _, by omega, rfl, rfl, by simp [Hid, frF], by first | rfl | trivial⟩
  case round =>
    obtain ⟨k, a, hk, rfl, rfl, H1, rfl⟩ := hrel
    have c1 := KP.out.cell
    by_cases hlt : k < n
    · have hkL : k < L.length := by rw [HN.out]; exact hlt
      obtain ⟨g, o, rfl, hg, hc⟩ := HC.out (by omega)
      obtain ⟨f, hf⟩ : ∃ f, L[k]? = some f := ⟨_, List.getElem?_eq_getElem hkL⟩
      obtain ⟨d0, d1, d2, d3, d4⟩ := rd_cells hc hf
      have s1 := Lib.hid (frF_take L (hld fr) k f hf)
      clear hc hf hg
      obtain ⟨r, x, fy, fw, fh⟩ := f
      simp only at d0 d1 d2 d3 d4
      have hik : (k : Int) < (n : Int) := by omega
      go_wp2_with (go_at_call 71; refine (c_most4 _ _ _).mono ?_; rintro e w' ⟨rfl, rfl⟩)
      go_roundw
      case rel => exact ⟨k + 1, max a fy, by omega, by go_num, rfl, by rw [s1.out, H1.out]; rfl, by first | rfl | trivial⟩
      case measure => simp [intOf]; omega
    · have hik : ¬ (k : Int) < (n : Int) := by omega
      have hfr := HFB.out k
      have hFR : Hid (frF (L.take k) (hld fr) = frF L (hld fr)) := by rw [List.take_of_length_le (by rw [HN.out]; omega)]; rfl
      rw [← H1.out] at hfr
      have hcf : ∀ wx, wx = w → Calls Try.prog 80 #[.pointer (some ⟨p, 0, none⟩), .int .i64 (zH wd), .int .i64 (zH h), .int .i64 a] wx fun e w' => ∃ y l r, e = .returned (.tuple #[.int .i64 y, .int .i64 l, .int .i64 r]) ∧ Below w.heap.size w w' ∧ Hid (IsFit L lo hi (zH wd) (zH h) a y ∧ l = edL y (zH h) L lo ∧ r = edR y (zH h) L hi) ∧ -16777216 ≤ l ∧ l ≤ 50331648 ∧ -33554432 ≤ r ∧ r ≤ 16777216 := by
        rintro wx rfl
        refine (c_FitR p wx.heap.size n _ L lo hi (zH wd) (zH h) a _ KP.out HR.out (Nat.le_refl _) GD.out (by omega) hlo hhi zw (by omega) zh).mono ?_
        rintro e w' ⟨⟨y, rfl, hy⟩, hb⟩
        obtain ⟨⟨l1, l2⟩, r1, r2⟩ := ed_bd (y := y) (h := zH h) (fun f hf => (GD.out f hf).1) hlo.1 hlo.2 hhi.1 hhi.2
        exact ⟨y, _, _, rfl, hb, ⟨hy, rfl, rfl⟩, l1, l2, r1, r2⟩
      have HCF := Lib.hid hcf
      clear hcf
      go_wp2_with fail
      refine (HCF.out _ rfl).mono ?_; rintro e w2 ⟨y, l, r, rfl, hbl, HF, l1, l2, r1, r2⟩
      have HBL2 := Lib.hid hbl
      have kp2 := KP.out.below hbl KP.out.lt
      have lg := kp2.lt
      have own2 := (Kept.of_below hbl (fun _ => False)).own OWN.out (fun _ _ h => h)
      have c1 := kp2.cell
      have OWN2 := Lib.hid own2
      have HKP2 := Lib.hid kp2
      have hb2 := hbl.size
      clear own2 kp2 hbl
      cases rt
      · skip
        go_wp2_with (at_builtin; refine wp_push rfl _ _ 81 rfl base 88 Try.underlying81 inf_FloatR rfl (by decide) w2 (.slice A n c) n (fcs L) [.bool false, .int .i64 l, .int .i64 y, .int .i64 (zH wd), .int .i64 (zH h)] rfl rfl rfl OWN2.out rfl (by simp [Value.oneCell']) (by omega) (by omega) (by omega) ?_; intro v' w1 hpush; obtain ⟨gg, cap, rfl, hg1, hg2⟩ := hpush.own.form (by omega); have hbk1 := HKP2.out.grown hpush.grown (Ne.symm HVP.out); have hfz := hbk1.free 2; have hce := hbk1.cell; have hll := hbk1.lt; have HPU := Lib.hid hpush; have HB1 := Lib.hid hbk1; clear hpush hbk1)
        go_ret2
        have hk1 : Kept w2 w1 (fun k => (Value.slice A n c).ownBlock = some k) := Kept.grown HPU.out.grown _ (fun k h => h)
        refine ⟨l, y, .slice (some ⟨gg, 0, none⟩) (n + 1) cap, rfl, ?_, ?_, ?_, ?_, ?_, ?_⟩
        · rw [← hFR.out, ← H1.out]; exact HF.out.1
        · rw [HF.out.2.1]; rfl
        · have := HB1.out.set_ 2 (.slice (some ⟨gg, 0, none⟩) (n + 1) cap); simpa using this
        · rw [fcs_snoc]
          refine (Kept.set_ (ex := fun k => k = p) (Kept.refl _ _) p 2 (fun _ => rfl) _).own HPU.out.own (fun k hk he => ?_)
          subst he
          rcases HPU.out.at_ with hat | ⟨j, hj, hat⟩
          · exact HVP.out (by rw [← hat]; exact hk)
          · rw [hat] at hk; injection hk with hk; omega
        · rcases HPU.out.at_ with hat | ⟨j, hj, hat⟩
          · left; exact hat
          · right; exact ⟨j, by omega, hat⟩
        · exact ((Kept.of_below HBL2.out _).then_ (hk1.mono (fun k _ h => .inr h)) (fun _ _ h => h)).set_ p 2 (fun _ => .inl rfl) _
      · skip
        go_wp2_with (at_builtin; refine wp_push rfl _ _ 81 rfl base 88 Try.underlying81 inf_FloatR rfl (by decide) w2 (.slice A n c) n (fcs L) [.bool true, .int .i64 (r - zH wd), .int .i64 y, .int .i64 (zH wd), .int .i64 (zH h)] rfl rfl rfl OWN2.out rfl (by simp [Value.oneCell']) (by omega) (by omega) (by omega) ?_; intro v' w1 hpush; obtain ⟨gg, cap, rfl, hg1, hg2⟩ := hpush.own.form (by omega); have hbk1 := HKP2.out.grown hpush.grown (Ne.symm HVP.out); have hfz := hbk1.free 2; have hce := hbk1.cell; have hll := hbk1.lt; have HPU := Lib.hid hpush; have HB1 := Lib.hid hbk1; clear hpush hbk1)
        go_ret2
        have hk1 : Kept w2 w1 (fun k => (Value.slice A n c).ownBlock = some k) := Kept.grown HPU.out.grown _ (fun k h => h)
        refine ⟨(r - zH wd), y, .slice (some ⟨gg, 0, none⟩) (n + 1) cap, rfl, ?_, ?_, ?_, ?_, ?_, ?_⟩
        · rw [← hFR.out, ← H1.out]; exact HF.out.1
        · rw [HF.out.2.2]; rfl
        · have := HB1.out.set_ 2 (.slice (some ⟨gg, 0, none⟩) (n + 1) cap); simpa using this
        · rw [fcs_snoc]
          refine (Kept.set_ (ex := fun k => k = p) (Kept.refl _ _) p 2 (fun _ => rfl) _).own HPU.out.own (fun k hk he => ?_)
          subst he
          rcases HPU.out.at_ with hat | ⟨j, hj, hat⟩
          · exact HVP.out (by rw [← hat]; exact hk)
          · rw [hat] at hk; injection hk with hk; omega
        · rcases HPU.out.at_ with hat | ⟨j, hj, hat⟩
          · left; exact hat
          · right; exact ⟨j, by omega, hat⟩
        · exact ((Kept.of_below HBL2.out _).then_ (hk1.mono (fun k _ h => .inr h)) (fun _ _ h => h)).set_ p 2 (fun _ => .inl rfl) _
end Go.Proofs.Ytnjckpgacbibhaa
