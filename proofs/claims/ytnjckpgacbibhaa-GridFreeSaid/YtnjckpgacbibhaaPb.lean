/- the picture of marks: the program's -/
import Derived.Test.YtnjckpgacbibhaaPa
import Derived.Test.YtnjckpgacbibhaaIa
import Derived.Laws.MakeOwn
namespace Go.Proofs.Ytnjckpgacbibhaa
set_option linter.unusedVariables false
set_option linter.unusedSimpArgs false
open Go.RowKit Go.Cas

theorem infI : (Try.prog.info? 3).map (fun i => (i.zero, i.size, i.bytes)) = some (some (.int .i64 0), 1, 8) := by kernel_rfl
theorem infS : (Try.prog.info? 28).map (fun i => (i.zero, i.size, i.bytes)) = some (some (.slice none 0 0), 1, 24) := by kernel_rfl
theorem made_row (z : Value) (hz : z.cells = #[z]) (n : Nat) : madeCells z.cells (n * 1) = rowV n (fun _ => z) := by
  rw [hz, Nat.mul_one]
  apply Array.ext'
  apply List.ext_getElem?
  intro k
  simp only [madeCells, rowV, Array.toList_map, Array.toList_range, List.getElem?_map]
  by_cases hk : k < n
  · rw [List.getElem?_range hk]
    simp [Nat.mod_one]
  · simp [hk]
theorem make_I (w : World) (n : Nat) (hn : n ≤ 1000000) : ∃ w1, (Instr.makeSlice 28 (.int .i64 (n : Int)) (.int .i64 (n : Int))).run Try.prog w = .ok (.slice (some ⟨w.heap.size, 0, none⟩) n n) w1 ∧ Hid (w1 = w.alloc (.cells (rowV n (fun _ => .int .i64 0)) 3)) := by
  obtain ⟨i, hi, hz, h3, h4⟩ := info_parts infI
  have h := run_make (P := Try.prog) w 28 3 i (.int .i64 0) Try.underlying28 hi hz .i64 .i64 n n (by omega) (Int.le_refl _) (by rw [h4]; omega) (by omega)
  simp only [Int.toNat_natCast] at h
  rw [h3, made_row _ rfl] at h
  exact ⟨_, h, rfl⟩
theorem make_S (w : World) (n : Nat) (hn : n ≤ 1000000) : ∃ w1, (Instr.makeSlice 38 (.int .i64 (n : Int)) (.int .i64 (n : Int))).run Try.prog w = .ok (.slice (some ⟨w.heap.size, 0, none⟩) n n) w1 ∧ Hid (w1 = w.alloc (.cells (rowV n (fun _ => .slice none 0 0)) 28)) := by
  obtain ⟨i, hi, hz, h3, h4⟩ := info_parts infS
  have h := run_make (P := Try.prog) w 38 28 i (.slice none 0 0) Try.underlying38 hi hz .i64 .i64 n n (by omega) (Int.le_refl _) (by rw [h4]; omega) (by omega)
  simp only [Int.toNat_natCast] at h
  rw [h3, made_row _ rfl] at h
  exact ⟨_, h, rfl⟩
def sideN (n : Int) : Nat := (max 0 (min n 64)).toNat
theorem side_eq (n : Int) : max 0 (min n 64) = ((sideN n : Nat) : Int) := by unfold sideN; omega
theorem side_le (n : Int) : sideN n ≤ 64 := by unfold sideN; omega
theorem mc_cells {w : World} {g o : Nat} {L : List Mrk} {k : Nat} {f : Mrk} (hc : ∀ j u, (L.flatMap mc)[j]? = some u → w.cell? ⟨g, o + j, none⟩ = some u) (hk : L[k]? = some f) :
    w.cell? ⟨g, o + k * 7, none⟩ = some (.int .i64 f.node) ∧ w.cell? ⟨g, o + k * 7 + 1, none⟩ = some (.int .i64 f.color) ∧ w.cell? ⟨g, o + k * 7 + 2, none⟩ = some (.int .i64 f.x) ∧ w.cell? ⟨g, o + k * 7 + 3, none⟩ = some (.int .i64 f.y) ∧ w.cell? ⟨g, o + k * 7 + 4, none⟩ = some (.int .i64 f.w) ∧ w.cell? ⟨g, o + k * 7 + 5, none⟩ = some (.int .i64 f.h) ∧ w.cell? ⟨g, o + k * 7 + 6, none⟩ = some (.string f.t) := by
  have flat : ∀ (L : List Mrk) (i k : Nat) (x : Mrk), L[i]? = some x → k < 7 → (L.flatMap mc)[i * 7 + k]? = (mc x)[k]? := by
    intro L
    induction L with
    | nil => intro i k x h; simp at h
    | cons a L ih =>
      intro i k x h hk
      rw [List.flatMap_cons]
      cases i with
      | zero => simp at h; subst h; rw [Nat.zero_mul, Nat.zero_add, List.getElem?_append_left (by simpa [mc] using hk)]
      | succ i =>
        simp at h
        rw [List.getElem?_append_right (by simp [mc]; omega), ← ih i k x h hk]
        congr 1; simp [mc]; omega
  have h : ∀ j, j < 7 → ∀ u, (mc f)[j]? = some u → w.cell? ⟨g, o + k * 7 + j, none⟩ = some u := fun j hj u hu => by
    have := hc (k * 7 + j) u (by rw [flat L k j f hk hj]; exact hu)
    rwa [← Nat.add_assoc] at this
  exact ⟨h 0 (by omega) _ rfl, h 1 (by omega) _ rfl, h 2 (by omega) _ rfl, h 3 (by omega) _ rfl, h 4 (by omega) _ rfl, h 5 (by omega) _ rfl, h 6 (by omega) _ rfl⟩
def MB (m : Mrk) : Prop := -16777216 ≤ m.x ∧ m.x ≤ 16777216 ∧ -16777216 ≤ m.y ∧ m.y ≤ 16777216 ∧ -16777216 ≤ m.w ∧ m.w ≤ 16777216 ∧ -16777216 ≤ m.h ∧ m.h ≤ 16777216

set_option maxRecDepth 100000 in
set_option maxHeartbeats 16000000 in
theorem c_Picture (v : Value) (n lim : Nat) (L : List Mrk) (wd ht : Int) (w : World) (hr : RdS w lim 7 v n (L.flatMap mc)) (hL : L.length = n) (hlim : lim ≤ w.heap.size) (hn : n ≤ 1000) (gd : ∀ m ∈ L, MB m) :
    Calls Try.prog 20 #[v, .int .i64 wd, .int .i64 ht] w fun e w' => e = .returned (.slice (some ⟨w.heap.size, 0, none⟩) (sideN ht) (sideN ht)) ∧ Mat w' 28 3 w.heap.size (sideN ht) (sideN wd) (fun y x => pxl L (mid x) (mid y)) ∧ Below w.heap.size w w' := by
  obtain ⟨hl, A, c, rfl, hnc, hcell⟩ := hr
  have HC := Lib.hid hcell
  have HN := Lib.hid hL
  have GD := Lib.hid gd
  have f1 := fold_max; have f2 := fold_min
  obtain ⟨W, hW⟩ : ∃ W, W = sideN wd := ⟨_, rfl⟩
  obtain ⟨H, hH⟩ : ∃ H, H = sideN ht := ⟨_, rfl⟩
  have eW : max 0 (min wd 64) = (W : Int) := by rw [hW]; exact side_eq wd
  have eH : max 0 (min ht 64) = (H : Int) := by rw [hH]; exact side_eq ht
  have lW : W ≤ 64 := by rw [hW]; exact side_le wd
  have lH : H ≤ 64 := by rw [hH]; exact side_le ht
  rw [← hW, ← hH]
  clear hcell hl hL gd hW hH
  obtain ⟨w1, hm1, HM1⟩ := make_S w H (by omega)
  obtain ⟨O, hO⟩ : ∃ O, O = w.heap.size := ⟨_, rfl⟩
  have hz1 : w1.heap.size = O + 1 := by rw [HM1.out, hO]; simp
  rw [← hO] at hm1 ⊢
  have HO := Lib.hid hO
  have HZ1 := Lib.hid hz1
  clear hO hz1
  go_enter Try.func20, Try.ntmps20
  go_wp2_with fail
  clear hm1 eW eH
  go_loopw [27] (fun i wr => ∃ (y : Nat), y ≤ H ∧ i = .int .i64 y ∧ Hid (Bk wr O 28 (rowV H (fun j => if j < y then .slice (some ⟨O + 1 + j, 0, none⟩) W W else .slice none 0 0))) ∧ Hid (∀ j, j < y → Bk wr (O + 1 + j) 3 (rowV W (fun _ => .int .i64 (-1)))) ∧ Hid (Below w.heap.size w wr) ∧ Hid (wr.heap.size = O + 1 + y)) (fun i _ => H - (intOf i).toNat)
  case atStart => exact ⟨0, by omega, rfl, by rw [HM1.out, HO.out]; simpa [Hid] using Bk.new w 28 (rowV H (fun _ => .slice none 0 0)), fun j hj => by omega, by rw [HM1.out]; exact bl_alloc (Below.refl _ _) _, by have := HZ1.out; simpa [Hid] using this⟩
  case round =>
    obtain ⟨y, hy, rfl, HT, HR, HB, HZ⟩ := hrel
    by_cases hlt : y < H
    · have hik : (y : Int) < (H : Int) := by omega
      obtain ⟨w2, hm2, HM2⟩ := make_I wr W (by omega)
      have hT2 : Bk w2 O 28 (rowV H (fun j => if j < y then .slice (some ⟨O + 1 + j, 0, none⟩) W W else .slice none 0 0)) := by rw [HM2.out]; exact HT.out.alloc _
      have q1 : w2.cell? ⟨O, y, none⟩ = some (.slice none 0 0) := by rw [hT2.cell, rowV_get _ _ _ hlt]; simp
      have q2 := hT2.free y
      have HT2 := Lib.hid hT2
      rw [HZ.out] at hm2
      have hOy : O + 1 + y ≠ O := by omega
      have HB2 : Hid (Below w.heap.size w w2) := by rw [HM2.out]; exact bl_alloc HB.out _
      have HZ2 : Hid (w2.heap.size = O + 1 + y + 1) := by have := HZ.out; rw [HM2.out]; simp [Hid, this]
      have HR2 : Hid (∀ j, j < y → Bk w2 (O + 1 + j) 3 (rowV W (fun _ => .int .i64 (-1)))) := fun j hj => by rw [HM2.out]; exact (HR.out j hj).alloc _
      have HN2 : Hid (Bk w2 (O + 1 + y) 3 (rowV W (fun _ => .int .i64 0))) := by rw [HM2.out]; exact bk_new' _ _ _ HZ.out.symm
      clear hT2
      go_wp2_with fail
      clear q1 q2 hm2
      go_loopw [40] (fun i wr3 => ∃ (x : Nat), x ≤ W ∧ i = .int .i64 x ∧ Hid (Bk wr3 O 28 (rowV H (fun j => if j < y + 1 then .slice (some ⟨O + 1 + j, 0, none⟩) W W else .slice none 0 0))) ∧ Hid (Bk wr3 (O + 1 + y) 3 (rowV W (fun j => if j < x then .int .i64 (-1) else .int .i64 0))) ∧ Hid (∀ j, j < y → Bk wr3 (O + 1 + j) 3 (rowV W (fun _ => .int .i64 (-1)))) ∧ Hid (Below w.heap.size w wr3) ∧ Hid (wr3.heap.size = O + 1 + y + 1)) (fun i _ => W - (intOf i).toNat)
      case atStart =>
        refine ⟨0, by omega, rfl, ?_, ?_, fun j hj => (HR2.out j hj).far (by show O + 1 + j ≠ O; omega) _, bl_set HB2.out _ _ (by rw [HO.out]; exact Nat.le_refl _) _, by have := HZ2.out; simpa [Hid, World.setCell] using this⟩
        · have := HT2.out.set_ y (.slice (some ⟨O + 1 + y, 0, none⟩) W W)
          rw [rowV_set, rowV_next H y (fun j => .slice (some ⟨O + 1 + j, 0, none⟩) W W) (.slice none 0 0) _ (fun j _ => rfl)] at this
          exact this
        · have := HN2.out.far (p := ⟨O, y, none⟩) hOy (.slice (some ⟨O + 1 + y, 0, none⟩) W W)
          simpa [Hid] using this
      case round =>
        obtain ⟨x, hx, rfl, HT3, HX3, HR3, HB3, HZ3⟩ := hrel
        have q1 : wr.cell? ⟨O, y, none⟩ = some (.slice (some ⟨O + 1 + y, 0, none⟩) W W) := by rw [HT3.out.cell, rowV_get _ _ _ hlt]; simp
        by_cases hxW : x < W
        · have hik2 : (x : Int) < (W : Int) := by omega
          have q2 : wr.cell? ⟨O + 1 + y, x, none⟩ = some (.int .i64 0) := by rw [HX3.out.cell, rowV_get _ _ _ hxW]; simp
          have q3 := HX3.out.free x
          go_wp2_with fail
          go_roundw
          case rel =>
            refine ⟨x + 1, by omega, by go_num, HT3.out.far (by show O ≠ O + 1 + y; omega) _, ?_, fun j hj => (HR3.out j hj).far (by show O + 1 + j ≠ O + 1 + y; omega) _, bl_set HB3.out _ _ (by have := HO.out; omega) _, by have := HZ3.out; simpa [Hid, World.setCell] using this⟩
            have := HX3.out.set_ x (.int .i64 (-1))
            rw [rowV_set, rowV_next W x (fun _ => .int .i64 (-1)) (.int .i64 0) _ (fun j _ => rfl)] at this
            exact this
          case measure => simp [intOf]; omega
        · obtain rfl : x = W := by omega
          have hik2 : ¬ (x : Int) < (x : Int) := by omega
          go_wp2_with fail
          go_roundw
          case rel =>
            refine ⟨y + 1, by omega, by go_num, HT3.out, fun j hj => ?_, HB3.out, by have := HZ3.out; unfold Hid; omega⟩
            by_cases e : j = y
            · subst e
              rw [rowV_congr (g := fun j => if j < x then .int .i64 (-1) else .int .i64 0) (fun k hk => by rw [if_pos hk])]
              exact HX3.out
            · exact HR3.out j (by omega)
          case measure => simp [intOf]; omega
    · obtain rfl : y = H := by omega
      have HM : Hid (Mat wr 28 3 O y W (fun b a => pxl [] (mid a) (mid b))) := ⟨by rw [rowV_congr (g := fun j => if j < y then .slice (some ⟨O + 1 + j, 0, none⟩) W W else .slice none 0 0) (fun k hk => by rw [if_pos hk])]; exact HT.out, HR.out⟩
      have hik : ¬ (y : Int) < (y : Int) := by omega
      clear HT HR HZ HZ1 HM1 hlt hy
      go_wp2_with fail
      go_loopw [53] (fun i wr => ∃ (k : Nat), k ≤ n ∧ i = .int .i64 k ∧ Hid (Mat wr 28 3 O y W (fun b a => pxl (L.take k) (mid a) (mid b))) ∧ Hid (Below w.heap.size w wr)) (fun i _ => n - (intOf i).toNat)
      case atStart => exact ⟨0, by omega, rfl, HM.out, HB.out⟩
      case round =>
        obtain ⟨k, hk, rfl, HM, HB⟩ := hrel
        by_cases hkn : k < n
        · have hik3 : (k : Int) < (n : Int) := by omega
          have hkL : k < L.length := by rw [HN.out]; exact hkn
          obtain ⟨g, o, rfl, hg, hc⟩ := HC.out (by omega)
          obtain ⟨m, hm⟩ : ∃ m, L[k]? = some m := ⟨_, List.getElem?_eq_getElem hkL⟩
          have hb := GD.out m (List.mem_of_getElem? hm)
          obtain ⟨d0, d1, d2, d3, d4, d5, d6⟩ := mc_cells hc hm
          have lift : ∀ {q u}, w.cell? ⟨g, q, none⟩ = some u → wr.cell? ⟨g, q, none⟩ = some u := fun {q u} e => (HB.out.cell (p := ⟨g, q, none⟩) (by show g < _; omega)).trans e
          replace d0 := lift d0; replace d1 := lift d1; replace d2 := lift d2; replace d3 := lift d3; replace d4 := lift d4; replace d5 := lift d5; replace d6 := lift d6
          have HPX : Hid (∀ px py, pxl (L.take (k + 1)) px py = stepM px py (pxl (L.take k) px py) m) := fun px py => pxl_take L k m px py hm
          clear lift hc hm hg
          obtain ⟨nd, cr, mx, my, mw, mh, mt⟩ := m
          simp only at d0 d1 d2 d3 d4 d5 d6
          obtain ⟨b1, b2, b3, b4, b5, b6, b7, b8⟩ := hb
          simp only at b1 b2 b3 b4 b5 b6 b7 b8
          by_cases hte : mt.toList.isEmpty = true
          · go_wp2_with fail
            have HTP : Hid (topM ⟨nd, cr, mx, my, mw, mh, mt⟩ = my) := by unfold topM; simp [Hid, hte]
            have htb : -33554432 ≤ my ∧ my ≤ 33554432 := by omega
            obtain ⟨mb, hmb⟩ : ∃ mb, mb = wr.heap.size := ⟨_, rfl⟩
            have HMB := Lib.hid hmb
            have HK0 : Hid (Bk (wr.alloc (.cells #[.int .i64 nd, .int .i64 cr, .int .i64 mx, .int .i64 my, .int .i64 mw, .int .i64 mh, .string mt] 36)) mb 36 #[.int .i64 nd, .int .i64 cr, .int .i64 mx, .int .i64 my, .int .i64 mw, .int .i64 mh, .string mt]) := by rw [hmb]; exact Bk.new _ _ _
            have HM0 := Lib.hid (HM.out.below (bl_alloc (Below.refl _ _) (.cells #[.int .i64 nd, .int .i64 cr, .int .i64 mx, .int .i64 my, .int .i64 mw, .int .i64 mh, .string mt] 36)))
            have HB0 := Lib.hid (bl_alloc HB.out (.cells #[.int .i64 nd, .int .i64 cr, .int .i64 mx, .int .i64 my, .int .i64 mw, .int .i64 mh, .string mt] 36))
            have HMR : Hid (∀ b, b < y → O + 1 + b < mb) := fun b hb => by rw [hmb]; exact HM.out.lt hb
            have HMO : Hid (O < mb) := by rw [hmb]; exact HM.out.top.lt
            rw [← hmb]
            clear hmb d0 d1 d2 d3 d4 d5 d6
            go_loopw [71] (fun i wr2 => ∃ (b : Nat), b ≤ y ∧ i = .int .i64 b ∧ Hid (Mat wr2 28 3 O y W (fun b' a' => if b' < b then pxl (L.take (k + 1)) (mid a') (mid b') else pxl (L.take k) (mid a') (mid b'))) ∧ Hid (Bk wr2 mb 36 #[.int .i64 nd, .int .i64 cr, .int .i64 mx, .int .i64 my, .int .i64 mw, .int .i64 mh, .string mt]) ∧ Hid (Below w.heap.size w wr2)) (fun i _ => y - (intOf i).toNat)
            case atStart => exact ⟨0, by omega, rfl, HM0.out.congr (fun b' a' _ _ => by rw [if_neg (by omega)]), HK0.out, HB0.out⟩
            case round =>
              obtain ⟨b, hb, rfl, HM2, HK2, HB2⟩ := hrel
              by_cases hby : b < y
              · have hik4 : (b : Int) < (y : Int) := by omega
                have hb64 : b < 64 := by omega
                have q1 := HM2.out.cellTop hby
                go_wp2_with fail
                clear q1
                go_loopw [79] (fun i wr3 => ∃ (a : Nat), a ≤ W ∧ i = .int .i64 a ∧ Hid (Mat wr3 28 3 O y W (fun b' a' => if b' < b ∨ b' = b ∧ a' < a then pxl (L.take (k + 1)) (mid a') (mid b') else pxl (L.take k) (mid a') (mid b'))) ∧ Hid (Bk wr3 mb 36 #[.int .i64 nd, .int .i64 cr, .int .i64 mx, .int .i64 my, .int .i64 mw, .int .i64 mh, .string mt]) ∧ Hid (Below w.heap.size w wr3)) (fun i _ => W - (intOf i).toNat)
                case atStart =>
                  refine ⟨0, by omega, rfl, HM2.out.congr (fun b' a' _ _ => ?_), HK2.out, HB2.out⟩
                  by_cases e : b' < b
                  · rw [if_pos e, if_pos (.inl e)]
                  · rw [if_neg e, if_neg (by omega)]
                case round =>
                  obtain ⟨a, ha, rfl, HM3, HK3, HB3⟩ := hrel
                  by_cases haW : a < W
                  · have hik5 : (a : Int) < (W : Int) := by omega
                    have ha64 : a < 64 := by omega
                    have q1 := HK3.out.cell
                    by_cases c1 : mx ≤ (a : Int) * 64 + 32
                    · by_cases c2 : (a : Int) * 64 + 32 < mx + mw
                      · by_cases c3 : my ≤ (b : Int) * 64 + 32
                        · by_cases c4 : (b : Int) * 64 + 32 < my + mh
                          · have HF := Lib.hid (show insM ⟨nd, cr, mx, my, mw, mh, mt⟩ (mid a) (mid b) = true from (insM_iff _ _ _).2 ⟨c1, c2, by rw [HTP.out]; exact c3, c4⟩)
                            have q2 := HM3.out.cellTop hby
                            have q3 := HM3.out.cellAt hby haW
                            have q4 := (HM3.out.row b hby).free a
                            have n1 : O ≠ O + 1 + b := by omega
                            have n2 : mb ≠ O + 1 + b := by have := HMR.out b hby; omega
                            have N1 := Lib.hid n1; have N2 := Lib.hid n2
                            clear n1 n2
                            go_wp2_with fail
                            go_region_held3 (fun w' => w'.cell? ⟨O, b, none⟩ = some (.slice (some ⟨O + 1 + b, 0, none⟩) W W) ∧ w'.cell? ⟨mb, 1, none⟩ = some (.int .i64 cr))
                              (first
                                | exact ⟨q2, q1 1⟩
                                | exact ⟨(World.cell?_setCell_far wr _ _ _ (Ne.symm N1.out)).trans q2, (World.cell?_setCell_far wr _ _ _ (Ne.symm N2.out)).trans (q1 1)⟩)
                              ((fail))
                            go_wp2_with fail
                            go_roundw
                            case rel =>
                              refine ⟨a + 1, by omega, by go_num, ((Mat.set_ HM3.out b a cr).below (bl_drew (Below.refl _ _))).congr (fun b' a' _ _ => ?_), Bk.drew (HK3.out.far (p := ⟨O + 1 + b, a, none⟩) N2.out _), bl_drew (bl_set HB3.out _ _ (by have := HO.out; omega) _)⟩
                              by_cases e : b' = b ∧ a' = a
                              · obtain ⟨e1, e2⟩ := e
                                subst e1 e2
                                rw [if_pos ⟨rfl, rfl⟩, if_pos (by omega), HPX.out, stepM, HF.out]; rfl
                              · rw [if_neg e]
                                by_cases e2 : b' < b ∨ b' = b ∧ a' < a
                                · rw [if_pos e2, if_pos (by omega)]
                                · rw [if_neg e2, if_neg (by omega)]
                            case measure => simp [intOf]; omega
                          · have HF := Lib.hid (show insM ⟨nd, cr, mx, my, mw, mh, mt⟩ (mid a) (mid b) = false by rw [Bool.eq_false_iff]; intro e; obtain ⟨e1, e2, e3, e4⟩ := (insM_iff _ _ _).1 e; rw [HTP.out] at e3; simp only [mid] at e1 e2 e3 e4; omega)
                            go_wp2_with fail
                            go_roundw
                            case rel =>
                              refine ⟨a + 1, by omega, by go_num, HM3.out.congr (fun b' a' _ _ => ?_), HK3.out, HB3.out⟩
                              by_cases e : b' < b ∨ b' = b ∧ a' < a
                              · rw [if_pos e, if_pos (by omega)]
                              · rw [if_neg e]
                                by_cases e2 : b' < b ∨ b' = b ∧ a' < a + 1
                                · have h1 : b' = b := by omega
                                  have h2 : a' = a := by omega
                                  subst h1 h2
                                  rw [if_pos e2, HPX.out, stepM, HF.out]; rfl
                                · rw [if_neg e2]
                            case measure => simp [intOf]; omega
                        · have HF := Lib.hid (show insM ⟨nd, cr, mx, my, mw, mh, mt⟩ (mid a) (mid b) = false by rw [Bool.eq_false_iff]; intro e; obtain ⟨e1, e2, e3, e4⟩ := (insM_iff _ _ _).1 e; rw [HTP.out] at e3; simp only [mid] at e1 e2 e3 e4; omega)
                          go_wp2_with fail
                          go_roundw
                          case rel =>
                            refine ⟨a + 1, by omega, by go_num, HM3.out.congr (fun b' a' _ _ => ?_), HK3.out, HB3.out⟩
                            by_cases e : b' < b ∨ b' = b ∧ a' < a
                            · rw [if_pos e, if_pos (by omega)]
                            · rw [if_neg e]
                              by_cases e2 : b' < b ∨ b' = b ∧ a' < a + 1
                              · have h1 : b' = b := by omega
                                have h2 : a' = a := by omega
                                subst h1 h2
                                rw [if_pos e2, HPX.out, stepM, HF.out]; rfl
                              · rw [if_neg e2]
                          case measure => simp [intOf]; omega
                      · have HF := Lib.hid (show insM ⟨nd, cr, mx, my, mw, mh, mt⟩ (mid a) (mid b) = false by rw [Bool.eq_false_iff]; intro e; obtain ⟨e1, e2, e3, e4⟩ := (insM_iff _ _ _).1 e; rw [HTP.out] at e3; simp only [mid] at e1 e2 e3 e4; omega)
                        go_wp2_with fail
                        go_roundw
                        case rel =>
                          refine ⟨a + 1, by omega, by go_num, HM3.out.congr (fun b' a' _ _ => ?_), HK3.out, HB3.out⟩
                          by_cases e : b' < b ∨ b' = b ∧ a' < a
                          · rw [if_pos e, if_pos (by omega)]
                          · rw [if_neg e]
                            by_cases e2 : b' < b ∨ b' = b ∧ a' < a + 1
                            · have h1 : b' = b := by omega
                              have h2 : a' = a := by omega
                              subst h1 h2
                              rw [if_pos e2, HPX.out, stepM, HF.out]; rfl
                            · rw [if_neg e2]
                        case measure => simp [intOf]; omega
                    · have HF := Lib.hid (show insM ⟨nd, cr, mx, my, mw, mh, mt⟩ (mid a) (mid b) = false by rw [Bool.eq_false_iff]; intro e; obtain ⟨e1, e2, e3, e4⟩ := (insM_iff _ _ _).1 e; rw [HTP.out] at e3; simp only [mid] at e1 e2 e3 e4; omega)
                      go_wp2_with fail
                      go_roundw
                      case rel =>
                        refine ⟨a + 1, by omega, by go_num, HM3.out.congr (fun b' a' _ _ => ?_), HK3.out, HB3.out⟩
                        by_cases e : b' < b ∨ b' = b ∧ a' < a
                        · rw [if_pos e, if_pos (by omega)]
                        · rw [if_neg e]
                          by_cases e2 : b' < b ∨ b' = b ∧ a' < a + 1
                          · have h1 : b' = b := by omega
                            have h2 : a' = a := by omega
                            subst h1 h2
                            rw [if_pos e2, HPX.out, stepM, HF.out]; rfl
                          · rw [if_neg e2]
                      case measure => simp [intOf]; omega
                  · obtain rfl : a = W := by omega
                    have hik5 : ¬ (a : Int) < (a : Int) := by omega
                    go_wp2_with fail
                    go_roundw
                    case rel =>
                      refine ⟨b + 1, by omega, by go_num, HM3.out.congr (fun b' a' _ ha' => ?_), HK3.out, HB3.out⟩
                      by_cases e : b' < b ∨ b' = b ∧ a' < a
                      · rw [if_pos e, if_pos (by omega)]
                      · rw [if_neg e, if_neg (by omega)]
                    case measure => simp [intOf]; omega
              · obtain rfl : b = y := by omega
                have hik4 : ¬ (b : Int) < (b : Int) := by omega
                go_wp2_with fail
                go_roundw
                case rel => exact ⟨k + 1, by omega, by go_num, HM2.out.congr (fun b' a' hb' _ => by rw [if_pos hb']), HB2.out⟩
                case measure => simp [intOf]; omega
          · have hte2 : mt.toList.isEmpty = false := by simpa using hte
            go_wp2_with fail
            have HTP : Hid (topM ⟨nd, cr, mx, my, mw, mh, mt⟩ = (my + mh / 2)) := by unfold topM; simp [Hid, hte2]
            have htb : -33554432 ≤ (my + mh / 2) ∧ (my + mh / 2) ≤ 33554432 := by omega
            obtain ⟨mb, hmb⟩ : ∃ mb, mb = wr.heap.size := ⟨_, rfl⟩
            have HMB := Lib.hid hmb
            have HK0 : Hid (Bk (wr.alloc (.cells #[.int .i64 nd, .int .i64 cr, .int .i64 mx, .int .i64 my, .int .i64 mw, .int .i64 mh, .string mt] 36)) mb 36 #[.int .i64 nd, .int .i64 cr, .int .i64 mx, .int .i64 my, .int .i64 mw, .int .i64 mh, .string mt]) := by rw [hmb]; exact Bk.new _ _ _
            have HM0 := Lib.hid (HM.out.below (bl_alloc (Below.refl _ _) (.cells #[.int .i64 nd, .int .i64 cr, .int .i64 mx, .int .i64 my, .int .i64 mw, .int .i64 mh, .string mt] 36)))
            have HB0 := Lib.hid (bl_alloc HB.out (.cells #[.int .i64 nd, .int .i64 cr, .int .i64 mx, .int .i64 my, .int .i64 mw, .int .i64 mh, .string mt] 36))
            have HMR : Hid (∀ b, b < y → O + 1 + b < mb) := fun b hb => by rw [hmb]; exact HM.out.lt hb
            have HMO : Hid (O < mb) := by rw [hmb]; exact HM.out.top.lt
            rw [← hmb]
            clear hmb d0 d1 d2 d3 d4 d5 d6
            go_loopw [71] (fun i wr2 => ∃ (b : Nat), b ≤ y ∧ i = .int .i64 b ∧ Hid (Mat wr2 28 3 O y W (fun b' a' => if b' < b then pxl (L.take (k + 1)) (mid a') (mid b') else pxl (L.take k) (mid a') (mid b'))) ∧ Hid (Bk wr2 mb 36 #[.int .i64 nd, .int .i64 cr, .int .i64 mx, .int .i64 my, .int .i64 mw, .int .i64 mh, .string mt]) ∧ Hid (Below w.heap.size w wr2)) (fun i _ => y - (intOf i).toNat)
            case atStart => exact ⟨0, by omega, rfl, HM0.out.congr (fun b' a' _ _ => by rw [if_neg (by omega)]), HK0.out, HB0.out⟩
            case round =>
              obtain ⟨b, hb, rfl, HM2, HK2, HB2⟩ := hrel
              by_cases hby : b < y
              · have hik4 : (b : Int) < (y : Int) := by omega
                have hb64 : b < 64 := by omega
                have q1 := HM2.out.cellTop hby
                go_wp2_with fail
                clear q1
                go_loopw [79] (fun i wr3 => ∃ (a : Nat), a ≤ W ∧ i = .int .i64 a ∧ Hid (Mat wr3 28 3 O y W (fun b' a' => if b' < b ∨ b' = b ∧ a' < a then pxl (L.take (k + 1)) (mid a') (mid b') else pxl (L.take k) (mid a') (mid b'))) ∧ Hid (Bk wr3 mb 36 #[.int .i64 nd, .int .i64 cr, .int .i64 mx, .int .i64 my, .int .i64 mw, .int .i64 mh, .string mt]) ∧ Hid (Below w.heap.size w wr3)) (fun i _ => W - (intOf i).toNat)
                case atStart =>
                  refine ⟨0, by omega, rfl, HM2.out.congr (fun b' a' _ _ => ?_), HK2.out, HB2.out⟩
                  by_cases e : b' < b
                  · rw [if_pos e, if_pos (.inl e)]
                  · rw [if_neg e, if_neg (by omega)]
                case round =>
                  obtain ⟨a, ha, rfl, HM3, HK3, HB3⟩ := hrel
                  by_cases haW : a < W
                  · have hik5 : (a : Int) < (W : Int) := by omega
                    have ha64 : a < 64 := by omega
                    have q1 := HK3.out.cell
                    by_cases c1 : mx ≤ (a : Int) * 64 + 32
                    · by_cases c2 : (a : Int) * 64 + 32 < mx + mw
                      · by_cases c3 : (my + mh / 2) ≤ (b : Int) * 64 + 32
                        · by_cases c4 : (b : Int) * 64 + 32 < my + mh
                          · have HF := Lib.hid (show insM ⟨nd, cr, mx, my, mw, mh, mt⟩ (mid a) (mid b) = true from (insM_iff _ _ _).2 ⟨c1, c2, by rw [HTP.out]; exact c3, c4⟩)
                            have q2 := HM3.out.cellTop hby
                            have q3 := HM3.out.cellAt hby haW
                            have q4 := (HM3.out.row b hby).free a
                            have n1 : O ≠ O + 1 + b := by omega
                            have n2 : mb ≠ O + 1 + b := by have := HMR.out b hby; omega
                            have N1 := Lib.hid n1; have N2 := Lib.hid n2
                            clear n1 n2
                            go_wp2_with fail
                            go_region_held3 (fun w' => w'.cell? ⟨O, b, none⟩ = some (.slice (some ⟨O + 1 + b, 0, none⟩) W W) ∧ w'.cell? ⟨mb, 1, none⟩ = some (.int .i64 cr))
                              (first
                                | exact ⟨q2, q1 1⟩
                                | exact ⟨(World.cell?_setCell_far wr _ _ _ (Ne.symm N1.out)).trans q2, (World.cell?_setCell_far wr _ _ _ (Ne.symm N2.out)).trans (q1 1)⟩)
                              ((fail))
                            go_wp2_with fail
                            go_roundw
                            case rel =>
                              refine ⟨a + 1, by omega, by go_num, ((Mat.set_ HM3.out b a cr).below (bl_drew (Below.refl _ _))).congr (fun b' a' _ _ => ?_), Bk.drew (HK3.out.far (p := ⟨O + 1 + b, a, none⟩) N2.out _), bl_drew (bl_set HB3.out _ _ (by have := HO.out; omega) _)⟩
                              by_cases e : b' = b ∧ a' = a
                              · obtain ⟨e1, e2⟩ := e
                                subst e1 e2
                                rw [if_pos ⟨rfl, rfl⟩, if_pos (by omega), HPX.out, stepM, HF.out]; rfl
                              · rw [if_neg e]
                                by_cases e2 : b' < b ∨ b' = b ∧ a' < a
                                · rw [if_pos e2, if_pos (by omega)]
                                · rw [if_neg e2, if_neg (by omega)]
                            case measure => simp [intOf]; omega
                          · have HF := Lib.hid (show insM ⟨nd, cr, mx, my, mw, mh, mt⟩ (mid a) (mid b) = false by rw [Bool.eq_false_iff]; intro e; obtain ⟨e1, e2, e3, e4⟩ := (insM_iff _ _ _).1 e; rw [HTP.out] at e3; simp only [mid] at e1 e2 e3 e4; omega)
                            go_wp2_with fail
                            go_roundw
                            case rel =>
                              refine ⟨a + 1, by omega, by go_num, HM3.out.congr (fun b' a' _ _ => ?_), HK3.out, HB3.out⟩
                              by_cases e : b' < b ∨ b' = b ∧ a' < a
                              · rw [if_pos e, if_pos (by omega)]
                              · rw [if_neg e]
                                by_cases e2 : b' < b ∨ b' = b ∧ a' < a + 1
                                · have h1 : b' = b := by omega
                                  have h2 : a' = a := by omega
                                  subst h1 h2
                                  rw [if_pos e2, HPX.out, stepM, HF.out]; rfl
                                · rw [if_neg e2]
                            case measure => simp [intOf]; omega
                        · have HF := Lib.hid (show insM ⟨nd, cr, mx, my, mw, mh, mt⟩ (mid a) (mid b) = false by rw [Bool.eq_false_iff]; intro e; obtain ⟨e1, e2, e3, e4⟩ := (insM_iff _ _ _).1 e; rw [HTP.out] at e3; simp only [mid] at e1 e2 e3 e4; omega)
                          go_wp2_with fail
                          go_roundw
                          case rel =>
                            refine ⟨a + 1, by omega, by go_num, HM3.out.congr (fun b' a' _ _ => ?_), HK3.out, HB3.out⟩
                            by_cases e : b' < b ∨ b' = b ∧ a' < a
                            · rw [if_pos e, if_pos (by omega)]
                            · rw [if_neg e]
                              by_cases e2 : b' < b ∨ b' = b ∧ a' < a + 1
                              · have h1 : b' = b := by omega
                                have h2 : a' = a := by omega
                                subst h1 h2
                                rw [if_pos e2, HPX.out, stepM, HF.out]; rfl
                              · rw [if_neg e2]
                          case measure => simp [intOf]; omega
                      · have HF := Lib.hid (show insM ⟨nd, cr, mx, my, mw, mh, mt⟩ (mid a) (mid b) = false by rw [Bool.eq_false_iff]; intro e; obtain ⟨e1, e2, e3, e4⟩ := (insM_iff _ _ _).1 e; rw [HTP.out] at e3; simp only [mid] at e1 e2 e3 e4; omega)
                        go_wp2_with fail
                        go_roundw
                        case rel =>
                          refine ⟨a + 1, by omega, by go_num, HM3.out.congr (fun b' a' _ _ => ?_), HK3.out, HB3.out⟩
                          by_cases e : b' < b ∨ b' = b ∧ a' < a
                          · rw [if_pos e, if_pos (by omega)]
                          · rw [if_neg e]
                            by_cases e2 : b' < b ∨ b' = b ∧ a' < a + 1
                            · have h1 : b' = b := by omega
                              have h2 : a' = a := by omega
                              subst h1 h2
                              rw [if_pos e2, HPX.out, stepM, HF.out]; rfl
                            · rw [if_neg e2]
                        case measure => simp [intOf]; omega
                    · have HF := Lib.hid (show insM ⟨nd, cr, mx, my, mw, mh, mt⟩ (mid a) (mid b) = false by rw [Bool.eq_false_iff]; intro e; obtain ⟨e1, e2, e3, e4⟩ := (insM_iff _ _ _).1 e; rw [HTP.out] at e3; simp only [mid] at e1 e2 e3 e4; omega)
                      go_wp2_with fail
                      go_roundw
                      case rel =>
                        refine ⟨a + 1, by omega, by go_num, HM3.out.congr (fun b' a' _ _ => ?_), HK3.out, HB3.out⟩
                        by_cases e : b' < b ∨ b' = b ∧ a' < a
                        · rw [if_pos e, if_pos (by omega)]
                        · rw [if_neg e]
                          by_cases e2 : b' < b ∨ b' = b ∧ a' < a + 1
                          · have h1 : b' = b := by omega
                            have h2 : a' = a := by omega
                            subst h1 h2
                            rw [if_pos e2, HPX.out, stepM, HF.out]; rfl
                          · rw [if_neg e2]
                      case measure => simp [intOf]; omega
                  · obtain rfl : a = W := by omega
                    have hik5 : ¬ (a : Int) < (a : Int) := by omega
                    go_wp2_with fail
                    go_roundw
                    case rel =>
                      refine ⟨b + 1, by omega, by go_num, HM3.out.congr (fun b' a' _ ha' => ?_), HK3.out, HB3.out⟩
                      by_cases e : b' < b ∨ b' = b ∧ a' < a
                      · rw [if_pos e, if_pos (by omega)]
                      · rw [if_neg e, if_neg (by omega)]
                    case measure => simp [intOf]; omega
              · obtain rfl : b = y := by omega
                have hik4 : ¬ (b : Int) < (b : Int) := by omega
                go_wp2_with fail
                go_roundw
                case rel => exact ⟨k + 1, by omega, by go_num, HM2.out.congr (fun b' a' hb' _ => by rw [if_pos hb']), HB2.out⟩
                case measure => simp [intOf]; omega
        · obtain rfl : k = n := by omega
          have hik3 : ¬ (k : Int) < (k : Int) := by omega
          have HM4 : Hid (Mat wr 28 3 O y W (fun b a => pxl L (mid a) (mid b))) := by
            have := HM.out
            rw [List.take_of_length_le (by rw [HN.out]; omega)] at this
            exact this
          go_wp2_with fail
          go_ret
          exact ⟨rfl, HM4.out, by rw [HO.out]; exact HB.out⟩
end Go.Proofs.Ytnjckpgacbibhaa
