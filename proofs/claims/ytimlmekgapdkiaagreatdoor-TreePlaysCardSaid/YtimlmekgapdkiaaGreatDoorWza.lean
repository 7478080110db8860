/- the law TreePlays: its walk -/
import Derived.Test.YtimlmekgapdkiaaGreatDoorWz
import Derived.Test.YtimlmekgapdkiaaGreatDoorWr
import Derived.Test.YtimlmekgapdkiaaGreatDoorTmp
import Derived.Handy
namespace Go.Proofs.YtimlmekgapdkiaaGreatDoor
set_option linter.unusedVariables false
set_option linter.unusedSimpArgs false
open Go.RowKit Go.Cas

def NtRet (w : World) (e : Ending) (w' : World) : Prop := ∃ L, e = .returned (.agg #[.slice (some ⟨L, 0, none⟩) 1 1, .slice none 0 0]) ∧ w.heap.size ≤ L ∧ Bk w' L 46 #[.int .i64 1, .string ByteArray.empty, .string ByteArray.empty, .slice none 0 0, .int .i64 (-1), .slice none 0 0] ∧ Below w.heap.size w w'
theorem c_rNewTree (w : World) : Calls Tryz.prog 5 #[] w (NtRet w) := by
  go_enter Tryz.func5, Tryz.ntmps5
  go_wp2_with fail
  go_returns
  refine ⟨w.heap.size + 1, rfl, by omega, bk_new' _ _ _ (by simp), bl_alloc (bl_alloc (Below.refl _ _) _) _⟩
theorem rd_new {w : World} {B R L : Nat} (hL : Bk w L 46 #[.int .i64 1, .string ByteArray.empty, .string ByteArray.empty, .slice none 0 0, .int .i64 (-1), .slice none 0 0]) (hR : Bk w R 28 #[.slice (some ⟨L, 0, none⟩) 1 1, .slice none 0 0]) (hB : B ≤ L ∧ B ≤ R) (hne : L ≠ R) : RD B R [root0] [] (fun k => k = R ∨ k = L) w := by
  refine ⟨fun k => if k = R then 1 else if k = L then 2 else 0, [], ⟨L, 1, .slice none 0 0, [⟨root0, .slice none 0 0, .slice none 0 0⟩], ⟨hR, ⟨_, hL, by decide, rfl, by decide, by decide, rfl⟩, World.ownsRow_nil _ _ _ _, fun i y hy => ?_, fun i y hy => ?_, if_pos rfl, ?_, fun k e => by simp [Value.ownBlock] at e, fun i y hy k e => ?_, fun k hk => ?_⟩, rfl⟩, trivial, fun k hk => ?_, fun k hk => ?_⟩
  · obtain rfl : y = ⟨root0, .slice none 0 0, .slice none 0 0⟩ := by
      rcases i with _ | i
      · simpa using hy.symm
      · simp at hy
    exact World.ownsRow_nil _ _ _ _
  · obtain rfl : y = ⟨root0, .slice none 0 0, .slice none 0 0⟩ := by
      rcases i with _ | i
      · simpa using hy.symm
      · simp at hy
    exact RdZ.nil _ _ _
  · show (if L = R then 1 else if L = L then 2 else 0) = 2
    rw [if_neg hne, if_pos rfl]
  · obtain rfl : y = ⟨root0, .slice none 0 0, .slice none 0 0⟩ := by
      rcases i with _ | i
      · simpa using hy.symm
      · simp at hy
    simp [Value.ownBlock] at e
  · have h1 := hL.lt; have h2 := hR.lt
    by_cases e : k = R
    · subst e; omega
    · by_cases e2 : k = L
      · subst e2; omega
      · simp [e, e2] at hk
  · have h1 := hL.lt; have h2 := hR.lt
    rcases hk with rfl | rfl <;> omega
  · by_cases e : k = R
    · exact .inl e
    · by_cases e2 : k = L
      · exact .inr e2
      · simp [e, e2] at hk
section
variable {w : World} {B Rt R n : Nat} {T : List Nod} {D : List (Value × List Nod)}
theorem js_alike (h : JS B Rt R T D w) (hg : Gk T n) (hn : n ≤ 1000) : Calls Tryz.prog 6 #[.pointer (some ⟨Rt, 0, none⟩), .pointer (some ⟨R, 0, none⟩)] w (AlRet w) := by
  obtain ⟨F, G, h1, ⟨τ, xs, ⟨L, cap, tv, M, h2, hM⟩, _⟩, _⟩ := h
  obtain ⟨d, hd⟩ := hg.gd.wf
  exact c_alike ⟨h1, h2, hM⟩ hd hg.gd.len (fun j => Nat.le_trans (hg.gd.at_ j) hn)
theorem js_looked (h : JS B Rt R T D w) (hg : Gk T n) (hn : n ≤ 1000) (a b : Int) (nm : ByteArray) : Calls Tryz.prog 8 #[.pointer (some ⟨Rt, 0, none⟩), .pointer (some ⟨R, 0, none⟩), .int .i64 a, .int .i64 b, .string nm] w (AlRet w) := by
  obtain ⟨F, G, h1, ⟨τ, xs, ⟨L, cap, tv, M, h2, hM⟩, _⟩, _⟩ := h
  obtain ⟨d, hd⟩ := hg.gd.wf
  exact c_looked ⟨h1, h2, hM⟩ hd hg.gd.len (fun j => Nat.le_trans (hg.gd.at_ j) hn) a b nm
end
theorem gd_root : Gd [root0] 1 := by
  have h : Gd ([] : List Nod) 0 := ⟨⟨fun _ => 0, ⟨fun i hi => absurd hi (Nat.not_lt_zero _), fun i hi => absurd hi (Nat.not_lt_zero _), fun i hi => absurd hi (Nat.not_lt_zero _), fun i hi => absurd hi (Nat.not_lt_zero _), fun i hi => absurd hi (Nat.not_lt_zero _)⟩⟩, Nat.zero_le _, fun j => Nat.le_of_eq rfl⟩
  exact h.add (by decide) rfl rfl rfl
theorem gs_root : GS [root0] [] 1 := ⟨⟨gd_root, fun j hj => by
  obtain rfl : j = 0 := by simpa using hj
  exact .inl rfl, by decide⟩, fun q hq => (by cases hq), Nat.zero_le _⟩
/-- a change as the law is told it -/
structure OpX where
  k : Int
  a : Int
  b : Int
  c : Int
  s : ByteArray
  t : ByteArray
def opc (o : OpX) : List Value := [.int .i64 o.k, .int .i64 o.a, .int .i64 o.b, .int .i64 o.c, .string o.s, .string o.t]
theorem opc_len (L : List OpX) : (L.flatMap opc).length = L.length * 6 := by
  induction L with
  | nil => rfl
  | cons a l ih => rw [List.flatMap_cons, List.length_append, ih]; simp [opc]; omega
theorem rd_op {w : World} {lim n k : Nat} {A : Option Addr} {c : Nat} {L : List OpX} {y : OpX} (h : RdS w lim 6 (.slice A n c) n (L.flatMap opc)) (hp : L[k]? = some y) : ∃ g o, A = some ⟨g, o, none⟩ ∧ g < lim ∧ ∀ w', Below lim w w' →
    (w'.cell? ⟨g, o + k * 6, none⟩ = some (.int .i64 y.k) ∧ w'.cell? ⟨g, o + k * 6 + 1, none⟩ = some (.int .i64 y.a) ∧ w'.cell? ⟨g, o + k * 6 + 2, none⟩ = some (.int .i64 y.b) ∧ w'.cell? ⟨g, o + k * 6 + 3, none⟩ = some (.int .i64 y.c) ∧ w'.cell? ⟨g, o + k * 6 + 4, none⟩ = some (.string y.s) ∧ w'.cell? ⟨g, o + k * 6 + 5, none⟩ = some (.string y.t)) := by
  have hl : L.length = n := by have h1 := h.1; rw [opc_len] at h1; omega
  have hk := (List.getElem?_eq_some_iff.1 hp).1
  obtain ⟨_, A', c', e, _, hc⟩ := h
  injection e with e1 _ e2
  subst e1 e2
  obtain ⟨g, o, e, hg, hcell⟩ := hc (by omega)
  refine ⟨g, o, e, hg, fun w' hb => ?_⟩
  have key : ∀ j, j < 6 → ∀ u, (opc y)[j]? = some u → w'.cell? ⟨g, o + k * 6 + j, none⟩ = some u := fun j hj u hu => by
    have := hcell (k * 6 + j) u (by rw [flat_get opc 6 (fun _ => rfl) L k j y hp hj]; exact hu)
    rw [← Nat.add_assoc] at this
    exact (hb.cell (p := ⟨g, _, none⟩) hg).trans this
  exact ⟨key 0 (by omega) _ rfl, key 1 (by omega) _ rfl, key 2 (by omega) _ rfl, key 3 (by omega) _ rfl, key 4 (by omega) _ rfl, key 5 (by omega) _ rfl⟩
set_option maxRecDepth 100000 in
set_option maxHeartbeats 16000000 in
theorem W_treePlays {w : World} {v : Value} {n : Nat} {L : List OpX} {p : Nat → Addr} (hr : RdS w w.heap.size 6 v n (L.flatMap opc)) (hn : L.length = n) (hn2 : n ≤ maxLen) (hm : ∀ o ∈ L, o.s.size ≤ maxLen ∧ o.t.size ≤ maxLen) (hG : G7 w w.heap.size p) :
    Calls Tryz.prog 3 #[v] w fun e w' => e = .returned (.bool true) ∧ Below w.heap.size w w' := by
  have HR := Lib.hid hr
  have HN := Lib.hid hn
  have HM := Lib.hid hm
  have HG := Lib.hid hG
  obtain ⟨_, A, c, rfl, _, _⟩ := hr
  unfold maxLen at hn2
  have hni : (n : Int) ≤ 9223372036854775807 := by omega
  have HNW := Lib.hid (c_New w)
  clear hn hn2 hm hG
  go_enter Tryz.func3, Tryz.ntmps3
  go_upto_region 4 with (go_at_call 4; refine (HNW.out).mono ?_; rintro e w1 ⟨Rt, F, rfl, hts, hb⟩; have HTS := Lib.hid hts; have HB1 := Lib.hid hb; clear hts hb)
  have HNT := Lib.hid (c_rNewTree w1)
  go_upto_region 5 with (go_at_call 5; refine (HNT.out).mono ?_; rintro e w2 ⟨L0, rfl, hL0, hk2, hb2⟩; have HL0 := Lib.hid hL0; have HK2 := Lib.hid hk2; have HB2 := Lib.hid hb2; clear hL0 hk2 hb2)
  obtain ⟨R, hR⟩ : ∃ R, R = w2.heap.size := ⟨_, rfl⟩
  obtain ⟨w3, hw3⟩ : ∃ w3, w3 = w2.alloc (.cells #[.slice (some ⟨L0, 0, none⟩) 1 1, .slice none 0 0] 28) := ⟨_, rfl⟩
  have hb3 : Below w2.heap.size w2 w3 := by rw [hw3]; exact bl_alloc (Below.refl _ _) _
  have HW3 : Hid (Below w.heap.size w w3) := bl_trans (bl_trans HB1.out HB2.out) hb3
  have HJ0 : Hid (JS w.heap.size Rt R [root0] [] w3) := by
    have hkR : Bk w3 R 28 #[.slice (some ⟨L0, 0, none⟩) 1 1, .slice none 0 0] := by rw [hw3]; exact bk_new' _ _ _ hR
    have hkL : Bk w3 L0 46 #[.int .i64 1, .string ByteArray.empty, .string ByteArray.empty, .slice none 0 0, .int .i64 (-1), .slice none 0 0] := HK2.out.below hb3 HK2.out.lt
    have h1 := HB1.out.size
    have h2 := HB2.out.size
    have h3 := HL0.out
    have h4 := HK2.out.lt
    refine ⟨F, _, (HTS.out.below HB2.out).below hb3, rd_new hkL hkR ⟨by omega, by omega⟩ (by omega), fun k hf hk => ?_⟩
    have h5 := (HTS.out.fb hf).2
    rcases hk with rfl | rfl <;> omega
  rw [← hw3, ← hR]
  clear hw3 hR hb3
  have HAL := Lib.hid (js_alike HJ0.out gs_root.gk (by decide))
  go_upto_region 8 with (go_at_call 6; refine (HAL.out).mono ?_; rintro e w4 ⟨rfl, hb4⟩; have HB4 := Lib.hid hb4; clear hb4)
  have HS0 : Hid (JS w.heap.size Rt R [root0] [] w4 ∧ GS [root0] [] 1 ∧ Below w.heap.size w w4) := ⟨HJ0.out.below HB4.out, gs_root, bl_trans HW3.out HB4.out⟩
  clear HJ0 HAL HNT HNW HTS HB1 HL0 HK2 HB2 HW3 HB4
  go_wp2_with fail
  go_loopw [6] (fun v wr => ∃ (i : Nat) (T : List Nod) (D : List (Value × List Nod)), i ≤ n ∧ i ≤ 60 ∧ v = .int .i64 (i : Int) ∧ Hid (JS w.heap.size Rt R T D wr ∧ GS T D (i + 1) ∧ Below w.heap.size w wr)) (fun v _ => n - (intOf v).toNat)
  case atStart => exact ⟨0, _, _, by omega, by omega, rfl, HS0.out⟩
  case round =>
    obtain ⟨i, T, D, hi, hi60, rfl, HU⟩ := hrel
    by_cases hlt : i < n
    case neg =>
      have hil : ¬ (i : Int) < (n : Int) := by omega
      go_wp2_with fail
      go_ret
      exact ⟨rfl, HU.out.2.2⟩
    by_cases h60 : i < 60
    case neg =>
      have hil : (i : Int) < (n : Int) := by omega
      have hil2 : ¬ (i : Int) < 60 := by omega
      go_wp2_with fail
      go_ret
      exact ⟨rfl, HU.out.2.2⟩
    have hil : (i : Int) < (n : Int) := by omega
    have hil2 : (i : Int) < 60 := by omega
    have hi0 : 0 ≤ (i : Int) := by omega
    obtain ⟨y, hy⟩ : ∃ y, L[i]? = some y := ⟨_, List.getElem?_eq_getElem (by have := HN.out; omega)⟩
    obtain ⟨g, o, rfl, hg, hcell⟩ := rd_op HR.out hy
    have HCE := Lib.hid hcell
    obtain ⟨d0, d1, d2, d3, d4, d5⟩ := hcell wr HU.out.2.2
    have HZ : Hid (y.s.size ≤ maxLen ∧ y.t.size ≤ maxLen) := HM.out y (List.mem_of_getElem? hy)
    have hzs := HZ.out.1
    have hzt := HZ.out.2
    unfold maxLen at hzs hzt
    clear hcell hy
    by_cases hs3 : 30000 < y.s.size
    · have hs4 : (30000 : Int) < (y.s.size : Int) := by omega
      go_wp2_with fail
      go_ret
      exact ⟨rfl, HU.out.2.2⟩
    by_cases ht3 : 30000 < y.t.size
    · have hs4 : ¬ (30000 : Int) < (y.s.size : Int) := by omega
      have ht4 : (30000 : Int) < (y.t.size : Int) := by omega
      go_wp2_with fail
      go_ret
      exact ⟨rfl, HU.out.2.2⟩
    have hs4 : ¬ (30000 : Int) < (y.s.size : Int) := by omega
    have ht4 : ¬ (30000 : Int) < (y.t.size : Int) := by omega
    have HST := Lib.hid (c_step HU.out.1 (HG.out.below HU.out.2.2) HU.out.2.1 (by omega) y.k y.a y.b y.c y.s y.t HZ.out.1 HZ.out.2)
    unfold opV at HST
    go_upto_region 16 with (go_at_call 7; refine (HST.out).mono ?_; rintro e w5 ⟨rfl, ha5, hb5⟩; have HB5 := Lib.hid (HU.out.2.2.trans hb5); have HA5 := ha5; clear ha5 hb5)
    obtain ⟨T5, D5, hj5, hg5⟩ := HA5.out
    have HJ5 := Lib.hid hj5
    have HG5 := Lib.hid hg5
    have HAL := Lib.hid (js_alike hj5 hg5.gk (by omega))
    clear hj5 hg5 d0 d1 d2 d3 d4 d5
    go_upto_region 17 with (go_at_call 6; refine (HAL.out).mono ?_; rintro e w6 ⟨rfl, hb6⟩; have HB6 := Lib.hid hb6; clear hb6)
    have HB7 : Hid (Below w.heap.size w w6) := bl_trans HB5.out HB6.out
    have HLK : Hid (∀ W, Below w6.heap.size w6 W → Calls Tryz.prog 8 #[.pointer (some ⟨Rt, 0, none⟩), .pointer (some ⟨R, 0, none⟩), .int .i64 y.a, .int .i64 y.b, .string y.s] W (AlRet W)) := fun W hb => js_looked ((HJ5.out.below HB6.out).below hb) HG5.out.gk (by omega) _ _ _
    have HCS : Hid (∀ W, Below w6.heap.size w6 W → (W.cell? ⟨g, o + i * 6 + 1, none⟩ = some (.int .i64 y.a) ∧ W.cell? ⟨g, o + i * 6 + 2, none⟩ = some (.int .i64 y.b) ∧ W.cell? ⟨g, o + i * 6 + 4, none⟩ = some (.string y.s))) := fun W hb => by
      obtain ⟨_, d1, d2, _, d4, _⟩ := HCE.out W (bl_trans HB7.out hb)
      exact ⟨d1, d2, d4⟩
    go_cut [9] (fun v9 wx => v9 = .bool true ∧ Hid (Below w6.heap.size w6 wx))
    case first =>
      go_region_held3 (fun W => W.cell? ⟨g, o + i * 6 + 1, none⟩ = some (.int .i64 y.a) ∧ W.cell? ⟨g, o + i * 6 + 2, none⟩ = some (.int .i64 y.b) ∧ W.cell? ⟨g, o + i * 6 + 4, none⟩ = some (.string y.s))
        (first | with_reducible exact HCS.out _ (Below.refl _ _) | with_reducible exact HCS.out _ (bl_drew (Below.refl _ _)) | with_reducible exact HCS.out _ HB8.out)
        ((go_at_call 8; (with_reducible refine (HLK.out _ (bl_drew (Below.refl _ _))).mono ?_); rintro e w8 ⟨rfl, hb8⟩; have HB8 : Hid (Below w6.heap.size w6 w8) := bl_trans (bl_drew (Below.refl _ _)) hb8; clear hb8))
      all_goals
        go_wp2_with fail
        go_meet
        exact ⟨rfl, HB8.out⟩
    case rest =>
      obtain ⟨rfl, hB9⟩ := hcut
      obtain ⟨w9, rfl⟩ : ∃ w9 : World, w9 = wc := ⟨_, rfl⟩
      go_wp2_with fail
      go_roundw
      case rel => exact ⟨i + 1, T5, D5, by omega, by omega, by go_num, (HJ5.out.below HB6.out).below hB9.out, HG5.out, bl_trans HB7.out hB9.out⟩
      case measure => simp [intOf]; omega
end Go.Proofs.YtimlmekgapdkiaaGreatDoor
