/- the document's tree: a copy of all nodes; what was is kept; the document's tree: what was is kept -/
import Derived.Test.YtimlmekgapdkiaaDoorUf
import Derived.Test.YtimlmekgapdkiaaDoorbase
import Derived.Deep.RegionLaw
namespace Go.Proofs.YtimlmekgapdkiaaDoor
set_option linter.unusedVariables false
set_option linter.unusedSimpArgs false
open Go.RowKit Go.Cas

theorem inf_rNode : (Tryd.prog.info? 105).map (fun i => (i.zero, i.size, i.bytes)) = some (some (.agg #[.int .i64 0, .string ByteArray.empty, .string ByteArray.empty, .slice none 0 0, .int .i64 0, .slice none 0 0]), 6, 96) := by kernel_rfl
/-- lists of nodes that are not too long -/
def Few (M : List NV) : Prop := ∀ y ∈ M, y.x.at_.length ≤ 1000000 ∧ y.x.ki.length ≤ 1000000
def CpRet (n : Nat) (w : World) (e : Ending) (w' : World) : Prop := (∃ A c, e = .returned (.slice A n c)) ∧ Below w.heap.size w w'
set_option maxRecDepth 100000 in
set_option maxHeartbeats 8000000 in
theorem c_copied {w : World} {B R L cap nT : Nat} {tv : Value} {xs : List Value} {τ : Nat → Nat} {M : List NV} (h : RT B R L cap nT tv xs τ M w) (hM : M.length ≤ 400) (hF : Few M) :
    Calls Tryd.prog 117 #[.slice (some ⟨L, 0, none⟩) M.length cap] w (CpRet M.length w) := by
  have H := Lib.hid h
  have HF := Lib.hid hF
  clear h hF
  obtain ⟨n, hn⟩ : ∃ n, n = M.length := ⟨_, rfl⟩
  have HN := Lib.hid hn
  rw [← hn] at hM ⊢
  clear hn
  go_enter Tryd.func117, Tryd.ntmps117
  go_wp2_with fail
  go_loopw [3, 4] (fun o i wr => ∃ (k : Nat), k ≤ n ∧ i = .int .i64 k ∧ Hid (∃ ys, wr.ownsRow w.heap.size 105 6 o k ys) ∧ Hid (Below w.heap.size w wr)) (fun _ i _ => n - (intOf i).toNat)
  case atStart => exact ⟨0, by omega, rfl, ⟨[], World.ownsRow_nil _ _ _ _⟩, Below.refl _ _⟩
  case round =>
    obtain ⟨k, hk, rfl, HO, HB⟩ := hrel
    by_cases hlt : k < n
    · have hik : (k : Int) < (n : Int) := by omega
      obtain ⟨ys, hys⟩ := HO.out
      have HYS := Lib.hid hys
      obtain ⟨y, hy⟩ : ∃ y, M[k]? = some y := ⟨_, List.getElem?_eq_getElem (by have := HN.out; omega)⟩
      have h1 := H.out.below HB.out
      obtain ⟨⟨a0, a1, a2⟩, a3, a4, a5⟩ := h1.cell hy
      have hrL := h1.ltL
      have HYA := Lib.hid (RdS.of_own (h1.at_ k y hy))
      have HYK := Lib.hid ((h1.ki k y hy).toS (lim := wr.heap.size) (fun k hz => (h1.tB k (by rw [show τ k = 4 from hz]; omega)).2))
      have HFY := Lib.hid (HF.out y (List.mem_of_getElem? hy))
      obtain ⟨_, Aa, ca, hva, _, _⟩ := HYA.out
      obtain ⟨_, Ak, ck, hvk, _, _⟩ := HYK.out
      have hbz : w.heap.size ≤ wr.heap.size := HB.out.size
      obtain ⟨xk, hxk⟩ : ∃ q, q = y.x.k := ⟨_, rfl⟩
      obtain ⟨xt, hxt⟩ : ∃ q, q = y.x.tag := ⟨_, rfl⟩
      obtain ⟨xx, hxx⟩ : ∃ q, q = y.x.txt := ⟨_, rfl⟩
      obtain ⟨xp, hxp⟩ : ∃ q, q = y.x.pa := ⟨_, rfl⟩
      obtain ⟨na, hna⟩ : ∃ q, q = y.x.at_.length := ⟨_, rfl⟩
      obtain ⟨nk, hnk⟩ : ∃ q, q = y.x.ki.length := ⟨_, rfl⟩
      obtain ⟨la, hla⟩ : ∃ q, q = atc y.x.at_ := ⟨_, rfl⟩
      obtain ⟨lk, hlk⟩ : ∃ q, q = kic y.x.ki := ⟨_, rfl⟩
      have HOA : Hid (∀ u ∈ la, u.oneCell' = true) := by rw [hla]; exact one_atc _
      have HOK : Hid (∀ u ∈ lk, u.oneCell' = true) := by rw [hlk]; exact one_kic _
      have hn1 : na ≤ 1000000 := by rw [hna]; exact HFY.out.1
      have hn2 : nk ≤ 1000000 := by rw [hnk]; exact HFY.out.2
      rw [hva] at a3 HYA
      rw [hvk] at a5 HYK
      rw [← hxk] at a0; rw [← hxt] at a1; rw [← hxx] at a2; rw [← hxp] at a4; rw [← hna] at a3; rw [← hnk] at a5
      rw [← hna, ← hla] at HYA
      rw [← hnk, ← hlk] at HYK
      clear hys hy h1 hva hvk hxk hxt hxx hxp hna hnk hla hlk HFY
      go_upto_region 6 with fail
      obtain ⟨b, hb⟩ : ∃ b, b = wr.heap.size := ⟨_, rfl⟩
      obtain ⟨w2, hw2⟩ : ∃ w2, w2 = wr.alloc (.cells #[.int .i64 xk, .string xt, .string xx, .slice Aa na ca, .int .i64 xp, .slice Ak nk ck] 105) := ⟨_, rfl⟩
      have hbk : Bk w2 b 105 #[.int .i64 xk, .string xt, .string xx, .slice Aa na ca, .int .i64 xp, .slice Ak nk ck] := by rw [hw2, hb]; exact Bk.new _ _ _
      have hbl : Below wr.heap.size wr w2 := by rw [hw2]; exact bl_alloc (Below.refl _ _) _
      rw [← hw2, ← hb]
      have HBK := Lib.hid hbk
      have HBL := Lib.hid hbl
      have HBE := Lib.hid hb
      have e3 := hbk.cell 3
      have f3 := hbk.free 3
      have lb := hbk.lt
      have hz2 : w.heap.size ≤ w2.heap.size := Nat.le_trans hbz hbl.size
      clear hw2 hb hbk hbl a0 a1 a2 a3 a4 a5
      go_upto_region 7 with (at_builtin; refine wp_spread rfl _ _ 84 rfl w.heap.size 88 Tryd.underlying84 inf_A rfl (by omega) (.slice none 0 0) 0 [] rfl (World.ownsRow_nil _ _ _ _) wr.heap.size (.slice Aa na ca) na la rfl (HYA.out.below HBL.out) HOA.out (by unfold maxLen; omega) (by omega) hz2 ?_; intro v6 w6 hown6 hgrow6 hat6; rw [Nat.zero_add, List.nil_append] at hown6; obtain ⟨_, A6, c6, rfl, _, _⟩ := RdS.of_own hown6; have HO6 := Lib.hid hown6; have HG6 := Lib.hid hgrow6; have hbk6 := HBK.out.grown hgrow6 (by simp [Value.ownBlock]); have HBK6 := Lib.hid hbk6; have q3 := hbk6.cell 3; have q4 := hbk6.free 3; have q5 := hbk6.lt; clear hown6 hgrow6 hat6 hbk6)
      obtain ⟨w7, hw7⟩ : ∃ w7, w7 = w6.setCell ⟨b, 3, none⟩ (.slice A6 na c6) := ⟨_, rfl⟩
      have hbk7 : Bk w7 b 105 #[.int .i64 xk, .string xt, .string xx, .slice A6 na c6, .int .i64 xp, .slice Ak nk ck] := by rw [hw7]; exact HBK6.out.set_ 3 _
      have hbl7 : Below wr.heap.size wr w7 := by rw [hw7]; exact bl_set (HBL.out.grown HG6.out HBL.out.size (fun k hk => by simp [Value.ownBlock] at hk)) b 3 (by rw [HBE.out]; exact Nat.le_refl _) _
      rw [← hw7]
      have HBK7 := Lib.hid hbk7
      have HBL7 := Lib.hid hbl7
      have p5 := hbk7.cell 5
      have p6 := hbk7.free 5
      have p7 := hbk7.lt
      have hz7 : w.heap.size ≤ w7.heap.size := Nat.le_trans hbz hbl7.size
      clear hw7 hbk7 hbl7 q3 q4 q5 e3 f3 lb hz2 HBK HBL HBK6 HG6
      go_upto_region 8 with (at_builtin; refine wp_spread rfl _ _ 75 rfl w.heap.size 3 Tryd.underlying75 inf_I rfl (by omega) (.slice none 0 0) 0 [] rfl (World.ownsRow_nil _ _ _ _) wr.heap.size (.slice Ak nk ck) nk lk rfl (HYK.out.below HBL7.out) HOK.out (by unfold maxLen; omega) (by omega) hz7 ?_; intro v8 w8 hown8 hgrow8 hat8; rw [Nat.zero_add, List.nil_append] at hown8; obtain ⟨_, A8, c8, rfl, _, _⟩ := RdS.of_own hown8; have HO8 := Lib.hid hown8; have HG8 := Lib.hid hgrow8; have hbk8 := HBK7.out.grown hgrow8 (by simp [Value.ownBlock]); have HBK8 := Lib.hid hbk8; have q3 := hbk8.cell 5; have q4 := hbk8.free 5; have q5 := hbk8.lt; clear hown8 hgrow8 hat8 hbk8)
      obtain ⟨w9, hw9⟩ : ∃ w9, w9 = w8.setCell ⟨b, 5, none⟩ (.slice A8 nk c8) := ⟨_, rfl⟩
      have hbk9 : Bk w9 b 105 #[.int .i64 xk, .string xt, .string xx, .slice A6 na c6, .int .i64 xp, .slice A8 nk c8] := by rw [hw9]; exact HBK8.out.set_ 5 _
      have hbl9 : Below wr.heap.size wr w9 := by rw [hw9]; exact bl_set (HBL7.out.grown HG8.out HBL7.out.size (fun k hk => by simp [Value.ownBlock] at hk)) b 5 (by rw [HBE.out]; exact Nat.le_refl _) _
      rw [← hw9]
      have HBL9 := Lib.hid hbl9
      have g0 := hbk9.cell 0; have g1 := hbk9.cell 1; have g2 := hbk9.cell 2; have g3 := hbk9.cell 3; have g4 := hbk9.cell 4; have g5 := hbk9.cell 5
      have l9 := hbk9.lt
      have hz9 : w.heap.size ≤ w9.heap.size := Nat.le_trans hbz hbl9.size
      have HO9 := Lib.hid (own_keep HYS.out (fun k hk => hbl9.block k (own_lt HYS.out hk).2))
      have hk6 : k ≤ 400 := by omega
      clear hw9 hbk9 hbl9 q3 q4 q5 p5 p6 p7 hz7 HBK7 HBL7 HBK8 HG8
      go_wp2_with (at_builtin; refine wp_push rfl _ _ 33 rfl w.heap.size 105 Tryd.underlying33 inf_rNode rfl (by decide) w9 u3 k ys [.int .i64 xk, .string xt, .string xx, .slice A6 na c6, .int .i64 xp, .slice A8 nk c8] rfl rfl rfl HO9.out rfl (by simp [Value.oneCell']) (by omega) (by omega) hz9 ?_; intro v10 w10 hpush; have HPU := Lib.hid hpush; clear hpush)
      go_roundw
      case rel =>
        exact ⟨k + 1, by omega, by go_num, ⟨_, HPU.out.own⟩, HPU.out.below (bl_trans HB.out HBL9.out) (Nat.le_refl _) hz9⟩
      case measure => simp [intOf]; omega
    · obtain rfl : k = n := by omega
      obtain ⟨ys, hys⟩ := HO.out
      obtain ⟨_, A, c, rfl, _, _⟩ := RdS.of_own hys
      clear hys
      go_wp2_with fail
      go_ret
      exact ⟨⟨_, _, rfl⟩, HB.out⟩
end Go.Proofs.YtimlmekgapdkiaaDoor
namespace Go.Proofs.YtimlmekgapdkiaaDoor
set_option linter.unusedVariables false
set_option linter.unusedSimpArgs false
open Go.RowKit Go.Cas

theorem inf_rS : (Tryd.prog.info? 33).map (fun i => (i.zero, i.size, i.bytes)) = some (some (.slice none 0 0), 1, 24) := by kernel_rfl
/-- what a cell holds, whatever it is: a region may store to a cell that it loads -/
def cellV (w : World) (R o : Nat) : Value := (w.cell? ⟨R, o, none⟩).getD .nilIface
theorem cellV_eq {w : World} {R o : Nat} {v : Value} (h : w.cell? ⟨R, o, none⟩ = some v) : cellV w R o = v := by unfold cellV; rw [h]; rfl
theorem cellV_some {w : World} {R o : Nat} {v : Value} (h : w.cell? ⟨R, o, none⟩ = some v) : w.cell? ⟨R, o, none⟩ = some (cellV w R o) := by rw [cellV_eq h]; exact h
def KpRet (B R L cap nT : Nat) (τ : Nat → Nat) (M : List NV) (w : World) (e : Ending) (w' : World) : Prop :=
  (∃ u, e = .returned u) ∧ ∃ tv' xs' τ', RT B R L cap (nT + 1) tv' xs' τ' M w' ∧ (∀ k, k < w.heap.size → τ' k ≠ 0 → τ k ≠ 0) ∧ Kept w w' (fun k => τ k ≠ 0)
set_option maxRecDepth 100000 in
set_option maxHeartbeats 8000000 in
theorem c_keep {w : World} {B R L cap nT : Nat} {tv : Value} {xs : List Value} {τ : Nat → Nat} {M : List NV} (h : RT B R L cap nT tv xs τ M w) (hM : M.length ≤ 400) (hF : Few M) (hT : nT ≤ 1000000) :
    Calls Tryd.prog 91 #[.pointer (some ⟨R, 0, none⟩)] w (KpRet B R L cap nT τ M w) := by
  have H := Lib.hid h
  have HC := Lib.hid (c_copied (h.below (bl_drew (Below.refl _ w))) hM hF)
  have HS : Hid (∀ W', Below w.heap.size w W' → (W'.cell? ⟨R, 0, none⟩ = some (.slice (some ⟨L, 0, none⟩) M.length cap) ∧ W'.cell? ⟨R, 1, none⟩ = some tv)) := fun W' hb => ⟨(h.below hb).heads.1, (h.below hb).heads.2.1⟩
  have hTR : Hid (∀ k, tv.ownBlock = some k → k ≠ R) := fun k hk e => by have h1 := h.tT k hk; have h2 := h.tR; rw [e] at h1; omega
  obtain ⟨i0, hi0, hz0, hz1, hz2⟩ := info_parts inf_rS
  have HLT := Lib.hid h.ltR
  have HBB := Lib.hid h.hB
  obtain ⟨_, At, ct, rfl, _, _⟩ := RdS.of_own h.ow
  clear h hF
  go_enter Tryd.func91, Tryd.ntmps91
  have HV : Hid (∀ W', Below w.heap.size w W' → cellV W' R 1 = .slice At nT ct) := fun W' hb => cellV_eq (HS.out W' hb).2
  have HK : Hid (∀ W', Below w.heap.size w W' → (W'.cell? ⟨R, 0, none⟩ = some (.slice (some ⟨L, 0, none⟩) M.length cap) ∧ W'.cell? ⟨R, 1, none⟩ = some (cellV W' R 1))) := fun W' hb => ⟨(HS.out W' hb).1, cellV_some (HS.out W' hb).2⟩
  refine wp_region_noPanic ?_
  refine wp_region_held_drew (S := (fun w' => w'.cell? ⟨R, 0, none⟩ = some (.slice (some ⟨L, 0, none⟩) M.length cap) ∧ w'.cell? ⟨R, 1, none⟩ = some (cellV w' R 1))) (by kernel_rfl) ?_ (fun hHeld => ?_)
  · (try dsimp only)
    (first | with_reducible exact HK.out _ (bl_drew (Below.refl _ _)) | with_reducible exact HK.out _ (Below.refl _ _) | with_reducible exact HK.out _ HBC.out | with_reducible exact HK.out _ (bl_alloc HBC.out _) | with_reducible exact HS6.out | with_reducible exact HS7.out _)
  refine wpAnyH_take (i := 0) (v := ?_) rfl (by kernel_rfl) (by kernel_rfl) (by kernel_rfl) (fun _ _ _ h => h) (Or.inl ⟨by rfl, ?_⟩) (by assumption) ?_
  rotate_left
  · ((intro w hSw; (try dsimp only at hSw); go_simp); (try with_reducible rfl))
  try simp only [Act.put, List.setIfInBounds_toArray, List.set_cons_zero, List.set_cons_succ]
  refine wpAnyH_take (i := 1) (v := ?_) rfl (by kernel_rfl) (by kernel_rfl) (by kernel_rfl) (fun _ _ _ h => h) (Or.inl ⟨by rfl, ?_⟩) (by assumption) ?_
  rotate_left
  · ((intro w hSw; (try dsimp only at hSw); go_simp); (try with_reducible rfl))
  try simp only [Act.put, List.setIfInBounds_toArray, List.set_cons_zero, List.set_cons_succ]
  refine wpAnyH_take (i := 2) (v := ?_) rfl (by kernel_rfl) (by kernel_rfl) (by kernel_rfl) (fun _ _ _ h => h) (Or.inl ⟨by rfl, ?_⟩) (by assumption) ?_
  rotate_left
  · ((intro w hSw; (try dsimp only at hSw); go_simp); (try with_reducible rfl))
  try simp only [Act.put, List.setIfInBounds_toArray, List.set_cons_zero, List.set_cons_succ]
  refine wpAnyH_take (i := 3) (v := ?_) rfl (by kernel_rfl) (by kernel_rfl) (by kernel_rfl) (fun _ _ _ h => h) (Or.inl ⟨by rfl, ?_⟩) (by assumption) ?_
  rotate_left
  · ((intro w hSw; (try dsimp only at hSw); go_simp); (try with_reducible rfl))
  try simp only [Act.put, List.setIfInBounds_toArray, List.set_cons_zero, List.set_cons_succ]
  refine wpAnyH_take (i := 5) (v := ?_) rfl (by kernel_rfl) (by kernel_rfl) (by kernel_rfl) (fun _ _ _ h => h) (Or.inl ⟨by rfl, ?_⟩) (by assumption) ?_
  rotate_left
  · ((intro w hSw; (try dsimp only at hSw); go_simp); (try with_reducible rfl))
  try simp only [Act.put, List.setIfInBounds_toArray, List.set_cons_zero, List.set_cons_succ]
  refine wpAnyH_take (i := 6) (v := ?_) rfl (by kernel_rfl) (by kernel_rfl) (by kernel_rfl) (fun _ _ _ h => h) (Or.inl ⟨by rfl, ?_⟩) (by assumption) ?_
  rotate_left
  · ((intro w hSw; (try dsimp only at hSw); go_simp); (try with_reducible rfl))
  try simp only [Act.put, List.setIfInBounds_toArray, List.set_cons_zero, List.set_cons_succ]
  refine wpAnyH_take (i := 7) (v := ?_) rfl (by kernel_rfl) (by kernel_rfl) (by kernel_rfl) (fun _ _ _ h => h) (Or.inl ⟨by rfl, ?_⟩) (by assumption) ?_
  rotate_left
  · ((intro w hSw; (try dsimp only at hSw); go_simp); (try with_reducible rfl))
  try simp only [Act.put, List.setIfInBounds_toArray, List.set_cons_zero, List.set_cons_succ]
  refine wpAnyH_take (i := 8) (v := ?_) rfl (by kernel_rfl) (by kernel_rfl) (by kernel_rfl) (fun _ _ _ h => h) (Or.inl ⟨by rfl, ?_⟩) (by assumption) ?_
  rotate_left
  · ((intro w hSw; (try dsimp only at hSw); go_simp); (try with_reducible rfl))
  try simp only [Act.put, List.setIfInBounds_toArray, List.set_cons_zero, List.set_cons_succ]
  refine wpAnyH_ready (rs := [4, 9]) (by kernel_rfl) (by simp) ?_
  refine AllReadyH.cons rfl (fun K hK => ?_) ?_
  · go_simp
    refine hK.out _ _ ?_ (fun hHeld => ?_)
    · (try dsimp only)
      (first | with_reducible exact HK.out _ (bl_drew (Below.refl _ _)) | with_reducible exact HK.out _ (Below.refl _ _) | with_reducible exact HK.out _ HBC.out | with_reducible exact HK.out _ (bl_alloc HBC.out _) | with_reducible exact HS6.out | with_reducible exact HS7.out _)
    clear hK K
    try simp only [Act.put, List.setIfInBounds_toArray, List.set_cons_zero, List.set_cons_succ]
    refine wpAnyH_ready (rs := [9]) (by kernel_rfl) (by simp) ?_
    refine AllReadyH.cons rfl (fun K hK => ?_) ?_
    · (go_simp; go_at_call 117; (with_reducible refine (HC.out).mono ?_); rintro e w1 ⟨⟨A1, c1, rfl⟩, hb1⟩; have HBC : Hid (Below w.heap.size w w1) := bl_trans (bl_drew (Below.refl _ _)) hb1; have HOT := Lib.hid (own_keep H.out.ow (fun k hk => HBC.out.block k (own_lt H.out.ow hk).2)); have c0 := (HS.out w1 HBC.out).1; have c2 := (HS.out w1 HBC.out).2; have c3 : R < w1.heap.size := Nat.lt_of_lt_of_le HLT.out HBC.out.size; clear hb1)
      refine hK.out _ _ ?_ (fun hHeld => ?_)
      · (try dsimp only)
        (first | with_reducible exact HK.out _ (bl_drew (Below.refl _ _)) | with_reducible exact HK.out _ (Below.refl _ _) | with_reducible exact HK.out _ HBC.out | with_reducible exact HK.out _ (bl_alloc HBC.out _) | with_reducible exact HS6.out | with_reducible exact HS7.out _)
      clear hK K
      try simp only [Act.put, List.setIfInBounds_toArray, List.set_cons_zero, List.set_cons_succ]
      refine wpAnyH_ready (rs := [10]) (by kernel_rfl) (by simp) ?_
      refine AllReadyH.cons rfl (fun K hK => ?_) ?_
      · go_simp
        refine hK.out _ _ ?_ (fun hHeld => ?_)
        · (try dsimp only)
          (first | with_reducible exact HK.out _ (bl_drew (Below.refl _ _)) | with_reducible exact HK.out _ (Below.refl _ _) | with_reducible exact HK.out _ HBC.out | with_reducible exact HK.out _ (bl_alloc HBC.out _) | with_reducible exact HS6.out | with_reducible exact HS7.out _)
        clear hK K
        try simp only [Act.put, List.setIfInBounds_toArray, List.set_cons_zero, List.set_cons_succ]
        refine wpAnyH_ready (rs := [11]) (by kernel_rfl) (by simp) ?_
        refine AllReadyH.cons rfl (fun K hK => ?_) ?_
        · (refine step_append_lies _ (by rfl) _ _ _ (by rfl) B 33 i0 _ 1 24 Tryd.underlying34 hi0 hz0 hz1 hz2 rfl (by omega) (.slice At nT ct) nT xs (by first | exact HV.out _ (bl_drew (Below.refl _ _)) | exact HV.out _ HBC.out | exact HV.out _ (bl_alloc HBC.out _) | rfl) (HOT.out.alloc _) ⟨w1.heap.size, 0, none⟩ 1 1 [.slice A1 M.length c1] (by rfl) (by rfl) (World.news_of_block (cs := #[.slice A1 M.length c1]) (t := 33) (fr := (0, 0)) (bk_new' w1 33 #[.slice A1 M.length c1] rfl)) (by simp [Value.oneCell']) (by omega) (by unfold maxLen; omega) (by omega) (by have := HBB.out; have := HBC.out.size; simp; omega) (w1.heap.size + 1) (by simp) ?_; intro gg cap6 w6 hown6 hgrow6 hat6 hlt6; have HO6 := Lib.hid hown6; have HG6 := Lib.hid hgrow6; have HAT : Hid ((Value.slice At nT ct).ownBlock = some gg ∨ gg = w1.heap.size + 1) := hat6; have HBA : Hid (Below w.heap.size w (w1.alloc (.cells #[.slice A1 M.length c1] 33))) := bl_alloc HBC.out _; have hbR : Bk w6 R 36 #[.slice (some ⟨L, 0, none⟩) M.length cap, .slice At nT ct] := (H.out.root.below HBA.out HLT.out).grown hgrow6 (fun e => hTR.out R e.symm rfl); have HBR := Lib.hid hbR; have q1 := hbR.free 1; have q2 := hbR.cell 1; have q3 := hbR.lt; have HS6 : Hid (w6.cell? ⟨R, 0, none⟩ = some (.slice (some ⟨L, 0, none⟩) M.length cap) ∧ w6.cell? ⟨R, 1, none⟩ = some (cellV w6 R 1)) := ⟨hbR.cell 0, cellV_some (hbR.cell 1)⟩; have HS7 : Hid (∀ u, (w6.setCell ⟨R, 1, none⟩ u).cell? ⟨R, 0, none⟩ = some (.slice (some ⟨L, 0, none⟩) M.length cap) ∧ (w6.setCell ⟨R, 1, none⟩ u).cell? ⟨R, 1, none⟩ = some (cellV (w6.setCell ⟨R, 1, none⟩ u) R 1)) := fun u => ⟨(hbR.set_ 1 u).cell 0, cellV_some ((hbR.set_ 1 u).cell 1)⟩; clear hown6 hgrow6 hat6 hlt6 hbR)
          refine hK.out _ _ ?_ (fun hHeld => ?_)
          · (try dsimp only)
            (first | with_reducible exact HK.out _ (bl_drew (Below.refl _ _)) | with_reducible exact HK.out _ (Below.refl _ _) | with_reducible exact HK.out _ HBC.out | with_reducible exact HK.out _ (bl_alloc HBC.out _) | with_reducible exact HS6.out | with_reducible exact HS7.out _)
          clear hK K
          try simp only [Act.put, List.setIfInBounds_toArray, List.set_cons_zero, List.set_cons_succ]
          refine wpAnyH_take (i := 12) (v := ?_) rfl (by kernel_rfl) (by kernel_rfl) (by kernel_rfl) (fun _ _ _ h => h) (Or.inl ⟨by rfl, ?_⟩) (by assumption) ?_
          rotate_left
          · ((intro w hSw; (try dsimp only at hSw); go_simp); (try with_reducible rfl))
          try simp only [Act.put, List.setIfInBounds_toArray, List.set_cons_zero, List.set_cons_succ]
          refine wpAnyH_take (i := 13) (v := ?_) rfl (by kernel_rfl) (by kernel_rfl) (by kernel_rfl) (fun _ _ _ h => h) (Or.inl ⟨by rfl, ?_⟩) (by assumption) ?_
          rotate_left
          · ((intro w hSw; (try dsimp only at hSw); go_simp); (try with_reducible rfl))
          try simp only [Act.put, List.setIfInBounds_toArray, List.set_cons_zero, List.set_cons_succ]
          refine wpAnyH_ready (rs := [14]) (by kernel_rfl) (by simp) ?_
          refine AllReadyH.cons rfl (fun K hK => ?_) ?_
          · go_simp
            refine hK.out _ _ ?_ (fun hHeld => ?_)
            · (try dsimp only)
              (first | with_reducible exact HK.out _ (bl_drew (Below.refl _ _)) | with_reducible exact HK.out _ (Below.refl _ _) | with_reducible exact HK.out _ HBC.out | with_reducible exact HK.out _ (bl_alloc HBC.out _) | with_reducible exact HS6.out | with_reducible exact HS7.out _)
            clear hK K
            try simp only [Act.put, List.setIfInBounds_toArray, List.set_cons_zero, List.set_cons_succ]
            refine wpAnyH_done (by kernel_rfl) ?_ _
            refine NoPanic.normal ?_
            go_wp2_with fail
            go_end0
            have hs6 : w.heap.size ≤ w6.heap.size := Nat.le_trans HBA.out.size HG6.out.size
            have hat : ∀ k, (Value.slice (some ⟨gg, 0, none⟩) (nT + 1) cap6).ownBlock = some k → (Value.slice At nT ct).ownBlock = some k ∨ w.heap.size ≤ k := fun k hk => by
              injection hk with hk
              subst hk
              rcases HAT.out with e | e
              · exact .inl e
              · right; have := HBC.out.size; show w.heap.size ≤ gg; omega
            have hkk : ∀ k, k < w.heap.size → (Value.slice At nT ct).ownBlock ≠ some k → w6.heap[k]? = w.heap[k]? := fun k hk hn => (HG6.out.block k (Nat.lt_of_lt_of_le hk HBA.out.size) (fun e => hn e.symm)).trans (HBA.out.block k hk)
            refine ⟨⟨_, rfl⟩, _, _, _, H.out.setT (.slice (some ⟨gg, 0, none⟩) (nT + 1) cap6) hkk hs6 HO6.out hat, fun k hk hf => ?_, ?_⟩
            · by_cases e : (Value.slice (some ⟨gg, 0, none⟩) (nT + 1) cap6).ownBlock = some k
              · rcases hat k e with e2 | e2
                · rw [H.out.tT k e2]; omega
                · omega
              · rw [if_neg e] at hf; exact hf
            · have k1 : Kept w w6 (fun k => τ k ≠ 0) := (Kept.of_below HBA.out _).then_ (Kept.grown HG6.out (fun k => (Value.slice At nT ct).ownBlock = some k) (fun k e => e)) (fun k _ e => by rw [H.out.tT k e]; omega)
              exact k1.set_ R 1 (fun _ => by rw [H.out.tR]; omega) _
          exact AllReadyH.nil
        exact AllReadyH.nil
      exact AllReadyH.nil
    exact AllReadyH.nil
  refine AllReadyH.cons rfl (fun K hK => ?_) ?_
  · (go_simp; go_at_call 117; (with_reducible refine (HC.out).mono ?_); rintro e w1 ⟨⟨A1, c1, rfl⟩, hb1⟩; have HBC : Hid (Below w.heap.size w w1) := bl_trans (bl_drew (Below.refl _ _)) hb1; have HOT := Lib.hid (own_keep H.out.ow (fun k hk => HBC.out.block k (own_lt H.out.ow hk).2)); have c0 := (HS.out w1 HBC.out).1; have c2 := (HS.out w1 HBC.out).2; have c3 : R < w1.heap.size := Nat.lt_of_lt_of_le HLT.out HBC.out.size; clear hb1)
    refine hK.out _ _ ?_ (fun hHeld => ?_)
    · (try dsimp only)
      (first | with_reducible exact HK.out _ (bl_drew (Below.refl _ _)) | with_reducible exact HK.out _ (Below.refl _ _) | with_reducible exact HK.out _ HBC.out | with_reducible exact HK.out _ (bl_alloc HBC.out _) | with_reducible exact HS6.out | with_reducible exact HS7.out _)
    clear hK K
    try simp only [Act.put, List.setIfInBounds_toArray, List.set_cons_zero, List.set_cons_succ]
    refine wpAnyH_ready (rs := [4, 10]) (by kernel_rfl) (by simp) ?_
    refine AllReadyH.cons rfl (fun K hK => ?_) ?_
    · go_simp
      refine hK.out _ _ ?_ (fun hHeld => ?_)
      · (try dsimp only)
        (first | with_reducible exact HK.out _ (bl_drew (Below.refl _ _)) | with_reducible exact HK.out _ (Below.refl _ _) | with_reducible exact HK.out _ HBC.out | with_reducible exact HK.out _ (bl_alloc HBC.out _) | with_reducible exact HS6.out | with_reducible exact HS7.out _)
      clear hK K
      try simp only [Act.put, List.setIfInBounds_toArray, List.set_cons_zero, List.set_cons_succ]
      refine wpAnyH_ready (rs := [10]) (by kernel_rfl) (by simp) ?_
      refine AllReadyH.cons rfl (fun K hK => ?_) ?_
      · go_simp
        refine hK.out _ _ ?_ (fun hHeld => ?_)
        · (try dsimp only)
          (first | with_reducible exact HK.out _ (bl_drew (Below.refl _ _)) | with_reducible exact HK.out _ (Below.refl _ _) | with_reducible exact HK.out _ HBC.out | with_reducible exact HK.out _ (bl_alloc HBC.out _) | with_reducible exact HS6.out | with_reducible exact HS7.out _)
        clear hK K
        try simp only [Act.put, List.setIfInBounds_toArray, List.set_cons_zero, List.set_cons_succ]
        refine wpAnyH_ready (rs := [11]) (by kernel_rfl) (by simp) ?_
        refine AllReadyH.cons rfl (fun K hK => ?_) ?_
        · (refine step_append_lies _ (by rfl) _ _ _ (by rfl) B 33 i0 _ 1 24 Tryd.underlying34 hi0 hz0 hz1 hz2 rfl (by omega) (.slice At nT ct) nT xs (by first | exact HV.out _ (bl_drew (Below.refl _ _)) | exact HV.out _ HBC.out | exact HV.out _ (bl_alloc HBC.out _) | rfl) (HOT.out.alloc _) ⟨w1.heap.size, 0, none⟩ 1 1 [.slice A1 M.length c1] (by rfl) (by rfl) (World.news_of_block (cs := #[.slice A1 M.length c1]) (t := 33) (fr := (0, 0)) (bk_new' w1 33 #[.slice A1 M.length c1] rfl)) (by simp [Value.oneCell']) (by omega) (by unfold maxLen; omega) (by omega) (by have := HBB.out; have := HBC.out.size; simp; omega) (w1.heap.size + 1) (by simp) ?_; intro gg cap6 w6 hown6 hgrow6 hat6 hlt6; have HO6 := Lib.hid hown6; have HG6 := Lib.hid hgrow6; have HAT : Hid ((Value.slice At nT ct).ownBlock = some gg ∨ gg = w1.heap.size + 1) := hat6; have HBA : Hid (Below w.heap.size w (w1.alloc (.cells #[.slice A1 M.length c1] 33))) := bl_alloc HBC.out _; have hbR : Bk w6 R 36 #[.slice (some ⟨L, 0, none⟩) M.length cap, .slice At nT ct] := (H.out.root.below HBA.out HLT.out).grown hgrow6 (fun e => hTR.out R e.symm rfl); have HBR := Lib.hid hbR; have q1 := hbR.free 1; have q2 := hbR.cell 1; have q3 := hbR.lt; have HS6 : Hid (w6.cell? ⟨R, 0, none⟩ = some (.slice (some ⟨L, 0, none⟩) M.length cap) ∧ w6.cell? ⟨R, 1, none⟩ = some (cellV w6 R 1)) := ⟨hbR.cell 0, cellV_some (hbR.cell 1)⟩; have HS7 : Hid (∀ u, (w6.setCell ⟨R, 1, none⟩ u).cell? ⟨R, 0, none⟩ = some (.slice (some ⟨L, 0, none⟩) M.length cap) ∧ (w6.setCell ⟨R, 1, none⟩ u).cell? ⟨R, 1, none⟩ = some (cellV (w6.setCell ⟨R, 1, none⟩ u) R 1)) := fun u => ⟨(hbR.set_ 1 u).cell 0, cellV_some ((hbR.set_ 1 u).cell 1)⟩; clear hown6 hgrow6 hat6 hlt6 hbR)
          refine hK.out _ _ ?_ (fun hHeld => ?_)
          · (try dsimp only)
            (first | with_reducible exact HK.out _ (bl_drew (Below.refl _ _)) | with_reducible exact HK.out _ (Below.refl _ _) | with_reducible exact HK.out _ HBC.out | with_reducible exact HK.out _ (bl_alloc HBC.out _) | with_reducible exact HS6.out | with_reducible exact HS7.out _)
          clear hK K
          try simp only [Act.put, List.setIfInBounds_toArray, List.set_cons_zero, List.set_cons_succ]
          refine wpAnyH_take (i := 12) (v := ?_) rfl (by kernel_rfl) (by kernel_rfl) (by kernel_rfl) (fun _ _ _ h => h) (Or.inl ⟨by rfl, ?_⟩) (by assumption) ?_
          rotate_left
          · ((intro w hSw; (try dsimp only at hSw); go_simp); (try with_reducible rfl))
          try simp only [Act.put, List.setIfInBounds_toArray, List.set_cons_zero, List.set_cons_succ]
          refine wpAnyH_take (i := 13) (v := ?_) rfl (by kernel_rfl) (by kernel_rfl) (by kernel_rfl) (fun _ _ _ h => h) (Or.inl ⟨by rfl, ?_⟩) (by assumption) ?_
          rotate_left
          · ((intro w hSw; (try dsimp only at hSw); go_simp); (try with_reducible rfl))
          try simp only [Act.put, List.setIfInBounds_toArray, List.set_cons_zero, List.set_cons_succ]
          refine wpAnyH_ready (rs := [14]) (by kernel_rfl) (by simp) ?_
          refine AllReadyH.cons rfl (fun K hK => ?_) ?_
          · go_simp
            refine hK.out _ _ ?_ (fun hHeld => ?_)
            · (try dsimp only)
              (first | with_reducible exact HK.out _ (bl_drew (Below.refl _ _)) | with_reducible exact HK.out _ (Below.refl _ _) | with_reducible exact HK.out _ HBC.out | with_reducible exact HK.out _ (bl_alloc HBC.out _) | with_reducible exact HS6.out | with_reducible exact HS7.out _)
            clear hK K
            try simp only [Act.put, List.setIfInBounds_toArray, List.set_cons_zero, List.set_cons_succ]
            refine wpAnyH_done (by kernel_rfl) ?_ _
            refine NoPanic.normal ?_
            go_wp2_with fail
            go_end0
            have hs6 : w.heap.size ≤ w6.heap.size := Nat.le_trans HBA.out.size HG6.out.size
            have hat : ∀ k, (Value.slice (some ⟨gg, 0, none⟩) (nT + 1) cap6).ownBlock = some k → (Value.slice At nT ct).ownBlock = some k ∨ w.heap.size ≤ k := fun k hk => by
              injection hk with hk
              subst hk
              rcases HAT.out with e | e
              · exact .inl e
              · right; have := HBC.out.size; show w.heap.size ≤ gg; omega
            have hkk : ∀ k, k < w.heap.size → (Value.slice At nT ct).ownBlock ≠ some k → w6.heap[k]? = w.heap[k]? := fun k hk hn => (HG6.out.block k (Nat.lt_of_lt_of_le hk HBA.out.size) (fun e => hn e.symm)).trans (HBA.out.block k hk)
            refine ⟨⟨_, rfl⟩, _, _, _, H.out.setT (.slice (some ⟨gg, 0, none⟩) (nT + 1) cap6) hkk hs6 HO6.out hat, fun k hk hf => ?_, ?_⟩
            · by_cases e : (Value.slice (some ⟨gg, 0, none⟩) (nT + 1) cap6).ownBlock = some k
              · rcases hat k e with e2 | e2
                · rw [H.out.tT k e2]; omega
                · omega
              · rw [if_neg e] at hf; exact hf
            · have k1 : Kept w w6 (fun k => τ k ≠ 0) := (Kept.of_below HBA.out _).then_ (Kept.grown HG6.out (fun k => (Value.slice At nT ct).ownBlock = some k) (fun k e => e)) (fun k _ e => by rw [H.out.tT k e]; omega)
              exact k1.set_ R 1 (fun _ => by rw [H.out.tR]; omega) _
          exact AllReadyH.nil
        exact AllReadyH.nil
      exact AllReadyH.nil
    refine AllReadyH.cons rfl (fun K hK => ?_) ?_
    · go_simp
      refine hK.out _ _ ?_ (fun hHeld => ?_)
      · (try dsimp only)
        (first | with_reducible exact HK.out _ (bl_drew (Below.refl _ _)) | with_reducible exact HK.out _ (Below.refl _ _) | with_reducible exact HK.out _ HBC.out | with_reducible exact HK.out _ (bl_alloc HBC.out _) | with_reducible exact HS6.out | with_reducible exact HS7.out _)
      clear hK K
      try simp only [Act.put, List.setIfInBounds_toArray, List.set_cons_zero, List.set_cons_succ]
      refine wpAnyH_ready (rs := [4]) (by kernel_rfl) (by simp) ?_
      refine AllReadyH.cons rfl (fun K hK => ?_) ?_
      · go_simp
        refine hK.out _ _ ?_ (fun hHeld => ?_)
        · (try dsimp only)
          (first | with_reducible exact HK.out _ (bl_drew (Below.refl _ _)) | with_reducible exact HK.out _ (Below.refl _ _) | with_reducible exact HK.out _ HBC.out | with_reducible exact HK.out _ (bl_alloc HBC.out _) | with_reducible exact HS6.out | with_reducible exact HS7.out _)
        clear hK K
        try simp only [Act.put, List.setIfInBounds_toArray, List.set_cons_zero, List.set_cons_succ]
        refine wpAnyH_ready (rs := [11]) (by kernel_rfl) (by simp) ?_
        refine AllReadyH.cons rfl (fun K hK => ?_) ?_
        · (refine step_append_lies _ (by rfl) _ _ _ (by rfl) B 33 i0 _ 1 24 Tryd.underlying34 hi0 hz0 hz1 hz2 rfl (by omega) (.slice At nT ct) nT xs (by first | exact HV.out _ (bl_drew (Below.refl _ _)) | exact HV.out _ HBC.out | exact HV.out _ (bl_alloc HBC.out _) | rfl) (HOT.out.alloc _) ⟨w1.heap.size, 0, none⟩ 1 1 [.slice A1 M.length c1] (by rfl) (by rfl) (World.news_of_block (cs := #[.slice A1 M.length c1]) (t := 33) (fr := (0, 0)) (bk_new' w1 33 #[.slice A1 M.length c1] rfl)) (by simp [Value.oneCell']) (by omega) (by unfold maxLen; omega) (by omega) (by have := HBB.out; have := HBC.out.size; simp; omega) (w1.heap.size + 1) (by simp) ?_; intro gg cap6 w6 hown6 hgrow6 hat6 hlt6; have HO6 := Lib.hid hown6; have HG6 := Lib.hid hgrow6; have HAT : Hid ((Value.slice At nT ct).ownBlock = some gg ∨ gg = w1.heap.size + 1) := hat6; have HBA : Hid (Below w.heap.size w (w1.alloc (.cells #[.slice A1 M.length c1] 33))) := bl_alloc HBC.out _; have hbR : Bk w6 R 36 #[.slice (some ⟨L, 0, none⟩) M.length cap, .slice At nT ct] := (H.out.root.below HBA.out HLT.out).grown hgrow6 (fun e => hTR.out R e.symm rfl); have HBR := Lib.hid hbR; have q1 := hbR.free 1; have q2 := hbR.cell 1; have q3 := hbR.lt; have HS6 : Hid (w6.cell? ⟨R, 0, none⟩ = some (.slice (some ⟨L, 0, none⟩) M.length cap) ∧ w6.cell? ⟨R, 1, none⟩ = some (cellV w6 R 1)) := ⟨hbR.cell 0, cellV_some (hbR.cell 1)⟩; have HS7 : Hid (∀ u, (w6.setCell ⟨R, 1, none⟩ u).cell? ⟨R, 0, none⟩ = some (.slice (some ⟨L, 0, none⟩) M.length cap) ∧ (w6.setCell ⟨R, 1, none⟩ u).cell? ⟨R, 1, none⟩ = some (cellV (w6.setCell ⟨R, 1, none⟩ u) R 1)) := fun u => ⟨(hbR.set_ 1 u).cell 0, cellV_some ((hbR.set_ 1 u).cell 1)⟩; clear hown6 hgrow6 hat6 hlt6 hbR)
          refine hK.out _ _ ?_ (fun hHeld => ?_)
          · (try dsimp only)
            (first | with_reducible exact HK.out _ (bl_drew (Below.refl _ _)) | with_reducible exact HK.out _ (Below.refl _ _) | with_reducible exact HK.out _ HBC.out | with_reducible exact HK.out _ (bl_alloc HBC.out _) | with_reducible exact HS6.out | with_reducible exact HS7.out _)
          clear hK K
          try simp only [Act.put, List.setIfInBounds_toArray, List.set_cons_zero, List.set_cons_succ]
          refine wpAnyH_take (i := 12) (v := ?_) rfl (by kernel_rfl) (by kernel_rfl) (by kernel_rfl) (fun _ _ _ h => h) (Or.inl ⟨by rfl, ?_⟩) (by assumption) ?_
          rotate_left
          · ((intro w hSw; (try dsimp only at hSw); go_simp); (try with_reducible rfl))
          try simp only [Act.put, List.setIfInBounds_toArray, List.set_cons_zero, List.set_cons_succ]
          refine wpAnyH_take (i := 13) (v := ?_) rfl (by kernel_rfl) (by kernel_rfl) (by kernel_rfl) (fun _ _ _ h => h) (Or.inl ⟨by rfl, ?_⟩) (by assumption) ?_
          rotate_left
          · ((intro w hSw; (try dsimp only at hSw); go_simp); (try with_reducible rfl))
          try simp only [Act.put, List.setIfInBounds_toArray, List.set_cons_zero, List.set_cons_succ]
          refine wpAnyH_ready (rs := [14]) (by kernel_rfl) (by simp) ?_
          refine AllReadyH.cons rfl (fun K hK => ?_) ?_
          · go_simp
            refine hK.out _ _ ?_ (fun hHeld => ?_)
            · (try dsimp only)
              (first | with_reducible exact HK.out _ (bl_drew (Below.refl _ _)) | with_reducible exact HK.out _ (Below.refl _ _) | with_reducible exact HK.out _ HBC.out | with_reducible exact HK.out _ (bl_alloc HBC.out _) | with_reducible exact HS6.out | with_reducible exact HS7.out _)
            clear hK K
            try simp only [Act.put, List.setIfInBounds_toArray, List.set_cons_zero, List.set_cons_succ]
            refine wpAnyH_done (by kernel_rfl) ?_ _
            refine NoPanic.normal ?_
            go_wp2_with fail
            go_end0
            have hs6 : w.heap.size ≤ w6.heap.size := Nat.le_trans HBA.out.size HG6.out.size
            have hat : ∀ k, (Value.slice (some ⟨gg, 0, none⟩) (nT + 1) cap6).ownBlock = some k → (Value.slice At nT ct).ownBlock = some k ∨ w.heap.size ≤ k := fun k hk => by
              injection hk with hk
              subst hk
              rcases HAT.out with e | e
              · exact .inl e
              · right; have := HBC.out.size; show w.heap.size ≤ gg; omega
            have hkk : ∀ k, k < w.heap.size → (Value.slice At nT ct).ownBlock ≠ some k → w6.heap[k]? = w.heap[k]? := fun k hk hn => (HG6.out.block k (Nat.lt_of_lt_of_le hk HBA.out.size) (fun e => hn e.symm)).trans (HBA.out.block k hk)
            refine ⟨⟨_, rfl⟩, _, _, _, H.out.setT (.slice (some ⟨gg, 0, none⟩) (nT + 1) cap6) hkk hs6 HO6.out hat, fun k hk hf => ?_, ?_⟩
            · by_cases e : (Value.slice (some ⟨gg, 0, none⟩) (nT + 1) cap6).ownBlock = some k
              · rcases hat k e with e2 | e2
                · rw [H.out.tT k e2]; omega
                · omega
              · rw [if_neg e] at hf; exact hf
            · have k1 : Kept w w6 (fun k => τ k ≠ 0) := (Kept.of_below HBA.out _).then_ (Kept.grown HG6.out (fun k => (Value.slice At nT ct).ownBlock = some k) (fun k e => e)) (fun k _ e => by rw [H.out.tT k e]; omega)
              exact k1.set_ R 1 (fun _ => by rw [H.out.tR]; omega) _
          exact AllReadyH.nil
        exact AllReadyH.nil
      exact AllReadyH.nil
    exact AllReadyH.nil
  exact AllReadyH.nil
end Go.Proofs.YtimlmekgapdkiaaDoor
