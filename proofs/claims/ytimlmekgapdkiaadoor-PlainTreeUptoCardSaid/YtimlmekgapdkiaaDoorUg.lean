/- the document's tree: a copy of all nodes; what was is kept -/
import Derived.Test.YtimlmekgapdkiaaDoorUf
import Derived.Test.YtimlmekgapdkiaaDoorbase
namespace Go.Proofs.YtimlmekgapdkiaaDoor
set_option linter.unusedVariables false
set_option linter.unusedSimpArgs false
open Go.RowKit Go.Cas

theorem inf_rNode : (Tryd.prog.info? 105).map (fun i => (i.zero, i.size, i.bytes)) = some (some (.agg #[.int .i64 0, .string ByteArray.empty, .string ByteArray.empty, .slice none 0 0, .int .i64 0, .slice none 0 0]), 6, 96) := by kernel_rfl
/-- lists of nodes that are not too long -/
def Few (M : List NV) : Prop := ∀ y ∈ M, y.x.at_.length ≤ 1000000 ∧ y.x.ki.length ≤ 1000000
def CpRet (n : Nat) (w : World) (e : Ending) (w' : World) : Prop := (∃ A c, e = .returned (.slice A n c)) ∧ Below w.heap.size w w'
set_option maxRecDepth 100000 in
set_option maxHeartbeats 8000000 in
theorem c_copied {w : World} {B R L cap nT : Nat} {tv : Value} {xs : List Value} {τ : Nat → Nat} {M : List NV} (h : RT B R L cap nT tv xs τ M w) (hM : M.length ≤ 400) (hF : Few M) :
    Calls Tryd.prog 117 #[.slice (some ⟨L, 0, none⟩) M.length cap] w (CpRet M.length w) := by
  have H := Lib.hid h
  have HF := Lib.hid hF
  clear h hF
  obtain ⟨n, hn⟩ : ∃ n, n = M.length := ⟨_, rfl⟩
  have HN := Lib.hid hn
  rw [← hn] at hM ⊢
  clear hn
  go_enter Tryd.func117, Tryd.ntmps117
  go_wp2_with fail
  go_loopw [3, 4] (fun o i wr => ∃ (k : Nat), k ≤ n ∧ i = .int .i64 k ∧ Hid (∃ ys, wr.ownsRow w.heap.size 105 6 o k ys) ∧ Hid (Below w.heap.size w wr)) (fun _ i _ => n - (intOf i).toNat)
  case atStart => exact ⟨0, by omega, rfl, ⟨[], World.ownsRow_nil _ _ _ _⟩, Below.refl _ _⟩
  case round =>
    obtain ⟨k, hk, rfl, HO, HB⟩ := hrel
    by_cases hlt : k < n
    · have hik : (k : Int) < (n : Int) := by omega
      obtain ⟨ys, hys⟩ := HO.out
      have HYS := Lib.hid hys
      obtain ⟨y, hy⟩ : ∃ y, M[k]? = some y := ⟨_, List.getElem?_eq_getElem (by have := HN.out; omega)⟩
      have h1 := H.out.below HB.out
      obtain ⟨⟨a0, a1, a2⟩, a3, a4, a5⟩ := h1.cell hy
      have hrL := h1.ltL
      have HYA := Lib.hid (RdS.of_own (h1.at_ k y hy))
      have HYK := Lib.hid ((h1.ki k y hy).toS (lim := wr.heap.size) (fun k hz => (h1.tB k (by rw [show τ k = 4 from hz]; omega)).2))
      have HFY := Lib.hid (HF.out y (List.mem_of_getElem? hy))
      obtain ⟨_, Aa, ca, hva, _, _⟩ := HYA.out
      obtain ⟨_, Ak, ck, hvk, _, _⟩ := HYK.out
      have hbz : w.heap.size ≤ wr.heap.size := HB.out.size
      obtain ⟨xk, hxk⟩ : ∃ q, q = y.x.k := ⟨_, rfl⟩
      obtain ⟨xt, hxt⟩ : ∃ q, q = y.x.tag := ⟨_, rfl⟩
      obtain ⟨xx, hxx⟩ : ∃ q, q = y.x.txt := ⟨_, rfl⟩
      obtain ⟨xp, hxp⟩ : ∃ q, q = y.x.pa := ⟨_, rfl⟩
      obtain ⟨na, hna⟩ : ∃ q, q = y.x.at_.length := ⟨_, rfl⟩
      obtain ⟨nk, hnk⟩ : ∃ q, q = y.x.ki.length := ⟨_, rfl⟩
      obtain ⟨la, hla⟩ : ∃ q, q = atc y.x.at_ := ⟨_, rfl⟩
      obtain ⟨lk, hlk⟩ : ∃ q, q = kic y.x.ki := ⟨_, rfl⟩
      have HOA : Hid (∀ u ∈ la, u.oneCell' = true) := by rw [hla]; exact one_atc _
      have HOK : Hid (∀ u ∈ lk, u.oneCell' = true) := by rw [hlk]; exact one_kic _
      have hn1 : na ≤ 1000000 := by rw [hna]; exact HFY.out.1
      have hn2 : nk ≤ 1000000 := by rw [hnk]; exact HFY.out.2
      rw [hva] at a3 HYA
      rw [hvk] at a5 HYK
      rw [← hxk] at a0; rw [← hxt] at a1; rw [← hxx] at a2; rw [← hxp] at a4; rw [← hna] at a3; rw [← hnk] at a5
      rw [← hna, ← hla] at HYA
      rw [← hnk, ← hlk] at HYK
      clear hys hy h1 hva hvk hxk hxt hxx hxp hna hnk hla hlk HFY
      go_upto_region 6 with fail
      obtain ⟨b, hb⟩ : ∃ b, b = wr.heap.size := ⟨_, rfl⟩
      obtain ⟨w2, hw2⟩ : ∃ w2, w2 = wr.alloc (.cells #[.int .i64 xk, .string xt, .string xx, .slice Aa na ca, .int .i64 xp, .slice Ak nk ck] 105) := ⟨_, rfl⟩
      have hbk : Bk w2 b 105 #[.int .i64 xk, .string xt, .string xx, .slice Aa na ca, .int .i64 xp, .slice Ak nk ck] := by rw [hw2, hb]; exact Bk.new _ _ _
      have hbl : Below wr.heap.size wr w2 := by rw [hw2]; exact bl_alloc (Below.refl _ _) _
      rw [← hw2, ← hb]
      have HBK := Lib.hid hbk
      have HBL := Lib.hid hbl
      have HBE := Lib.hid hb
      have e3 := hbk.cell 3
      have f3 := hbk.free 3
      have lb := hbk.lt
      have hz2 : w.heap.size ≤ w2.heap.size := Nat.le_trans hbz hbl.size
      clear hw2 hb hbk hbl a0 a1 a2 a3 a4 a5
      go_upto_region 7 with (at_builtin; refine wp_spread rfl _ _ 84 rfl w.heap.size 88 Tryd.underlying84 inf_A rfl (by omega) (.slice none 0 0) 0 [] rfl (World.ownsRow_nil _ _ _ _) wr.heap.size (.slice Aa na ca) na la rfl (HYA.out.below HBL.out) HOA.out (by unfold maxLen; omega) (by omega) hz2 ?_; intro v6 w6 hown6 hgrow6 hat6; rw [Nat.zero_add, List.nil_append] at hown6; obtain ⟨_, A6, c6, rfl, _, _⟩ := RdS.of_own hown6; have HO6 := Lib.hid hown6; have HG6 := Lib.hid hgrow6; have hbk6 := HBK.out.grown hgrow6 (by simp [Value.ownBlock]); have HBK6 := Lib.hid hbk6; have q3 := hbk6.cell 3; have q4 := hbk6.free 3; have q5 := hbk6.lt; clear hown6 hgrow6 hat6 hbk6)
      obtain ⟨w7, hw7⟩ : ∃ w7, w7 = w6.setCell ⟨b, 3, none⟩ (.slice A6 na c6) := ⟨_, rfl⟩
      have hbk7 : Bk w7 b 105 #[.int .i64 xk, .string xt, .string xx, .slice A6 na c6, .int .i64 xp, .slice Ak nk ck] := by rw [hw7]; exact HBK6.out.set_ 3 _
      have hbl7 : Below wr.heap.size wr w7 := by rw [hw7]; exact bl_set (HBL.out.grown HG6.out HBL.out.size (fun k hk => by simp [Value.ownBlock] at hk)) b 3 (by rw [HBE.out]; exact Nat.le_refl _) _
      rw [← hw7]
      have HBK7 := Lib.hid hbk7
      have HBL7 := Lib.hid hbl7
      have p5 := hbk7.cell 5
      have p6 := hbk7.free 5
      have p7 := hbk7.lt
      have hz7 : w.heap.size ≤ w7.heap.size := Nat.le_trans hbz hbl7.size
      clear hw7 hbk7 hbl7 q3 q4 q5 e3 f3 lb hz2 HBK HBL HBK6 HG6
      go_upto_region 8 with (at_builtin; refine wp_spread rfl _ _ 75 rfl w.heap.size 3 Tryd.underlying75 inf_I rfl (by omega) (.slice none 0 0) 0 [] rfl (World.ownsRow_nil _ _ _ _) wr.heap.size (.slice Ak nk ck) nk lk rfl (HYK.out.below HBL7.out) HOK.out (by unfold maxLen; omega) (by omega) hz7 ?_; intro v8 w8 hown8 hgrow8 hat8; rw [Nat.zero_add, List.nil_append] at hown8; obtain ⟨_, A8, c8, rfl, _, _⟩ := RdS.of_own hown8; have HO8 := Lib.hid hown8; have HG8 := Lib.hid hgrow8; have hbk8 := HBK7.out.grown hgrow8 (by simp [Value.ownBlock]); have HBK8 := Lib.hid hbk8; have q3 := hbk8.cell 5; have q4 := hbk8.free 5; have q5 := hbk8.lt; clear hown8 hgrow8 hat8 hbk8)
      obtain ⟨w9, hw9⟩ : ∃ w9, w9 = w8.setCell ⟨b, 5, none⟩ (.slice A8 nk c8) := ⟨_, rfl⟩
      have hbk9 : Bk w9 b 105 #[.int .i64 xk, .string xt, .string xx, .slice A6 na c6, .int .i64 xp, .slice A8 nk c8] := by rw [hw9]; exact HBK8.out.set_ 5 _
      have hbl9 : Below wr.heap.size wr w9 := by rw [hw9]; exact bl_set (HBL7.out.grown HG8.out HBL7.out.size (fun k hk => by simp [Value.ownBlock] at hk)) b 5 (by rw [HBE.out]; exact Nat.le_refl _) _
      rw [← hw9]
      have HBL9 := Lib.hid hbl9
      have g0 := hbk9.cell 0; have g1 := hbk9.cell 1; have g2 := hbk9.cell 2; have g3 := hbk9.cell 3; have g4 := hbk9.cell 4; have g5 := hbk9.cell 5
      have l9 := hbk9.lt
      have hz9 : w.heap.size ≤ w9.heap.size := Nat.le_trans hbz hbl9.size
      have HO9 := Lib.hid (own_keep HYS.out (fun k hk => hbl9.block k (own_lt HYS.out hk).2))
      have hk6 : k ≤ 400 := by omega
      clear hw9 hbk9 hbl9 q3 q4 q5 p5 p6 p7 hz7 HBK7 HBL7 HBK8 HG8
      go_wp2_with (at_builtin; refine wp_push rfl _ _ 33 rfl w.heap.size 105 Tryd.underlying33 inf_rNode rfl (by decide) w9 u3 k ys [.int .i64 xk, .string xt, .string xx, .slice A6 na c6, .int .i64 xp, .slice A8 nk c8] rfl rfl rfl HO9.out rfl (by simp [Value.oneCell']) (by omega) (by omega) hz9 ?_; intro v10 w10 hpush; have HPU := Lib.hid hpush; clear hpush)
      go_roundw
      case rel =>
        exact ⟨k + 1, by omega, by go_num, ⟨_, HPU.out.own⟩, HPU.out.below (bl_trans HB.out HBL9.out) (Nat.le_refl _) hz9⟩
      case measure => simp [intOf]; omega
    · obtain rfl : k = n := by omega
      obtain ⟨ys, hys⟩ := HO.out
      obtain ⟨_, A, c, rfl, _, _⟩ := RdS.of_own hys
      clear hys
      go_wp2_with fail
      go_ret
      exact ⟨⟨_, _, rfl⟩, HB.out⟩
end Go.Proofs.YtimlmekgapdkiaaDoor
