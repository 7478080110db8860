/- the document's tree, and the trees that were: Make -/
import Derived.Test.YtimlmekgapdkiaaGreatDoorWa
import Derived.Test.YtimlmekgapdkiaaGreatDoorTmc
namespace Go.Proofs.YtimlmekgapdkiaaGreatDoor
set_option linter.unusedVariables false
set_option linter.unusedSimpArgs false
open Go.RowKit Go.Cas

/-- the document's tree, the values of the trees that were named -/
def RSx (B R : Nat) (T : List Nod) (n : Nat) (xs : List Value) (τ : Nat → Nat) (w : World) : Prop := ∃ L cap tv M, RT B R L cap n tv xs τ M w ∧ M.map NV.x = T
theorem RSx.rs {B R n : Nat} {T : List Nod} {xs : List Value} {τ : Nat → Nat} {w : World} (h : RSx B R T n xs τ w) : RS B R T n τ w := by
  obtain ⟨L, cap, tv, M, h1, h2⟩ := h
  exact ⟨L, cap, tv, xs, M, h1, h2⟩
theorem RSx.below {B R n : Nat} {T : List Nod} {xs : List Value} {τ : Nat → Nat} {w w' : World} (h : RSx B R T n xs τ w) (hb : Below w.heap.size w w') : RSx B R T n xs τ w' := by
  obtain ⟨L, cap, tv, M, h1, h2⟩ := h
  exact ⟨L, cap, tv, M, h1.below hb, h2⟩
/-- a change: the tree is another one, and what it was is kept -/
def ROpX (B R : Nat) (T' T : List Nod) (n : Nat) (xs : List Value) (τ : Nat → Nat) (w w' : World) : Prop :=
  ∃ τ' v hi, RSx B R T' (n + 1) (xs ++ [v]) τ' w' ∧ (∀ k, k < w.heap.size → τ' k ≠ 0 → τ k ≠ 0) ∧ Kept w w' (fun k => τ k ≠ 0) ∧ Snp w.heap.size hi v T w' ∧ (∀ k, w.heap.size ≤ k → k < hi → τ' k = 0) ∧ w.heap.size ≤ hi ∧ hi ≤ w'.heap.size
theorem Kpd.then_ {B R L cap n hi : Nat} {xs : List Value} {τ τ2 τ' : Nat → Nat} {M : List NV} {w w2 w' : World} {tv v : Value} {T T' : List Nod} (K : Kpd B R L cap n xs τ M w tv v τ2 hi w2) (hM : M.map NV.x = T) (h : RSx B R T' (n + 1) (xs ++ [v]) τ' w') (hlt : ∀ k, k < w2.heap.size → τ' k ≠ 0 → τ2 k ≠ 0) (hk : Kept w2 w' (fun k => τ2 k ≠ 0)) : ROpX B R T' T n xs τ w w' := by
  refine ⟨τ', v, hi, h, fun k h1 h2 => K.lt k h1 (hlt k (Nat.lt_of_lt_of_le h1 K.kp.size) h2), K.kp.then_ hk (fun k h1 h2 => K.lt k h1 h2), ?_, fun k h1 h2 => ?_, K.hi.1, Nat.le_trans K.hi.2 hk.size⟩
  · have h1 := K.sn
    rw [hM] at h1
    exact h1.keep (fun k h2 h3 => hk.block k (Nat.lt_of_lt_of_le h3 K.hi.2) (fun e => e (K.fr k h2 h3))) (Nat.le_trans K.hi.2 hk.size)
  · exact Decidable.byContradiction (fun e => hlt k (Nat.lt_of_lt_of_le h2 K.hi.2) e (K.fr k h1 h2))
theorem Few.app {M : List NV} {y : NV} (h : Few M) (hy : y.x.at_ = [] ∧ y.x.ki = []) : Few (M ++ [y]) := fun z hz => by
  rcases List.mem_append.1 hz with hz | hz
  · exact h z hz
  · obtain rfl := List.mem_singleton.1 hz
    rw [hy.1, hy.2]; simp
def FewT (T : List Nod) : Prop := ∀ x ∈ T, x.at_.length ≤ 1000000 ∧ x.ki.length ≤ 1000000
theorem FewT.few {M : List NV} {T : List Nod} (h : FewT T) (hM : M.map NV.x = T) : Few M := fun y hy => h y.x (by rw [← hM]; exact List.mem_map_of_mem hy)
/-- the node that Make makes -/
def mkN (k : Int) (s : ByteArray) : Nod := if k = 2 then ⟨2, s, ByteArray.empty, [], -1, []⟩ else ⟨k, ByteArray.empty, s, [], -1, []⟩
def MkMid (B R nT : Nat) (tv : Value) (xs : List Value) (τ : Nat → Nat) (M : List NV) (y : NV) (w wx : World) : Prop :=
  ∃ L' cap' τ', RT B R L' cap' nT tv xs τ' (M ++ [y]) wx ∧ (∀ k, k < w.heap.size → τ' k ≠ 0 → τ k ≠ 0) ∧ Kept w wx (fun k => τ k ≠ 0)
/-- the node stands in its own block: it is appended, its number said -/
def MkRet (B R : Nat) (T : List Nod) (n : Nat) (xs : List Value) (τ : Nat → Nat) (x : Nod) (w : World) (e : Ending) (w' : World) : Prop := e = .returned (.tuple #[.int .i64 (T.length : Int), .int .i64 0]) ∧ ROpX B R (T ++ [x]) T n xs τ w w'
set_option maxRecDepth 100000 in
set_option maxHeartbeats 8000000 in
theorem c_rMake {w : World} {B R n : Nat} {τ : Nat → Nat} {xs : List Value} {T : List Nod} (h : RSx B R T n xs τ w) (hT : T.length < 400) (hF : FewT T) (hn : n ≤ 1000000) (k : Int) (s : ByteArray) (hk : (k = 2 ∧ isNm s = true) ∨ (k ≠ 2 ∧ s.size ≤ 20000)) (hs : s.size ≤ maxLen) :
    Calls Tryz.prog 21 #[.pointer (some ⟨R, 0, none⟩), .int .i64 k, .string s] w (MkRet B R T n xs τ (mkN k s) w) := by
  obtain ⟨L, cap, tv, M, h1, hM⟩ := h
  have hlM : M.length = T.length := by rw [← hM]; simp
  have HLM := Lib.hid hlM
  have HM := Lib.hid hM
  have H := Lib.hid h1
  have HNM := Lib.hid (c_IsName s w hs)
  have HKP := Lib.hid (c_rKeep h1 (by omega) (hF.few hM) hn)
  obtain ⟨g0, _⟩ := h1.heads
  have hr := h1.ltR
  have hl4 : ¬ (400 : Int) ≤ (M.length : Int) := by omega
  have HT := Lib.hid hT
  clear h1 hM hlM hF hT
  rcases hk with ⟨rfl, hnm⟩ | ⟨hk, hsz⟩
  · rw [hnm] at HNM
    have HX : Hid (mkN 2 s = ⟨2, s, ByteArray.empty, [], -1, []⟩) := by unfold Hid mkN; rw [if_pos rfl]
    clear hnm
    go_enter Tryz.func21, Tryz.ntmps21
    go_upto_region 7 with (first
      | (go_at_call 50; refine (HNM.out).mono ?_; rintro e w' ⟨rfl, rfl⟩)
      | (go_at_call 51; refine (HKP.out).mono ?_; rintro e w2 ⟨⟨u, rfl⟩, tv2, v2, τ2, hi2, hkd⟩; have HKD := Lib.hid hkd; have H2 := Lib.hid hkd.rt; have HT2 : Hid (∀ k, k < w2.heap.size → τ2 k ≠ 0 → τ2 k ≠ 0) := (fun _ _ e => e); have HK2 : Hid (Kept w2 w2 (fun k => τ2 k ≠ 0)) := Kept.refl _ _; clear hkd))
    go_upto_region 11 with fail
    obtain ⟨b, hb⟩ : ∃ b, b = w2.heap.size := ⟨_, rfl⟩
    obtain ⟨w3, hw3⟩ : ∃ w3, w3 = w2.alloc (.cells #[.int .i64 2, .string s, .string (ByteArray.mk #[]), .slice none 0 0, .int .i64 (-1), .slice none 0 0] 46) := ⟨_, rfl⟩
    have hbk1 : Bk w3 b 46 #[.int .i64 2, .string s, .string (ByteArray.mk #[]), .slice none 0 0, .int .i64 (-1), .slice none 0 0] := by rw [hw3, hb]; exact Bk.new _ _ _
    have hbl : Below w2.heap.size w2 w3 := by rw [hw3]; exact bl_alloc (Below.refl _ _) _
    rw [← hw3, ← hb]
    have HS3 := Lib.hid (H2.out.below hbl)
    have HBL := Lib.hid hbl
    have HLTL := Lib.hid (H2.out.ltL)
    have f0 := hbk1.cell 0; have f1 := hbk1.cell 1; have f2 := hbk1.cell 2; have f3 := hbk1.cell 3; have f4 := hbk1.cell 4; have f5 := hbk1.cell 5
    have lb := hbk1.lt
    obtain ⟨p0, p1, p2, p3⟩ := HS3.out.heads
    have hr3 := HS3.out.ltR
    have HNRL := Lib.hid HS3.out.ne
    have HROW := Lib.hid HS3.out.row
    obtain ⟨i0, hi0, hz0, hz1, hz2⟩ := info_parts inf_rNode
    have hl5 : M.length < 400 := by have := HLM.out; have := HT.out; omega
    clear g0 hb hw3 hbk1 hbl hr
    go_cut [50] (fun _ wx => Hid (MkMid B R (n + 1) tv2 (xs ++ [v2]) τ2 M ⟨mkN 2 s, .slice none 0 0, .slice none 0 0⟩ w2 wx))
    case first =>
      go_region_law
        ((refine step_append_row (w := (w3.alloc (.cells #[.int .i64 2, .string s, .string (ByteArray.mk #[]), .slice none 0 0, .int .i64 (-1), .slice none 0 0] 46)).drew) (by rfl) _ _ _ (by rfl) 46 i0 _ 6 96 Tryz.underlying25 hi0 hz0 hz1 hz2 rfl (by omega) L cap M.length (M.flatMap nvc) (by rfl) (HROW.out.at_ (heap_alloc_old w3 _ HS3.out.ltL))
            ⟨w3.heap.size, 0, none⟩ 1 1 #[.int .i64 2, .string s, .string (ByteArray.mk #[]), .slice none 0 0, .int .i64 (-1), .slice none 0 0].toList (by rfl) (by rfl) (World.news_of_block (cs := #[.int .i64 2, .string s, .string (ByteArray.mk #[]), .slice none 0 0, .int .i64 (-1), .slice none 0 0]) (t := 46) (fr := (0, 0)) (heap_alloc_new w3 _)) (by simp [Value.oneCell'])
            (by omega) (by unfold maxLen; omega) (by omega) ?_; intro gg cap6 w6 hrow hgrow hat hlt; have HRW := Lib.hid hrow; have HGR := Lib.hid hgrow; have HAT := Lib.hid hat; have hkR := (Bk.drew (HS3.out.root.alloc _)).grown hgrow (fun e => HNRL.out (Option.some.inj e)); have q1 := hkR.cell 0; have q2 := hkR.free 0; have q3 := hkR.lt; clear hrow hgrow hat hkR))
      all_goals
        go_wp2_with fail
        go_meet
        have hg2 : ∀ k, k < w3.heap.size → k ≠ L → w6.heap[k]? = w3.heap[k]? := fun k hk hn => (HGR.out.block k (by simp; omega) (fun e => hn (Option.some.inj e))).trans (heap_alloc_old w3 _ hk)
        refine ⟨gg, cap6, _, HS3.out.app ⟨mkN 2 s, .slice none 0 0, .slice none 0 0⟩ ⟨rfl, by rw [HX.out]⟩ ⟨rfl, by rw [HX.out]⟩ (by rw [show nvc ⟨mkN 2 s, .slice none 0 0, .slice none 0 0⟩ = #[.int .i64 2, .string s, .string (ByteArray.mk #[]), .slice none 0 0, .int .i64 (-1), .slice none 0 0].toList by rw [HX.out]; rfl]; exact HRW.out) hg2 (Nat.le_trans (by simp) HGR.out.size) (HAT.out.imp id (fun e => Nat.le_trans (by simp) e)) hlt, fun k hk hf => ?_, ?_⟩
        · by_cases e : k = gg
          · rcases HAT.out with e2 | e2
            · exact HT2.out k hk (by rw [e, e2, H2.out.tL]; omega)
            · exfalso
              have := HBL.out.size; have := HK2.out.size
              simp at e2
              omega
          · rw [if_neg e] at hf; exact HT2.out k hk hf
        · have k1 : Kept w2 w6 (fun k => τ2 k ≠ 0) := (((HK2.out.then_ (Kept.of_below HBL.out (fun _ => False)) (fun _ _ e => e.elim)).alloc _).drew).then_ (Kept.grown HGR.out (fun k => k = L) (fun k e => (Option.some.inj e).symm)) (fun k hk e => HT2.out k hk (by rw [e, H2.out.tL]; omega))
          exact k1.set_ R 0 (fun hk => HT2.out R hk (by rw [H2.out.tR]; omega)) _
    case rest =>
      obtain ⟨L4, cap4, τ4, h4, ht4, hk4⟩ := hcut.out
      have H4 := Lib.hid h4
      have HT4 := Lib.hid ht4
      have HK4 := Lib.hid hk4
      obtain ⟨r0, _⟩ := h4.heads
      have hr4 := h4.ltR
      rw [List.length_append] at r0
      have v1 : IntKind.i64.wrap ((M.length : Int) + 1 - 1) = (M.length : Int) := by rw [show (M.length : Int) + 1 - 1 = M.length by omega]; exact IntWalk.i64_in _ (by omega)
      clear hcut h4 ht4 hk4 HS3 HBL HROW HNRL f0 f1 f2 f3 f4 f5 lb p0 p1 p2 p3 hr3 hi0 hz0 hz1 hz2
      go_wp2_with fail
      go_ret2
      exact ⟨ret_ix (by have := HLM.out; omega), HKD.out.then_ HM.out ⟨_, _, _, _, H4.out, by rw [List.map_append, HM.out]; rfl⟩ HT4.out HK4.out⟩
  · have HX : Hid (mkN k s = ⟨k, ByteArray.empty, s, [], -1, []⟩) := by unfold Hid mkN; rw [if_neg hk]
    have hki : (k == 2) = false := by rw [beq_eq_false_iff_ne]; exact hk
    have hsi : ¬ (20000 : Int) < (s.size : Int) := by omega
    clear hsz
    go_enter Tryz.func21, Tryz.ntmps21
    go_upto_region 7 with (first
      | (go_at_call 50; refine (HNM.out).mono ?_; rintro e w' ⟨rfl, rfl⟩)
      | (go_at_call 51; refine (HKP.out).mono ?_; rintro e w2 ⟨⟨u, rfl⟩, tv2, v2, τ2, hi2, hkd⟩; have HKD := Lib.hid hkd; have H2 := Lib.hid hkd.rt; have HT2 : Hid (∀ k, k < w2.heap.size → τ2 k ≠ 0 → τ2 k ≠ 0) := (fun _ _ e => e); have HK2 : Hid (Kept w2 w2 (fun k => τ2 k ≠ 0)) := Kept.refl _ _; clear hkd))
    go_upto_region 11 with fail
    obtain ⟨b, hb⟩ : ∃ b, b = w2.heap.size := ⟨_, rfl⟩
    obtain ⟨w3, hw3⟩ : ∃ w3, w3 = w2.alloc (.cells #[.int .i64 k, .string (ByteArray.mk #[]), .string s, .slice none 0 0, .int .i64 (-1), .slice none 0 0] 46) := ⟨_, rfl⟩
    have hbk1 : Bk w3 b 46 #[.int .i64 k, .string (ByteArray.mk #[]), .string s, .slice none 0 0, .int .i64 (-1), .slice none 0 0] := by rw [hw3, hb]; exact Bk.new _ _ _
    have hbl : Below w2.heap.size w2 w3 := by rw [hw3]; exact bl_alloc (Below.refl _ _) _
    rw [← hw3, ← hb]
    have HS3 := Lib.hid (H2.out.below hbl)
    have HBL := Lib.hid hbl
    have HLTL := Lib.hid (H2.out.ltL)
    have f0 := hbk1.cell 0; have f1 := hbk1.cell 1; have f2 := hbk1.cell 2; have f3 := hbk1.cell 3; have f4 := hbk1.cell 4; have f5 := hbk1.cell 5
    have lb := hbk1.lt
    obtain ⟨p0, p1, p2, p3⟩ := HS3.out.heads
    have hr3 := HS3.out.ltR
    have HNRL := Lib.hid HS3.out.ne
    have HROW := Lib.hid HS3.out.row
    obtain ⟨i0, hi0, hz0, hz1, hz2⟩ := info_parts inf_rNode
    have hl5 : M.length < 400 := by have := HLM.out; have := HT.out; omega
    clear g0 hb hw3 hbk1 hbl hr
    go_cut [50] (fun _ wx => Hid (MkMid B R (n + 1) tv2 (xs ++ [v2]) τ2 M ⟨mkN k s, .slice none 0 0, .slice none 0 0⟩ w2 wx))
    case first =>
      go_region_law
        ((refine step_append_row (w := (w3.alloc (.cells #[.int .i64 k, .string (ByteArray.mk #[]), .string s, .slice none 0 0, .int .i64 (-1), .slice none 0 0] 46)).drew) (by rfl) _ _ _ (by rfl) 46 i0 _ 6 96 Tryz.underlying25 hi0 hz0 hz1 hz2 rfl (by omega) L cap M.length (M.flatMap nvc) (by rfl) (HROW.out.at_ (heap_alloc_old w3 _ HS3.out.ltL))
            ⟨w3.heap.size, 0, none⟩ 1 1 #[.int .i64 k, .string (ByteArray.mk #[]), .string s, .slice none 0 0, .int .i64 (-1), .slice none 0 0].toList (by rfl) (by rfl) (World.news_of_block (cs := #[.int .i64 k, .string (ByteArray.mk #[]), .string s, .slice none 0 0, .int .i64 (-1), .slice none 0 0]) (t := 46) (fr := (0, 0)) (heap_alloc_new w3 _)) (by simp [Value.oneCell'])
            (by omega) (by unfold maxLen; omega) (by omega) ?_; intro gg cap6 w6 hrow hgrow hat hlt; have HRW := Lib.hid hrow; have HGR := Lib.hid hgrow; have HAT := Lib.hid hat; have hkR := (Bk.drew (HS3.out.root.alloc _)).grown hgrow (fun e => HNRL.out (Option.some.inj e)); have q1 := hkR.cell 0; have q2 := hkR.free 0; have q3 := hkR.lt; clear hrow hgrow hat hkR))
      all_goals
        go_wp2_with fail
        go_meet
        have hg2 : ∀ k, k < w3.heap.size → k ≠ L → w6.heap[k]? = w3.heap[k]? := fun k hk hn => (HGR.out.block k (by simp; omega) (fun e => hn (Option.some.inj e))).trans (heap_alloc_old w3 _ hk)
        refine ⟨gg, cap6, _, HS3.out.app ⟨mkN k s, .slice none 0 0, .slice none 0 0⟩ ⟨rfl, by rw [HX.out]⟩ ⟨rfl, by rw [HX.out]⟩ (by rw [show nvc ⟨mkN k s, .slice none 0 0, .slice none 0 0⟩ = #[.int .i64 k, .string (ByteArray.mk #[]), .string s, .slice none 0 0, .int .i64 (-1), .slice none 0 0].toList by rw [HX.out]; rfl]; exact HRW.out) hg2 (Nat.le_trans (by simp) HGR.out.size) (HAT.out.imp id (fun e => Nat.le_trans (by simp) e)) hlt, fun k hk hf => ?_, ?_⟩
        · by_cases e : k = gg
          · rcases HAT.out with e2 | e2
            · exact HT2.out k hk (by rw [e, e2, H2.out.tL]; omega)
            · exfalso
              have := HBL.out.size; have := HK2.out.size
              simp at e2
              omega
          · rw [if_neg e] at hf; exact HT2.out k hk hf
        · have k1 : Kept w2 w6 (fun k => τ2 k ≠ 0) := (((HK2.out.then_ (Kept.of_below HBL.out (fun _ => False)) (fun _ _ e => e.elim)).alloc _).drew).then_ (Kept.grown HGR.out (fun k => k = L) (fun k e => (Option.some.inj e).symm)) (fun k hk e => HT2.out k hk (by rw [e, H2.out.tL]; omega))
          exact k1.set_ R 0 (fun hk => HT2.out R hk (by rw [H2.out.tR]; omega)) _
    case rest =>
      obtain ⟨L4, cap4, τ4, h4, ht4, hk4⟩ := hcut.out
      have H4 := Lib.hid h4
      have HT4 := Lib.hid ht4
      have HK4 := Lib.hid hk4
      obtain ⟨r0, _⟩ := h4.heads
      have hr4 := h4.ltR
      rw [List.length_append] at r0
      have v1 : IntKind.i64.wrap ((M.length : Int) + 1 - 1) = (M.length : Int) := by rw [show (M.length : Int) + 1 - 1 = M.length by omega]; exact IntWalk.i64_in _ (by omega)
      clear hcut h4 ht4 hk4 HS3 HBL HROW HNRL f0 f1 f2 f3 f4 f5 lb p0 p1 p2 p3 hr3 hi0 hz0 hz1 hz2
      go_wp2_with fail
      go_ret2
      exact ⟨ret_ix (by have := HLM.out; omega), HKD.out.then_ HM.out ⟨_, _, _, _, H4.out, by rw [List.map_append, HM.out]; rfl⟩ HT4.out HK4.out⟩
end Go.Proofs.YtimlmekgapdkiaaGreatDoor
