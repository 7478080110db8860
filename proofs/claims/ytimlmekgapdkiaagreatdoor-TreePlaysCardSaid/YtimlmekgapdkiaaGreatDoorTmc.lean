/- the tree: a new node -/
import Derived.Test.YtimlmekgapdkiaaGreatDoorTmb
import Derived.Deep.RegionLaw
namespace Go.Proofs.YtimlmekgapdkiaaGreatDoor
set_option linter.unusedVariables false
set_option linter.unusedSimpArgs false
open Go.RowKit Go.Cas

theorem inf_node : (Tryz.prog.info? 40).map (fun i => (i.zero, i.size, i.bytes)) = some (some (.agg #[.int .i64 0, .string ByteArray.empty, .string ByteArray.empty, .slice none 0 0, .int .i64 0, .slice none 0 0]), 6, 96) := by kernel_rfl
def agN (k : Int) (tag txt : ByteArray) : Value := .agg #[.int .i64 k, .string tag, .string txt, .slice none 0 0, .int .i64 0, .slice none 0 0]
def newN (k : Int) (tag txt : ByteArray) : Nod := ⟨k, tag, txt, [], -1, []⟩
set_option maxRecDepth 100000 in
set_option maxHeartbeats 4000000 in
theorem c_add1 {w : World} {B R L cap b : Nat} {uv : Value} {Z : Nat → Prop} {M M' : List NV} {y : NV} (h : NS B R L cap uv Z M w) (hM : M = M' ++ [y]) (hb : Bk w b 23 #[.pointer (some ⟨R, 0, none⟩)]) (hl : M.length ≤ 400) :
    Calls Tryz.prog 70 #[.pointer (some ⟨b, 0, none⟩)] w fun e w3 => (∃ u, e = .returned u) ∧ NS B R L M'.length uv Z M' w3 ∧ Kept w w3 (fun k => k = R ∨ k = L) := by
  obtain ⟨w2, hw2⟩ : ∃ w2, w2 = w.drew := ⟨_, rfl⟩
  have h2 : NS B R L cap uv Z M w2 := by rw [hw2]; exact h.below (bl_drew (Below.refl _ w))
  have H := Lib.hid h2
  obtain ⟨g0, g1, g2, g3⟩ := h2.heads
  have hr := h2.ltR
  have e0 : w2.cell? ⟨b, 0, none⟩ = some (.pointer (some ⟨R, 0, none⟩)) := by rw [hw2]; exact hb.cell 0
  have lb : b < w2.heap.size := by rw [hw2]; exact hb.lt
  have hcap := h.cap.1
  have e1 : M.length = M'.length + 1 := by rw [hM]; simp
  obtain ⟨n, hn⟩ : ∃ n, n = M'.length := ⟨_, rfl⟩
  rw [← hn] at e1
  rw [e1] at g0 hl hcap
  have hcn : (n : Int) ≤ (cap : Int) := by omega
  have h0n : 0 ≤ (n : Int) := by omega
  have v1 : IntKind.i64.wrap (n : Int) = n := IntWalk.i64_in _ (by omega)
  have v2 : (n : Int).toNat = n := rfl
  have HN := Lib.hid hn
  have HM := Lib.hid hM
  have HW2 := Lib.hid hw2
  clear h h2 hb hn hM e1 hw2
  go_enter Tryz.func70, Tryz.ntmps70
  go_wp2_with fail
  refine wp_region_still_tail 18 (by kernel_rfl) (by kernel_rfl) ?_
  simp only [List.take_succ_cons, List.take_zero, List.drop_succ_cons, List.drop_zero]
  change wpStill _ _ (World.drew _) _ _ _
  rw [← HW2.out]
  repeat still_step
  refine wpStill_nil ?_
  change wpList _ _ _ _ _ (World.drew _)
  rw [← HW2.out]
  go_wp2_with fail
  go_end0
  refine ⟨⟨_, rfl⟩, ?_, ?_⟩
  · rw [HN.out]; exact H.out.shrink HM.out
  · rw [HW2.out]; exact ((Kept.refl w _).drew).set_ R 0 (fun _ => .inl rfl) _
theorem enter_add1 (cs : Array Value) (w : World) : (callFunc 70 cs).run Tryz.prog w = .ok (.enter 70 cs) w := by kernel_rfl
theorem u_add {w : World} {B R b : Nat} {Z : Nat → Prop} {T : List Nod} {x : Nod} (hb : Bk w b 23 #[.pointer (some ⟨R, 0, none⟩)]) (hz : Z b) (hT : T.length < 400) :
    UOk B R Z w (.func (.func 70) #[] #[.pointer (some ⟨b, 0, none⟩)]) (T ++ [x]) T := by
  refine ⟨_, _, rfl, enter_add1 _, fun w2 L2 cap2 uv2 Z2 M2 h1 h2 h3 => ?_⟩
  obtain ⟨M', K, hMK, hM', hK⟩ := List.map_eq_append_iff.1 h3
  have hK1 : K.length = 1 := by have := congrArg List.length hK; simpa using this
  obtain ⟨y, rfl⟩ : ∃ y, K = [y] := by
    match K, hK1 with
    | [y], _ => exact ⟨y, rfl⟩
  have hl : M2.length ≤ 400 := by
    have := congrArg List.length h3
    simp at this; omega
  have hbk : Bk w2 b 23 #[.pointer (some ⟨R, 0, none⟩)] := (h1 b hz).1.trans hb
  exact (c_add1 h2 hMK hbk hl).mono fun e w3 ⟨q1, q2, q3⟩ => ⟨q1, _, M', q2, hM', q3⟩
def AdRet (B R : Nat) (T : List Nod) (D : List (Value × List Nod)) (F : Nat → Prop) (x : Nod) (w : World) (e : Ending) (w' : World) : Prop := e = .returned (.tuple #[.int .i64 (T.length : Int), .nilIface]) ∧ ∃ v, TOp B R (T ++ [x]) ((v, T) :: D) F w w'
def AdMid (B R : Nat) (uv : Value) (Z : Nat → Prop) (M : List NV) (T : List Nod) (D : List (Value × List Nod)) (F : Nat → Prop) (y : NV) (b : Nat) (w wx : World) : Prop :=
  ∃ L' cap' F', TSi B R L' cap' uv Z (M ++ [y]) T D F' wx ∧ (∀ k, k < w.heap.size → F' k → F k) ∧ Kept w wx F ∧ Bk wx b 23 #[.pointer (some ⟨R, 0, none⟩)] ∧ ¬ exT R L' uv b
set_option maxRecDepth 100000 in
set_option maxHeartbeats 8000000 in
theorem c_add {w : World} {B R : Nat} {F : Nat → Prop} {T : List Nod} {D : List (Value × List Nod)} (h : TS B R T D F w) (hD : D.length ≤ 1000000000000) (k : Int) (tag txt : ByteArray) (hT : T.length < 400) (ht : txt.size ≤ 20000) :
    Calls Tryz.prog 49 #[.pointer (some ⟨R, 0, none⟩), agN k tag txt] w (AdRet B R T D F (newN k tag txt) w) := by
  obtain ⟨L, cap, uv, Z, M, h1, hM⟩ := h
  have H := Lib.hid h1
  have HM := Lib.hid hM
  have hlM : M.length = T.length := by rw [← hM]; simp
  have HT := Lib.hid hT
  rw [← hlM] at hT
  obtain ⟨g0, g1, g2, g3⟩ := h1.ns.heads
  have hr := h1.ns.ltR
  have hti : (txt.size : Int) ≤ 20000 := by omega
  have HLM := Lib.hid hlM
  have HD := Lib.hid hD
  clear h1 hM hlM hD ht
  unfold agN
  go_enter Tryz.func49, Tryz.ntmps49
  go_upto_region 4 with fail
  obtain ⟨b, hb⟩ : ∃ b, b = w.heap.size := ⟨_, rfl⟩
  obtain ⟨w2, hw2⟩ : ∃ w2, w2 = (w.alloc (.cells #[.pointer (some ⟨R, 0, none⟩)] 23)).alloc (.cells #[.int .i64 k, .string tag, .string txt, .slice none 0 0, .int .i64 (-1), .slice none 0 0] 40) := ⟨_, rfl⟩
  have hbk0 : Bk w2 b 23 #[.pointer (some ⟨R, 0, none⟩)] := by rw [hw2, hb]; exact (Bk.new _ _ _).alloc _
  have hbk1 : Bk w2 (b + 1) 40 #[.int .i64 k, .string tag, .string txt, .slice none 0 0, .int .i64 (-1), .slice none 0 0] := by rw [hw2, hb]; exact bk_new' _ _ _ (by simp)
  have hbl : Below w.heap.size w w2 := by rw [hw2]; exact bl_alloc (bl_alloc (Below.refl _ _) _) _
  rw [← hw2, ← hb]
  have HS2 := Lib.hid (H.out.below hbl)
  have HBL := Lib.hid hbl
  have HBK0 := Lib.hid hbk0
  have HB := Lib.hid hb
  have e0 := hbk0.cell 0
  have f0 := hbk1.cell 0; have f1 := hbk1.cell 1; have f2 := hbk1.cell 2; have f3 := hbk1.cell 3; have f4 := hbk1.cell 4; have f5 := hbk1.cell 5
  have lb := hbk1.lt
  obtain ⟨p0, p1, p2, p3⟩ := HS2.out.ns.heads
  have hr2 := HS2.out.ns.ltR
  have lb0 := HBK0.out.lt
  have HNRL := Lib.hid HS2.out.ns.geo.2.2
  have HNBL : Hid (some b ≠ some L) := fun e => by have := H.out.ns.ltL; injection e with e; omega
  have HROW := Lib.hid HS2.out.ns.toRow
  obtain ⟨i0, hi0, hz0, hz1, hz2⟩ := info_parts inf_node
  clear g0 g1 g2 g3 hb hw2 hbk0 hbk1 hbl hr
  go_cut [20] (fun _ wx => Hid (AdMid B R uv Z M T D F ⟨newN k tag txt, .slice none 0 0, .slice none 0 0⟩ b w wx))
  case first =>
    go_region_law
      ((refine step_append_row (w := (w2.alloc (.cells #[.int .i64 k, .string tag, .string txt, .slice none 0 0, .int .i64 (-1), .slice none 0 0] 40)).drew) (by rfl) _ _ _ (by rfl) 40 i0 _ 6 96 Tryz.underlying41 hi0 hz0 hz1 hz2 rfl (by omega) L cap M.length (M.flatMap nvc) (by rfl) (HROW.out.at_ (heap_alloc_old w2 _ HS2.out.ns.ltL))
          ⟨w2.heap.size, 0, none⟩ 1 1 [.int .i64 k, .string tag, .string txt, .slice none 0 0, .int .i64 (-1), .slice none 0 0] (by rfl) (by rfl) (World.news_of_block (cs := #[.int .i64 k, .string tag, .string txt, .slice none 0 0, .int .i64 (-1), .slice none 0 0]) (t := 40) (fr := (0, 0)) (heap_alloc_new w2 _)) (by simp [Value.oneCell'])
          (by omega) (by unfold maxLen; omega) (by omega) ?_; intro gg cap6 w6 hrow hgrow hat hlt; have HRW := Lib.hid hrow; have HGR := Lib.hid hgrow; have HAT := Lib.hid hat; have hkR := (Bk.drew (HS2.out.ns.root.alloc _)).grown hgrow (fun e => HNRL.out (Option.some.inj e)); have hkb := (Bk.drew (HBK0.out.alloc _)).grown hgrow HNBL.out; have q1 := hkR.cell 0; have q2 := hkR.free 0; have q3 := hkR.lt; have q4 := hkb.cell 0; have q5 := hkb.lt; have HKB := Lib.hid hkb; clear hrow hgrow hat hkR hkb))
    all_goals
      go_wp2_with fail
      go_meet
      refine ⟨gg, cap6, fun k => F k ∨ k = gg, ?_, fun k hk hf => ?_, ?_, ?_, ?_⟩
      · have hg2 : ∀ k, k < w2.heap.size → k ≠ L → w6.heap[k]? = w2.heap[k]? := fun k hk hn => (HGR.out.block k (by simp; omega) (fun e => hn (Option.some.inj e))).trans (heap_alloc_old w2 _ hk)
        exact HS2.out.app _ ⟨RdZ.nil _ _ _, RdZ.nil _ _ _⟩ HRW.out hg2 (Nat.le_trans (by simp) HGR.out.size) (HAT.out.imp id (fun e => Nat.le_trans (by simp) e)) hlt
      · rcases hf with hf | rfl
        · exact hf
        · rcases HAT.out with e | e
          · rw [e]; exact H.out.f L (.inl (.inr (.inl rfl)))
          · exfalso
            have := HBL.out.size
            simp at e
            omega
      · have k1 : Kept w w6 F := (((Kept.of_below HBL.out F).alloc _).drew).then_ (Kept.grown HGR.out (fun k => k = L) (fun k e => (Option.some.inj e).symm)) (fun k _ e => by rw [e]; exact H.out.f L (.inl (.inr (.inl rfl))))
        exact k1.set_ R 0 (fun _ => H.out.f R (.inl (.inl rfl))) _
      · exact HKB.out.far (p := ⟨R, 0, none⟩) (by have := H.out.ns.ltR; have := HB.out; show b ≠ R; omega) _
      · have hbn : b = w.heap.size := HB.out
        rintro (e | e | e)
        · have := H.out.ns.ltR; omega
        · rcases HAT.out with e2 | e2
          · have := H.out.ns.ltL; omega
          · simp at e2; omega
        · have := (H.out.ns.ub b e).2.1; omega
  case rest =>
    obtain ⟨L', cap', F', hS, hF', hK, hBb, hnb⟩ := hcut.out
    clear hcut HS2 HBL HBK0 HROW HNRL HNBL e0 f0 f1 f2 f3 f4 f5 lb p0 p1 p2 p3 hr2 lb0 hi0 hz0 hz1 hz2
    have hbl := hBb.lt
    have hBb2 : B ≤ b := by have := H.out.ns.geo.1; have := H.out.ns.ltR; have := HB.out; omega
    have hSw := hS.wideZ (fun k => k = b) (fun k e => by subst e; exact ⟨hBb2, hbl, hnb⟩)
    have hU : UOk B R (fun k => Z k ∨ k = b) wc (.func (.func 70) #[] #[.pointer (some ⟨b, 0, none⟩)]) ((M ++ [(⟨newN k tag txt, .slice none 0 0, .slice none 0 0⟩ : NV)]).map NV.x) T := by
      rw [List.map_append, HM.out]
      exact u_add hBb (.inr rfl) HT.out
    have HDN := Lib.hid (c_done hSw hU HD.out)
    have c0 : wc.cell? ⟨b, 0, none⟩ = some (.pointer (some ⟨R, 0, none⟩)) := hBb.cell 0
    have HBb := Lib.hid hBb
    have HFK := Lib.hid hF'
    have HKK := Lib.hid hK
    have HNB := Lib.hid hnb
    have HXF : Hid (∀ k, exT R L' uv k → F' k) := fun k e => hS.f k (.inl e)
    clear hS hSw hU hF' hK hBb hnb
    go_wp2_with (go_at_call 55; refine (HDN.out).mono ?_; rintro e w' ⟨⟨u, rfl⟩, uv', F'', hS5, hF5, hK5⟩; have HS5 := Lib.hid hS5; have HF5 := Lib.hid hF5; have HK5 := Lib.hid hK5; obtain ⟨p0, p1, p2, p3⟩ := hS5.ns.heads; have hr5 := hS5.ns.ltR; have hbk5 := hK5.bk HBb.out HNB.out; have c5 : w'.cell? ⟨b, 0, none⟩ = some (.pointer (some ⟨R, 0, none⟩)) := hbk5.cell 0; have l5 := hbk5.lt; clear hS5 hF5 hK5 hbk5)
    go_ret2
    have hsz := HKK.out.size
    have hmm : (M ++ [(⟨newN k tag txt, .slice none 0 0, .slice none 0 0⟩ : NV)]).map NV.x = T ++ [newN k tag txt] := by rw [List.map_append, HM.out]; rfl
    have key := HS5.out
    rw [hmm] at key
    refine ⟨ret_ix (by rw [HLM.out]), _, F'', ⟨L', cap', uv', _, _, key, hmm⟩, fun j hj hf => ?_, HKK.out.then_ HK5.out (fun j hj e => HFK.out j hj (HXF.out j e))⟩
    · rcases HF5.out j (by omega) hf with e | e
      · exact HFK.out j hj e
      · have := HB.out; omega
end Go.Proofs.YtimlmekgapdkiaaGreatDoor
