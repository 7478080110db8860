/- the tree: Say -/
import Derived.Test.YtimlmekgapdkiaaGreatDoorTmq
import Derived.Test.YtimlmekgapdkiaaGreatDoorTmu
namespace Go.Proofs.YtimlmekgapdkiaaGreatDoor
set_option linter.unusedVariables false
set_option linter.unusedSimpArgs false
open Go.RowKit Go.Cas

def txN (x : Nod) (s : ByteArray) : Nod := { x with txt := s }
def setTx (y : NV) (s : ByteArray) : NV := ⟨txN y.x s, y.va, y.vk⟩
theorem setTx_cells (y : NV) (s : ByteArray) : (nvc y).set 2 (.string s) = nvc (setTx y s) := rfl
set_option maxRecDepth 100000 in
set_option maxHeartbeats 4000000 in
theorem c_Say1 {w : World} {B R L cap b0 b1 b2 i : Nat} {uv : Value} {s : ByteArray} {Z : Nat → Prop} {M : List NV} {y : NV} (h : NS B R L cap uv Z M w) (hy : M[i]? = some y) (hM : M.length ≤ 400)
    (hb0 : Bk w b0 23 #[.pointer (some ⟨R, 0, none⟩)]) (hb1 : Bk w b1 3 #[.int .i64 (i : Int)]) (hb2 : Bk w b2 9 #[.string s]) :
    Calls Tryz.prog 64 #[.pointer (some ⟨b2, 0, none⟩), .pointer (some ⟨b0, 0, none⟩), .pointer (some ⟨b1, 0, none⟩)] w fun e w3 => (∃ u, e = .returned u) ∧ NS B R L cap uv Z (M.set i (setTx y s)) w3 ∧ Kept w w3 (fun k => k = R ∨ k = L) := by
  obtain ⟨w2, hw2⟩ : ∃ w2, w2 = w.drew := ⟨_, rfl⟩
  have h2 : NS B R L cap uv Z M w2 := by rw [hw2]; exact h.below (bl_drew (Below.refl _ w))
  have H := Lib.hid h2
  obtain ⟨g0, g1, g2, g3⟩ := h2.heads
  have hr := h2.ltR
  have hrL := h2.ltL
  have e0 : w2.cell? ⟨b0, 0, none⟩ = some (.pointer (some ⟨R, 0, none⟩)) := by rw [hw2]; exact hb0.cell 0
  have e1 : w2.cell? ⟨b1, 0, none⟩ = some (.int .i64 (i : Int)) := by rw [hw2]; exact hb1.cell 0
  have e2 : w2.cell? ⟨b2, 0, none⟩ = some (.string s) := by rw [hw2]; exact hb2.cell 0
  obtain ⟨⟨_, _, a2⟩, _, _, _⟩ := h2.cell hy
  have f2 := h2.free (i * 6 + 2)
  have hi := (List.getElem?_eq_some_iff.1 hy).1
  have hii : (i : Int) < (M.length : Int) := by omega
  have h0i : 0 ≤ (i : Int) := by omega
  have HY := Lib.hid hy
  have HW2 := Lib.hid hw2
  clear h h2 hb0 hb1 hb2 hy hw2
  go_enter Tryz.func64, Tryz.ntmps64
  go_wp2_with fail
  refine wp_region_still_tail 8 (by kernel_rfl) (by kernel_rfl) ?_
  simp only [List.take_succ_cons, List.take_zero, List.drop_succ_cons, List.drop_zero]
  change wpStill _ _ (World.drew _) _ _ _
  rw [← HW2.out]
  repeat still_step
  refine wpStill_nil ?_
  change wpList _ _ _ _ _ (World.drew _)
  rw [← HW2.out]
  go_wp2_with fail
  go_end0
  refine ⟨⟨_, rfl⟩, ?_, ?_⟩
  · exact H.out.setN HY.out 2 (by omega) _ (setTx_cells y s) (H.out.rd y (List.mem_of_getElem? HY.out))
  · rw [HW2.out]; exact ((Kept.refl w _).drew).set_ L _ (fun _ => .inr rfl) _
theorem enter_Say1 (cs : Array Value) (w : World) : (callFunc 64 cs).run Tryz.prog w = .ok (.enter 64 cs) w := by kernel_rfl
theorem u_Say {w : World} {B R b0 b1 b2 i : Nat} {Z : Nat → Prop} {T : List Nod} {x : Nod} {s : ByteArray} (hx : T[i]? = some x) (hT : T.length ≤ 400)
    (hb0 : Bk w b0 23 #[.pointer (some ⟨R, 0, none⟩)]) (hb1 : Bk w b1 3 #[.int .i64 (i : Int)]) (hb2 : Bk w b2 9 #[.string x.txt]) (z0 : Z b0) (z1 : Z b1) (z2 : Z b2) :
    UOk B R Z w (.func (.func 64) #[] #[.pointer (some ⟨b2, 0, none⟩), .pointer (some ⟨b0, 0, none⟩), .pointer (some ⟨b1, 0, none⟩)]) (T.set i (txN x s)) T := by
  refine ⟨_, _, rfl, enter_Say1 _, fun w2 L2 cap2 uv2 Z2 M2 h1 h2 h3 => ?_⟩
  have hi := (List.getElem?_eq_some_iff.1 hx).1
  obtain ⟨y, hy, hyx⟩ := nv_get h3 (List.getElem?_set_self (by simpa using hi))
  have hl : M2.length ≤ 400 := by
    have := congrArg List.length h3
    simp at this; omega
  refine (c_Say1 h2 hy hl ((h1 b0 z0).1.trans hb0) ((h1 b1 z1).1.trans hb1) ((h1 b2 z2).1.trans hb2)).mono fun e w3 ⟨q1, q2, q3⟩ => ⟨q1, _, _, q2, ?_, q3⟩
  rw [List.map_set, h3]
  have : (setTx y x.txt).x = x := by
    show txN y.x x.txt = x
    rw [hyx]; rfl
  rw [this]
  exact set_back hx
def SyMid (B R L cap : Nat) (uv : Value) (Z : Nat → Prop) (M : List NV) (T : List Nod) (D : List (Value × List Nod)) (F : Nat → Prop) (s : ByteArray) (b i : Nat) (w wx : World) : Prop :=
  TSi B R L cap uv Z M T D F wx ∧ Below w.heap.size w wx ∧ Bk wx b 23 #[.pointer (some ⟨R, 0, none⟩)] ∧ Bk wx (b + 1) 3 #[.int .i64 (i : Int)] ∧ Bk wx (b + 2) 9 #[.string s]
set_option maxRecDepth 100000 in
set_option maxHeartbeats 8000000 in
theorem c_Say {w : World} {B R i : Nat} {F : Nat → Prop} {T : List Nod} {D : List (Value × List Nod)} {x : Nod} (h : TS B R T D F w) (hD : D.length ≤ 1000000000000) (hT : T.length ≤ 400) (hx : T[i]? = some x) (hk : x.k = 3 ∨ x.k = 4) (s : ByteArray) (hs : s.size ≤ 20000) :
    Calls Tryz.prog 33 #[.pointer (some ⟨R, 0, none⟩), .int .i64 (i : Int), .string s] w (StRet B R (T.set i (txN x s)) T D F w) := by
  obtain ⟨L, cap, uv, Z, M, h1, hM⟩ := h
  obtain ⟨y, hy, rfl⟩ := nv_get hM hx
  have H := Lib.hid h1
  have HM := Lib.hid hM
  have HX := Lib.hid hx
  have HY := Lib.hid hy
  have HD := Lib.hid hD
  have HT := Lib.hid hT
  have hsi : (s.size : Int) ≤ 20000 := by omega
  have hl : M.length ≤ 400 := by rw [← hM] at hT; simpa using hT
  have hi := (List.getElem?_eq_some_iff.1 hy).1
  have hii : (i : Int) < (M.length : Int) := by omega
  have h0i : 0 ≤ (i : Int) := by omega
  obtain ⟨b, hb⟩ : ∃ b, b = w.heap.size := ⟨_, rfl⟩
  obtain ⟨w1, hw1⟩ : ∃ w1, w1 = (w.alloc (.cells #[.pointer (some ⟨R, 0, none⟩)] 23)).alloc (.cells #[.int .i64 (i : Int)] 3) := ⟨_, rfl⟩
  have hbk0 : Bk w1 b 23 #[.pointer (some ⟨R, 0, none⟩)] := by rw [hw1, hb]; exact (Bk.new _ _ _).alloc _
  have hbk1 : Bk w1 (b + 1) 3 #[.int .i64 (i : Int)] := by rw [hw1, hb]; exact bk_new' _ _ _ (by simp)
  have hbl : Below w.heap.size w w1 := by rw [hw1]; exact bl_alloc (bl_alloc (Below.refl _ _) _) _
  have hsz : w1.heap.size = b + 2 := by rw [hw1, hb]; simp
  have h2 := h1.below hbl
  have HI := Lib.hid (c_is_yes h2.ns i hi hl)
  have HS1 := Lib.hid h2
  have HBL := Lib.hid hbl
  have HBK0 := Lib.hid hbk0
  have HBK1 := Lib.hid hbk1
  have HB := Lib.hid hb
  have HSZ := Lib.hid hsz
  have HW1 := Lib.hid hw1
  obtain ⟨tx, htx⟩ : ∃ tx, tx = y.x.txt := ⟨_, rfl⟩
  have HTX := Lib.hid htx
  obtain ⟨xk, hxk⟩ : ∃ xk, xk = y.x.k := ⟨_, rfl⟩
  rw [← hxk] at hk
  have hF1 : ∀ W', Below w1.heap.size w1 W' → (W'.cell? ⟨b, 0, none⟩ = some (.pointer (some ⟨R, 0, none⟩)) ∧ W'.cell? ⟨b + 1, 0, none⟩ = some (.int .i64 (i : Int)) ∧ W'.cell? ⟨R, 0, none⟩ = some (.slice (some ⟨L, 0, none⟩) M.length cap) ∧ W'.cell? ⟨L, i * 6 + 2, none⟩ = some (.string tx)) ∧ W'.cell? ⟨L, i * 6, none⟩ = some (.int .i64 xk) := fun W' hb => by
    have n1 := h2.ns.below hb
    have q0 := hbk0.below hb hbk0.lt
    have q1 := hbk1.below hb hbk1.lt
    rw [htx, hxk]
    exact ⟨⟨q0.cell 0, q1.cell 0, n1.heads.1, (n1.cell hy).1.2.2⟩, (n1.cell hy).1.1⟩
  have HF1 := Lib.hid hF1
  have HLT : Hid (∀ W', Below w1.heap.size w1 W' → b + 1 < W'.heap.size ∧ R < W'.heap.size ∧ L < W'.heap.size) := fun W' hb => by
    have n1 := h2.ns.below hb
    have q1 := hbk1.below hb hbk1.lt
    exact ⟨q1.lt, n1.ltR, n1.ltL⟩
  clear h1 hM hx hy hs hD hT hb hw1 hbk0 hbk1 hbl hsz h2 htx hxk hF1
  obtain ⟨⟨c0, c1, c2, c3⟩, c4⟩ := HF1.out w1 (Below.refl _ _)
  obtain ⟨l0, l1, l2⟩ := HLT.out w1 (Below.refl _ _)
  go_enter Tryz.func33, Tryz.ntmps33
  go_upto_region 1 with fail
  rw [← HW1.out, ← HB.out]
  go_upto_region 3 with (go_at_call 45; refine (HI.out).mono ?_; rintro e w' ⟨rfl, rfl⟩)
  go_cut [7] (fun v7 wx => v7 = .int .i64 xk ∧ Hid (Below w1.heap.size w1 wx))
  case first =>
    go_quiet (fail)
    go_wp2_with fail
    go_meet
    exact ⟨rfl, bl_drewN (Below.refl _ _) _⟩
  case rest =>
    obtain ⟨rfl, HBA⟩ := hcut
    obtain ⟨w3, rfl⟩ : ∃ w3 : World, w3 = wc := ⟨_, rfl⟩
    clear c0 c1 c2 c3 c4 l0 l1 l2
    go_upto_region 4 with fail
    go_cut [27] (fun v27 wx => v27 = .bool false ∧ wx = w3)
    case first =>
      rcases hk with rfl | rfl
      · go_wp2_with fail
        go_meet
        exact ⟨rfl, rfl⟩
      · go_wp2_with fail
        go_meet
        exact ⟨rfl, rfl⟩
    case rest =>
      obtain ⟨rfl, hwc⟩ := hcut
      obtain rfl : w3 = wc := hwc.symm
      have HF3 : Hid (∀ W', Below w3.heap.size w3 W' → (W'.cell? ⟨b, 0, none⟩ = some (.pointer (some ⟨R, 0, none⟩)) ∧ W'.cell? ⟨b + 1, 0, none⟩ = some (.int .i64 (i : Int)) ∧ W'.cell? ⟨R, 0, none⟩ = some (.slice (some ⟨L, 0, none⟩) M.length cap) ∧ W'.cell? ⟨L, i * 6 + 2, none⟩ = some (.string tx))) := fun W' hb => (HF1.out W' (bl_trans HBA.out hb)).1
      obtain ⟨b2, hb2⟩ : ∃ b2, b2 = w3.heap.size := ⟨_, rfl⟩
      have HB2 := Lib.hid hb2
      have HS3 := Lib.hid (HS1.out.below HBA.out)
      have HBL3 : Hid (Below w.heap.size w w3) := bl_trans HBL.out HBA.out
      have HBK03 : Hid (Bk w3 b 23 #[.pointer (some ⟨R, 0, none⟩)]) := Bk.below HBK0.out HBA.out HBK0.out.lt
      have HBK13 : Hid (Bk w3 (b + 1) 3 #[.int .i64 (i : Int)]) := Bk.below HBK1.out HBA.out HBK1.out.lt
      clear HF1 HLT HI hk hb2
      go_upto_region 8 with fail
      go_cut [8] (fun v8 wx => v8 = .pointer (some ⟨b2, 0, none⟩) ∧ Hid (TSi B R L cap uv Z M T D F wx ∧ Below w.heap.size w wx ∧ Bk wx b 23 #[.pointer (some ⟨R, 0, none⟩)] ∧ Bk wx (b + 1) 3 #[.int .i64 (i : Int)] ∧ Bk wx b2 9 #[.string tx]))
      case first =>
        go_region_held3 (fun w' => w'.cell? ⟨b, 0, none⟩ = some (.pointer (some ⟨R, 0, none⟩)) ∧ w'.cell? ⟨b + 1, 0, none⟩ = some (.int .i64 (i : Int)) ∧ w'.cell? ⟨R, 0, none⟩ = some (.slice (some ⟨L, 0, none⟩) M.length cap) ∧ w'.cell? ⟨L, i * 6 + 2, none⟩ = some (.string tx))
          (first | exact HF3.out _ (Below.refl _ _) | exact HF3.out _ (bl_drew (Below.refl _ _)) | exact HF3.out _ (bl_drew (bl_alloc (Below.refl _ _) _)) | exact HF3.out _ (bl_set (bl_drew (bl_alloc (Below.refl _ _) _)) _ _ (by simp) _))
          (fail)
        all_goals
          go_wp2_with fail
          go_meet
          exact ⟨by rw [HB2.out], HS3.out.below (bl_drew (bl_alloc (Below.refl _ _) _)), bl_trans HBL3.out (bl_drew (bl_alloc (Below.refl _ _) _)), Bk.drew (HBK03.out.alloc _), Bk.drew (HBK13.out.alloc _), Bk.drew (bk_new' _ _ _ HB2.out)⟩
      case rest =>
        obtain ⟨rfl, hmid⟩ := hcut
        obtain ⟨hSc, hBc, hb0, hb1, hb2⟩ := hmid.out
        obtain ⟨w2, hw2⟩ : ∃ w2, w2 = wc.drew := ⟨_, rfl⟩
        have h2 := hSc.below (bl_drew (Below.refl _ wc))
        rw [← hw2] at h2
        have e0 : w2.cell? ⟨b, 0, none⟩ = some (.pointer (some ⟨R, 0, none⟩)) := by rw [hw2]; exact hb0.cell 0
        have e1 : w2.cell? ⟨b + 1, 0, none⟩ = some (.int .i64 (i : Int)) := by rw [hw2]; exact hb1.cell 0
        have l1 : b + 1 < w2.heap.size := by rw [hw2]; exact hb1.lt
        obtain ⟨g0, g1, g2, g3⟩ := h2.ns.heads
        have hr := h2.ns.ltR
        have hrL := h2.ns.ltL
        obtain ⟨⟨_, _, a2⟩, _, _, _⟩ := h2.ns.cell HY.out
        rw [← HTX.out] at a2
        have f2 := h2.ns.free (i * 6 + 2)
        have HS2 := Lib.hid h2
        have HBC := Lib.hid hBc
        have HB0 := Lib.hid hb0
        have HB1 := Lib.hid hb1
        have HB2' := Lib.hid hb2
        have HW2 := Lib.hid hw2
        have HBB : Hid (b + 2 ≤ b2) := by have := HBA.out.size; have := HSZ.out; have := HB2.out; unfold Hid; omega
        clear h2 hSc hBc hb0 hb1 hb2 hw2 hmid HF3 HBK0 HBK1 HBL HS1 HW1 HBK03 HBK13 HS3 HBL3
        go_upto_region 9 with fail
        refine wp_region_still_tail 8 (by kernel_rfl) (by kernel_rfl) ?_
        simp only [List.take_succ_cons, List.take_zero, List.drop_succ_cons, List.drop_zero]
        change wpStill _ _ (World.drew _) _ _ _
        rw [← HW2.out]
        repeat still_step
        refine wpStill_nil ?_
        change wpList _ _ _ _ _ (World.drew _)
        rw [← HW2.out]
        go_upto_region 10 with fail
        obtain ⟨wn, hwn⟩ : ∃ wn, wn = w2.setCell ⟨L, i * 6 + 2, none⟩ (.string s) := ⟨_, rfl⟩
        rw [← hwn]
        obtain ⟨P, hP⟩ : ∃ P : Nat → Prop, P = fun k => k = b ∨ k = b + 1 ∨ k = b2 := ⟨_, rfl⟩
        have hbw : b = w.heap.size := HB.out
        have hbb := HBB.out
        have hBb : B ≤ b := by have := H.out.ns.geo.1; have := H.out.ns.ltR; omega
        have hsz2 : b2 + 1 ≤ w2.heap.size := by
          have h1 := HB2'.out.lt
          have e : w2.heap.size = wc.heap.size := by rw [HW2.out]; rfl
          omega
        have hexb : ∀ k, exT R L uv k → k < b := fun k hk => by have := (H.out.ns.ex hk).2; omega
        have hPz : ∀ k, P k → B ≤ k ∧ k < w2.heap.size ∧ ¬ exT R L uv k := fun k hk => by
          rw [hP] at hk
          rcases hk with rfl | rfl | rfl
          · exact ⟨hBb, by omega, fun e => by have := hexb _ e; omega⟩
          · exact ⟨by omega, by omega, fun e => by have := hexb _ e; omega⟩
          · exact ⟨by omega, by omega, fun e => by have := hexb _ e; omega⟩
        have hSz := HS2.out.wideZ P hPz
        have hbl2 : Below w.heap.size w w2 := by rw [HW2.out]; exact bl_drew HBC.out
        have hSn := hSz.setN HY.out 2 (by omega) (.string s) (setTx_cells y s) (hSz.ns.rd y (List.mem_of_getElem? HY.out))
        rw [← hwn] at hSn
        have hkn : ∀ k, k ≠ L → wn.heap[k]? = w2.heap[k]? := fun k hk => by rw [hwn]; exact Below.heap_setCell w2 ⟨L, i * 6 + 2, none⟩ _ k hk
        have hLb : L < b := hexb L (.inr (.inl rfl))
        have hbn0 : Bk wn b 23 #[.pointer (some ⟨R, 0, none⟩)] := (hkn b (by omega)).trans (by rw [HW2.out]; exact HB0.out)
        have hbn1 : Bk wn (b + 1) 3 #[.int .i64 (i : Int)] := (hkn (b + 1) (by omega)).trans (by rw [HW2.out]; exact HB1.out)
        have hbn2 : Bk wn b2 9 #[.string y.x.txt] := (hkn b2 (by omega)).trans (by rw [HW2.out, ← HTX.out]; exact HB2'.out)
        have hU := u_Say (B := B) (s := s) HX.out HT.out hbn0 hbn1 hbn2 (Z := fun k => Z k ∨ P k) (.inr (by rw [hP]; exact .inl rfl)) (.inr (by rw [hP]; exact .inr (.inl rfl))) (.inr (by rw [hP]; exact .inr (.inr rfl)))
        have hmm : (M.set i (setTx y s)).map NV.x = T.set i (txN y.x s) := by rw [List.map_set, HM.out]; rfl
        rw [← hmm] at hU
        have HDN := Lib.hid (c_done hSn hU HD.out)
        have HEX : Hid (∀ k, exT R L uv k → F k) := fun k hk => H.out.f k (.inl hk)
        have HPP := Lib.hid hP
        have HMM := Lib.hid hmm
        have HKN : Hid (Kept w wn F) := by
          unfold Hid
          rw [hwn]
          exact (Kept.of_below hbl2 F).set_ L _ (fun _ => H.out.f L (.inl (.inr (.inl rfl)))) _
        have c0 : wn.cell? ⟨b, 0, none⟩ = some (.pointer (some ⟨R, 0, none⟩)) := hbn0.cell 0
        have cl := hbn0.lt
        have hszn : Hid (wn.heap.size = w2.heap.size) := by rw [hwn]; simp [World.setCell, Hid]
        have HS4 : Hid (b2 + 1 ≤ w2.heap.size) := hsz2
        clear hP hbw hBb hsz2 hexb hPz hSz hbl2 hSn hkn hLb hbn0 hbn1 hbn2 hU hmm hwn e0 e1 l1 g0 g1 g2 g3 hr hrL a2 f2 hbb
        go_wp2_with ((go_at_call 55; refine (HDN.out).mono ?_; rintro e w' ⟨⟨u, rfl⟩, uv', F'', hS5, hF5, hK5⟩; have HS5 := Lib.hid hS5; have HF5 := Lib.hid hF5; have HK5 := Lib.hid hK5; clear hS5 hF5 hK5))
        go_ret
        have key := HS5.out
        rw [HMM.out] at key
        refine ⟨rfl, _, F'', ⟨L, cap, uv', _, _, key, HMM.out⟩, fun k hk hf => ?_, HKN.out.then_ HK5.out (fun k _ e => HEX.out k e)⟩
        have h1 := HS4.out
        have h2 := hszn.out
        have h3 := HB.out
        have h4 := HBB.out
        rcases HF5.out k (by omega) hf with e | e
        · exact e
        · rw [HPP.out] at e
          rcases e with e | e | e
          · omega
          · omega
          · omega
end Go.Proofs.YtimlmekgapdkiaaGreatDoor
