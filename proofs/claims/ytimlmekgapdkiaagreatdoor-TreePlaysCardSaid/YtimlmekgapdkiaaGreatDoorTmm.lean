/- the tree: Index; Insert at the end; the tree: a node is cut out that lies nowhere; the tree: what undoes a Put -/
import Derived.Test.YtimlmekgapdkiaaGreatDoorTmj
namespace Go.Proofs.YtimlmekgapdkiaaGreatDoor
set_option linter.unusedVariables false
set_option linter.unusedSimpArgs false
open Go.RowKit Go.Cas

theorem rd_ki {w : World} {lim n k : Nat} {A : Option Addr} {c x : Nat} {l : List Nat} (h : RdS w lim 1 (.slice A n c) n (kic l)) (hx : l[k]? = some x) : ∃ g o, A = some ⟨g, o, none⟩ ∧ g < lim ∧ ∀ w', Below lim w w' → w'.cell? ⟨g, o + k, none⟩ = some (.int .i64 (x : Int)) := by
  have hl : l.length = n := by have := h.1; rw [kic_len] at this; omega
  have hk := (List.getElem?_eq_some_iff.1 hx).1
  obtain ⟨_, A', c', e, _, hc⟩ := h
  injection e with e1 _ e2
  subst e1 e2
  obtain ⟨g, o, e, hg, hcell⟩ := hc (by omega)
  refine ⟨g, o, e, hg, fun w' hb => (hb.cell (p := ⟨g, _, none⟩) hg).trans (hcell k _ ?_)⟩
  unfold kic
  rw [List.getElem?_map, hx]; rfl
theorem idx_hit {l : List Nat} {x k : Nat} (h : l[k]? = some x) (hn : ∀ j y, j < k → l[j]? = some y → y ≠ x) : l.idxOf x = k := by
  induction l generalizing k with
  | nil => simp at h
  | cons a l ih =>
    cases k with
    | zero => simp at h; subst h; simp
    | succ k =>
      have h0 := hn 0 a (by omega) rfl
      rw [List.idxOf_cons, show (a == x) = false by simpa using h0, cond_false, ih (by simpa using h) (fun j y hj hy => hn (j + 1) y (by omega) (by simpa using hy))]
set_option maxRecDepth 100000 in
set_option maxHeartbeats 4000000 in
theorem c_Index {w : World} {lim n : Nat} {v : Value} {l : List Nat} {x : Nat} (h : RdS w lim 1 v n (kic l)) (hn : n ≤ 1000000000) (hlim : lim ≤ w.heap.size) (hx : x ∈ l) :
    Calls Tryz.prog 68 #[v, .int .i64 (x : Int)] w fun e w' => e = .returned (.int .i64 ((l.idxOf x : Nat) : Int)) ∧ w = w' := by
  have H := Lib.hid h
  have hll : l.length = n := by have := h.1; rw [kic_len] at this; omega
  obtain ⟨_, A, c, rfl, _, _⟩ := h
  have HL := Lib.hid hll
  have HX := Lib.hid hx
  clear hll hx
  go_enter Tryz.func68, Tryz.ntmps68
  go_wp2_with fail
  go_loop [8] (fun i => ∃ (k : Nat), k ≤ n ∧ i = .int .i64 k ∧ Hid (∀ j y, j < k → l[j]? = some y → y ≠ x)) (fun i => n - (intOf i).toNat)
  case atStart => exact ⟨0, by omega, rfl, fun j q hj => by omega⟩
  case round =>
    obtain ⟨k, hk, rfl, HA⟩ := hrel
    by_cases hlt : k < n
    · have hik : (k : Int) < (n : Int) := by omega
      obtain ⟨y, hy⟩ : ∃ y, l[k]? = some y := ⟨_, List.getElem?_eq_getElem (by have := HL.out; omega)⟩
      have HY := Lib.hid hy
      obtain ⟨g, o, rfl, hg, hc⟩ := rd_ki H.out hy
      have d0 := hc w (Below.refl _ _)
      by_cases he : y = x
      · have HF : Hid (l.idxOf x = k) := idx_hit (by rw [← he]; exact HY.out) HA.out
        have e1 : (x : Int) = (y : Int) := by omega
        have e2 : ((x : Int) == (y : Int)) = true := by rw [beq_iff_eq]; exact e1
        clear hy hc he
        go_wp2_with fail
        go_ret
        exact ⟨ret_int (by rw [HF.out]), rfl⟩
      · have HE := Lib.hid he
        have e1 : ¬ (x : Int) = (y : Int) := by omega
        have e2 : ((x : Int) == (y : Int)) = false := by rw [beq_eq_false_iff_ne]; exact e1
        clear hy hc he
        go_wp2_with fail
        go_round
        case rel =>
          refine ⟨k + 1, by omega, by go_num, fun j q hj hq => ?_⟩
          by_cases hjk : j = k
          · subst hjk
            have := HY.out
            rw [hq] at this
            rw [Option.some.inj this]; exact HE.out
          · exact HA.out j q (by omega) hq
        case measure => simp [intOf]; omega
    · exfalso
      obtain ⟨j, hj⟩ := List.getElem?_of_mem HX.out
      have := (List.getElem?_eq_some_iff.1 hj).1
      exact HA.out j x (by have := HL.out; omega) hj rfl
def InsRet (w : World) (base : Nat) (v : Value) (m : Nat) (xs : List Value) (e : Ending) (w' : World) : Prop := ∃ v', e = .returned v' ∧ w'.ownsRow base 3 1 v' m xs ∧ w.grownBy w' v.ownBlock ∧ (v'.ownBlock = v.ownBlock ∨ ∃ k, w.heap.size ≤ k ∧ v'.ownBlock = some k)
set_option maxRecDepth 100000 in
set_option maxHeartbeats 4000000 in
theorem c_Insert_end {w : World} {base n vb : Nat} {v : Value} {xs : List Value} {x : Int} (h : w.ownsRow base 3 1 v n xs) (hn : n ≤ 1000000000) (hb : w.cell? ⟨vb, 0, none⟩ = some (.int .i64 x)) (hbase : base ≤ w.heap.size) :
    Calls Tryz.prog 54 #[v, .int .i64 (n : Int), .slice (some ⟨vb, 0, none⟩) 1 1] w (InsRet w base v (n + 1) (xs ++ [.int .i64 x])) := by
  obtain ⟨_, A, c, rfl, hnc, _⟩ := RdS.of_own h
  have H := Lib.hid h
  have HB := Lib.hid hb
  obtain ⟨i0, hi0, hz0, hz1, hz2⟩ := info_parts inf_I
  have HNW : Hid (∀ j u, ([.int .i64 x] : List Value)[j]? = some u → w.cell? ((⟨vb, 0, none⟩ : Addr).add j) = some u) := by
    intro j u hj
    cases j with
    | zero => simp at hj; subst hj; rw [add_none]; exact HB.out
    | succ j => simp at hj
  have hni : (n : Int) ≤ 1000000000 := by omega
  have hci : (n : Int) ≤ (c : Int) := by omega
  have HN := Lib.hid hn
  clear h hn hb
  by_cases hcn : c = n
  · subst hcn
    clear hnc hci
    go_enter Tryz.func54, Tryz.ntmps54
    go_wp2_with (at_builtin; refine wpList_append_own_at _ rfl (.tmp 23) (.tmp 24) 38 rfl base 3 i0 (.int .i64 0) 1 8 Tryz.underlying38 hi0 hz0 hz1 hz2 rfl (by decide) (.slice A c c) c xs rfl H.out ⟨vb, 0, none⟩ 1 1 [.int .i64 x] rfl rfl HNW.out (by simp [Value.oneCell']) (by have := HN.out; unfold maxLen; omega) (by have := HN.out; omega) hbase ?_; intro v' w' hown hgrow hnil hat; have HOWN := Lib.hid hown; have HGR := Lib.hid hgrow; have HAT := Lib.hid hat; clear hown hgrow hnil hat)
    go_ret
    exact ⟨_, rfl, HOWN.out, HGR.out, HAT.out.imp id (fun e => ⟨_, Nat.le_refl _, e⟩)⟩
  · have hlt : n < c := by omega
    have hlti : (n : Int) < (c : Int) := by omega
    have hne : ¬ (c : Int) = (n : Int) := by omega
    go_enter Tryz.func54, Tryz.ntmps54
    go_wp2_with (at_builtin; refine wpList_append_own_at _ rfl (.tmp 23) (.tmp 24) 38 rfl base 3 i0 (.int .i64 0) 1 8 Tryz.underlying38 hi0 hz0 hz1 hz2 rfl (by decide) (.slice A n c) n xs rfl H.out ⟨vb, 0, none⟩ 1 1 [.int .i64 x] rfl rfl HNW.out (by simp [Value.oneCell']) (by have := HN.out; unfold maxLen; omega) (by have := HN.out; omega) hbase ?_; intro v' w' hown hgrow hnil hat; have HOWN := Lib.hid hown; have HGR := Lib.hid hgrow; have HAT := Lib.hid hat; clear hown hgrow hnil hat)
    go_ret
    exact ⟨_, rfl, HOWN.out, HGR.out, HAT.out.imp id (fun e => ⟨_, Nat.le_refl _, e⟩)⟩
end Go.Proofs.YtimlmekgapdkiaaGreatDoor
namespace Go.Proofs.YtimlmekgapdkiaaGreatDoor
set_option linter.unusedVariables false
set_option linter.unusedSimpArgs false
open Go.RowKit Go.Cas

def setPa (y : NV) (a : Int) : NV := ⟨{ y.x with pa := a }, y.va, y.vk⟩
def setKi (y : NV) (v : Value) (l : List Nat) : NV := ⟨{ y.x with ki := l }, y.va, v⟩
theorem setPa_cells (y : NV) (a : Int) : (nvc y).set 4 (.int .i64 a) = nvc (setPa y a) := rfl
theorem setKi_cells (y : NV) (v : Value) (l : List Nat) : (nvc y).set 5 v = nvc (setKi y v l) := rfl
set_option maxRecDepth 100000 in
set_option maxHeartbeats 4000000 in
theorem c_cut1 {w : World} {B R L cap b0 b1 i : Nat} {uv : Value} {Z : Nat → Prop} {M : List NV} {y : NV} (h : NS B R L cap uv Z M w) (hy : M[i]? = some y) (hM : M.length ≤ 400)
    (hb0 : Bk w b0 23 #[.pointer (some ⟨R, 0, none⟩)]) (hb1 : Bk w b1 3 #[.int .i64 (i : Int)]) :
    Calls Tryz.prog 72 #[.pointer (some ⟨b0, 0, none⟩), .pointer (some ⟨b1, 0, none⟩)] w fun e w3 => (∃ u, e = .returned u) ∧ NS B R L cap uv Z (M.set i (setPa y (-1))) w3 ∧ Kept w w3 (fun k => k = R ∨ k = L) := by
  obtain ⟨w2, hw2⟩ : ∃ w2, w2 = w.drew := ⟨_, rfl⟩
  have h2 : NS B R L cap uv Z M w2 := by rw [hw2]; exact h.below (bl_drew (Below.refl _ w))
  have H := Lib.hid h2
  obtain ⟨g0, g1, g2, g3⟩ := h2.heads
  have hr := h2.ltR
  have hrL := h2.ltL
  have e0 : w2.cell? ⟨b0, 0, none⟩ = some (.pointer (some ⟨R, 0, none⟩)) := by rw [hw2]; exact hb0.cell 0
  have e1 : w2.cell? ⟨b1, 0, none⟩ = some (.int .i64 (i : Int)) := by rw [hw2]; exact hb1.cell 0
  obtain ⟨_, _, a4, _⟩ := h2.cell hy
  have f4 := h2.free (i * 6 + 4)
  have hi := (List.getElem?_eq_some_iff.1 hy).1
  have hii : (i : Int) < (M.length : Int) := by omega
  have h0i : 0 ≤ (i : Int) := by omega
  have HY := Lib.hid hy
  have HW2 := Lib.hid hw2
  clear h h2 hb0 hb1 hy hw2
  go_enter Tryz.func72, Tryz.ntmps72
  go_wp2_with fail
  refine wp_region_still_tail 7 (by kernel_rfl) (by kernel_rfl) ?_
  simp only [List.take_succ_cons, List.take_zero, List.drop_succ_cons, List.drop_zero]
  change wpStill _ _ (World.drew _) _ _ _
  rw [← HW2.out]
  repeat still_step
  refine wpStill_nil ?_
  change wpList _ _ _ _ _ (World.drew _)
  rw [← HW2.out]
  go_wp2_with fail
  go_end0
  refine ⟨⟨_, rfl⟩, ?_, ?_⟩
  · exact H.out.setN HY.out 4 (by omega) _ (setPa_cells y (-1)) (H.out.rd y (List.mem_of_getElem? HY.out))
  · rw [HW2.out]; exact ((Kept.refl w _).drew).set_ L _ (fun _ => .inr rfl) _
theorem enter_cut1 (cs : Array Value) (w : World) : (callFunc 72 cs).run Tryz.prog w = .ok (.enter 72 cs) w := by kernel_rfl
theorem u_cut1 {w : World} {B R b0 b1 i : Nat} {Z : Nat → Prop} {T : List Nod} {x : Nod} {q : Int} (hx : T[i]? = some x) (hp : x.pa = -1) (hT : T.length ≤ 400)
    (hb0 : Bk w b0 23 #[.pointer (some ⟨R, 0, none⟩)]) (hb1 : Bk w b1 3 #[.int .i64 (i : Int)]) (z0 : Z b0) (z1 : Z b1) :
    UOk B R Z w (.func (.func 72) #[] #[.pointer (some ⟨b0, 0, none⟩), .pointer (some ⟨b1, 0, none⟩)]) (T.set i { x with pa := q }) T := by
  refine ⟨_, _, rfl, enter_cut1 _, fun w2 L2 cap2 uv2 Z2 M2 h1 h2 h3 => ?_⟩
  have hi := (List.getElem?_eq_some_iff.1 hx).1
  obtain ⟨y, hy, hyx⟩ := nv_get h3 (List.getElem?_set_self (by simpa using hi))
  have hl : M2.length ≤ 400 := by
    have := congrArg List.length h3
    simp at this; omega
  refine (c_cut1 h2 hy hl ((h1 b0 z0).1.trans hb0) ((h1 b1 z1).1.trans hb1)).mono fun e w3 ⟨q1, q2, q3⟩ => ⟨q1, _, _, q2, ?_, q3⟩
  rw [List.map_set, h3]
  have : (setPa y (-1)).x = x := by
    show ({ y.x with pa := -1 } : Nod) = x
    rw [hyx]
    show ({ x with pa := -1 } : Nod) = x
    rw [← hp]
  rw [this]
  exact set_back hx
def CtMid (B R L cap : Nat) (uv : Value) (Z : Nat → Prop) (M : List NV) (T : List Nod) (D : List (Value × List Nod)) (F : Nat → Prop) (a : Int) (b i : Nat) (w wx : World) : Prop :=
  TSi B R L cap uv Z M T D F wx ∧ Below w.heap.size w wx ∧ Bk wx b 23 #[.pointer (some ⟨R, 0, none⟩)] ∧ Bk wx (b + 1) 3 #[.int .i64 (i : Int)] ∧ Bk wx (b + 2) 3 #[.int .i64 a]
/-- what cut leaves -/
def CtRet (B R i : Nat) (T : List Nod) (D : List (Value × List Nod)) (F : Nat → Prop) (w : World) (e : Ending) (w' : World) : Prop :=
  ∃ back L cap uv Z M F', e = .returned back ∧ TSi B R L cap uv Z M T D F' w' ∧ M.map NV.x = cutE T i ∧ (∀ k, k < w.heap.size → F' k → F k) ∧ Kept w w' F ∧ ∀ q, UOk B R Z w' back ((cutE T i).set i { ndA (cutE T i) i with pa := q }) T
set_option maxRecDepth 100000 in
set_option maxHeartbeats 8000000 in
theorem c_cut_none {w : World} {B R i : Nat} {F : Nat → Prop} {T : List Nod} {D : List (Value × List Nod)} {x : Nod} (h : TS B R T D F w) (hT : T.length ≤ 400) (hx : T[i]? = some x) (hp : x.pa = -1) :
    Calls Tryz.prog 53 #[.pointer (some ⟨R, 0, none⟩), .int .i64 (i : Int)] w (CtRet B R i T D F w) := by
  obtain ⟨L, cap, uv, Z, M, h1, hM⟩ := h
  obtain ⟨y, hy, rfl⟩ := nv_get hM hx
  have H := Lib.hid h1
  have HM := Lib.hid hM
  have HX := Lib.hid hx
  have HY := Lib.hid hy
  have HT := Lib.hid hT
  have HP := Lib.hid hp
  have hl : M.length ≤ 400 := by rw [← hM] at hT; simpa using hT
  have hi := (List.getElem?_eq_some_iff.1 hy).1
  have hii : (i : Int) < (M.length : Int) := by omega
  have h0i : 0 ≤ (i : Int) := by omega
  obtain ⟨b, hb⟩ : ∃ b, b = w.heap.size := ⟨_, rfl⟩
  obtain ⟨w1, hw1⟩ : ∃ w1, w1 = (w.alloc (.cells #[.pointer (some ⟨R, 0, none⟩)] 23)).alloc (.cells #[.int .i64 (i : Int)] 3) := ⟨_, rfl⟩
  have hbk0 : Bk w1 b 23 #[.pointer (some ⟨R, 0, none⟩)] := by rw [hw1, hb]; exact (Bk.new _ _ _).alloc _
  have hbk1 : Bk w1 (b + 1) 3 #[.int .i64 (i : Int)] := by rw [hw1, hb]; exact bk_new' _ _ _ (by simp)
  have hbl : Below w.heap.size w w1 := by rw [hw1]; exact bl_alloc (bl_alloc (Below.refl _ _) _) _
  have hsz : w1.heap.size = b + 2 := by rw [hw1, hb]; simp
  have h2 := h1.below hbl
  have HS1 := Lib.hid h2
  have HBL := Lib.hid hbl
  have HBK0 := Lib.hid hbk0
  have HBK1 := Lib.hid hbk1
  have HB := Lib.hid hb
  have HSZ := Lib.hid hsz
  have HW1 := Lib.hid hw1
  have hF1 : ∀ W', Below w1.heap.size w1 W' → (W'.cell? ⟨b, 0, none⟩ = some (.pointer (some ⟨R, 0, none⟩)) ∧ W'.cell? ⟨b + 1, 0, none⟩ = some (.int .i64 (i : Int)) ∧ W'.cell? ⟨R, 0, none⟩ = some (.slice (some ⟨L, 0, none⟩) M.length cap) ∧ W'.cell? ⟨L, i * 6 + 4, none⟩ = some (.int .i64 (-1))) := fun W' hb => by
    have n1 := h2.ns.below hb
    refine ⟨(hbk0.below hb hbk0.lt).cell 0, (hbk1.below hb hbk1.lt).cell 0, n1.heads.1, ?_⟩
    rw [← hp]
    exact (n1.cell hy).2.2.1
  have HF1 := Lib.hid hF1
  clear h1 hM hx hy hT hb hw1 hbk0 hbk1 hbl hsz h2 hF1 hp
  go_enter Tryz.func53, Tryz.ntmps53
  go_upto_region 1 with fail
  rw [← HW1.out, ← HB.out]
  go_cut [5] (fun v5 wx => v5 = .pointer (some ⟨b + 2, 0, none⟩) ∧ Hid (CtMid B R L cap uv Z M T D F (-1) b i w wx))
  case first =>
    go_region_held3 (fun w' => w'.cell? ⟨b, 0, none⟩ = some (.pointer (some ⟨R, 0, none⟩)) ∧ w'.cell? ⟨b + 1, 0, none⟩ = some (.int .i64 (i : Int)) ∧ w'.cell? ⟨R, 0, none⟩ = some (.slice (some ⟨L, 0, none⟩) M.length cap) ∧ w'.cell? ⟨L, i * 6 + 4, none⟩ = some (.int .i64 (-1)))
      (first | exact HF1.out _ (Below.refl _ _) | exact HF1.out _ (bl_drew (Below.refl _ _)) | exact HF1.out _ (bl_drew (bl_alloc (Below.refl _ _) _)) | exact HF1.out _ (bl_set (bl_drew (bl_alloc (Below.refl _ _) _)) _ _ (by simp) _))
      (fail)
    all_goals
      go_wp2_with fail
      go_meet
      exact ⟨by rw [HSZ.out], HS1.out.below (bl_drew (bl_alloc (Below.refl _ _) _)), bl_trans HBL.out (bl_drew (bl_alloc (Below.refl _ _) _)), Bk.drew (HBK0.out.alloc _), Bk.drew (HBK1.out.alloc _), Bk.drew (bk_new' _ _ _ HSZ.out.symm)⟩
  case rest =>
    obtain ⟨rfl, hmid⟩ := hcut
    obtain ⟨hSc, hBc, hb0, hb1, hb2⟩ := hmid.out
    have e2 : wc.cell? ⟨b + 2, 0, none⟩ = some (.int .i64 (-1)) := hb2.cell 0
    have l2 := hb2.lt
    have HSc := Lib.hid hSc
    have HBC := Lib.hid hBc
    have HB0 := Lib.hid hb0
    have HB1 := Lib.hid hb1
    clear hSc hBc hb0 hb1 hb2 hmid HF1 HBK0 HBK1 HBL HS1 HW1
    go_wp2_with fail
    go_ret
    have hbw : b = w.heap.size := HB.out
    have hBb : B ≤ b := by have := H.out.ns.geo.1; have := H.out.ns.ltR; omega
    have hexb : ∀ k, exT R L uv k → k < b := fun k hk => by have := (H.out.ns.ex hk).2; omega
    have hSz := HSc.out.wideZ (fun k => k = b ∨ k = b + 1) (fun k hk => by
      rcases hk with rfl | rfl
      · exact ⟨hBb, HB0.out.lt, fun e => by have := hexb _ e; omega⟩
      · exact ⟨by omega, HB1.out.lt, fun e => by have := hexb _ e; omega⟩)
    have hx := HX.out
    have hpn : (ndA T i).pa < 0 := by rw [ndA_eq hx, HP.out]; omega
    refine ⟨_, L, cap, uv, _, M, _, rfl, hSz, ?_, fun k hk hf => ?_, Kept.of_below HBC.out F, fun q => ?_⟩
    · rw [cutE_none hpn]; exact HM.out
    · rcases hf with hf | rfl | rfl
      · exact hf
      · omega
      · omega
    · rw [cutE_none hpn, ndA_eq hx]
      exact u_cut1 hx HP.out HT.out HB0.out HB1.out (.inr (.inl rfl)) (.inr (.inr rfl))
end Go.Proofs.YtimlmekgapdkiaaGreatDoor
namespace Go.Proofs.YtimlmekgapdkiaaGreatDoor
set_option linter.unusedVariables false
set_option linter.unusedSimpArgs false
open Go.RowKit Go.Cas

set_option maxRecDepth 100000 in
set_option maxHeartbeats 4000000 in
theorem c_Put1 {w : World} {B R L cap b0 b1 b2 b3 p : Nat} {uv v0 back : Value} {l0 : List Nat} {Z : Nat → Prop} {M : List NV} {T : List Nod} {y : NV} (h : NS B R L cap uv Z M w) (hy : M[p]? = some y) (hM : M.length ≤ 400)
    (hb0 : Bk w b0 23 #[.pointer (some ⟨R, 0, none⟩)]) (hb1 : Bk w b1 3 #[.int .i64 (p : Int)]) (hb2 : Bk w b2 38 #[v0]) (hb3 : Bk w b3 1 #[back]) (hv : RdZ w Z 1 v0 l0.length (kic l0)) (hz3 : Z b3)
    (hU : UOk B R Z w back ((M.set p (setKi y v0 l0)).map NV.x) T) :
    Calls Tryz.prog 56 #[.pointer (some ⟨b2, 0, none⟩), .pointer (some ⟨b0, 0, none⟩), .pointer (some ⟨b1, 0, none⟩), .pointer (some ⟨b3, 0, none⟩)] w fun e w3 => (∃ u, e = .returned u) ∧ ∃ cap3 M3, NS B R L cap3 uv Z M3 w3 ∧ M3.map NV.x = T ∧ Kept w w3 (fun k => k = R ∨ k = L) := by
  obtain ⟨fn, cs, rfl, hE, hU⟩ := hU
  obtain ⟨w2, hw2⟩ : ∃ w2, w2 = w.drew := ⟨_, rfl⟩
  have h2 : NS B R L cap uv Z M w2 := by rw [hw2]; exact h.below (bl_drew (Below.refl _ w))
  have H := Lib.hid h2
  obtain ⟨g0, g1, g2, g3⟩ := h2.heads
  have hr := h2.ltR
  have hrL := h2.ltL
  have e0 : w2.cell? ⟨b0, 0, none⟩ = some (.pointer (some ⟨R, 0, none⟩)) := by rw [hw2]; exact hb0.cell 0
  have e1 : w2.cell? ⟨b1, 0, none⟩ = some (.int .i64 (p : Int)) := by rw [hw2]; exact hb1.cell 0
  have e2 : w2.cell? ⟨b2, 0, none⟩ = some v0 := by rw [hw2]; exact hb2.cell 0
  have HB3 : Hid (Bk w2 b3 1 #[.func (.func fn) #[] cs]) := by rw [hw2]; exact hb3
  have HN3 : Hid (b3 ≠ L) := fun e => (h.z b3 hz3).2.2 (.inr (.inl e))
  obtain ⟨_, _, _, a5⟩ := h2.cell hy
  have f5 := h2.free (p * 6 + 5)
  have hi := (List.getElem?_eq_some_iff.1 hy).1
  have hii : (p : Int) < (M.length : Int) := by omega
  have h0i : 0 ≤ (p : Int) := by omega
  have hv2 : RdZ w2 Z 1 v0 l0.length (kic l0) := hv.keep (fun k _ => by rw [hw2]; rfl) (fun _ h => h)
  have HV := Lib.hid hv2
  have HY := Lib.hid hy
  have HW2 := Lib.hid hw2
  have HE := Lib.hid hE
  have HU := Lib.hid hU
  obtain ⟨_, A, c, rfl, _, _⟩ := hv
  obtain ⟨vk, hvk⟩ : ∃ vk, vk = y.vk := ⟨_, rfl⟩
  rw [← hvk] at a5
  have hy2 := (h2.rd y (List.mem_of_getElem? hy)).2
  rw [← hvk] at hy2
  obtain ⟨_, A2, c2, rfl, _, _⟩ := hy2
  clear h h2 hb0 hb1 hb2 hb3 hv2 hy hw2 hvk hE hU hz3
  go_enter Tryz.func56, Tryz.ntmps56
  go_wp2_with fail
  refine wp_region_still_tail 8 (by kernel_rfl) (by kernel_rfl) ?_
  simp only [List.take_succ_cons, List.take_zero, List.drop_succ_cons, List.drop_zero]
  change wpStill _ _ (World.drew _) _ _ _
  rw [← HW2.out]
  repeat still_step
  refine wpStill_nil ?_
  change wpList _ _ _ _ _ (World.drew _)
  rw [← HW2.out]
  go_upto_region 1 with fail
  obtain ⟨wn, hwn⟩ : ∃ wn, wn = w2.setCell ⟨L, p * 6 + 5, none⟩ (.slice A l0.length c) := ⟨_, rfl⟩
  rw [← hwn]
  have hn : NS B R L cap uv Z (M.set p (setKi y (.slice A l0.length c) l0)) wn := by
    rw [hwn]
    exact H.out.setN HY.out 5 (by omega) _ (setKi_cells y _ l0) ⟨(H.out.rd y (List.mem_of_getElem? HY.out)).1, HV.out⟩
  have hkn : ∀ k, k ≠ L → wn.heap[k]? = w.heap[k]? := fun k hk => by rw [hwn]; exact (Below.heap_setCell w2 ⟨L, p * 6 + 5, none⟩ _ k hk).trans (by rw [HW2.out]; rfl)
  have e3 : wn.cell? ⟨b3, 0, none⟩ = some (.func (.func fn) #[] cs) := by rw [hwn]; exact (HB3.out.far (p := ⟨L, p * 6 + 5, none⟩) HN3.out _).cell 0
  have HC := Lib.hid (HU.out wn L cap uv Z _ (fun k hz => ⟨hkn k (fun e => (H.out.z k hz).2.2 (.inr (.inl e))), hz⟩) hn rfl)
  have HK : Hid (Kept w wn (fun k => k = R ∨ k = L)) := by
    unfold Hid
    rw [hwn, HW2.out]
    exact ((Kept.refl w _).drew).set_ L _ (fun _ => .inr rfl) _
  clear hn hkn hwn e0 e1 e2 g0 g1 g2 g3 hr hrL a5 f5
  go_wp2_with fail
  rw [HE.out, Oper.upon_enter]
  refine HC.out.mono ?_
  rintro e w3 ⟨⟨u, rfl⟩, cap3, M3, h3, hM3, hk3⟩
  have H3 := Lib.hid h3
  have HM3 := Lib.hid hM3
  have HK3 := Lib.hid hk3
  clear h3 hM3 hk3
  go_wp2_with fail
  go_end0
  exact ⟨⟨_, rfl⟩, cap3, M3, H3.out, HM3.out, HK.out.trans HK3.out⟩
theorem enter_Put1 (cs : Array Value) (w : World) : (callFunc 56 cs).run Tryz.prog w = .ok (.enter 56 cs) w := by kernel_rfl
theorem putE_back {T : List Nod} {p i : Nat} {ks : List Nat} {x : Nod} (hp : T[p]? = some x) (hpi : p ≠ i) : (putE T p i ks).set p { ({ x with ki := ks } : Nod) with ki := x.ki } = T.set i { ndA T i with pa := (p : Int) } := by
  unfold putE
  have hpl := (List.getElem?_eq_some_iff.1 hp).1
  have e : ndA (T.set p { ndA T p with ki := ks }) i = ndA T i := by rw [ndA_set hpl, if_neg (Ne.symm hpi)]
  rw [e, List.set_comm _ _ (Ne.symm hpi), List.set_set]
  congr 1
  apply List.ext_getElem?
  intro j
  rw [List.getElem?_set]
  split
  · rename_i hj; subst hj; simp only [hpl, if_true]; exact hp.symm
  · rfl
theorem u_put {w : World} {B R b0 b1 b2 b3 p i : Nat} {v0 back : Value} {ks : List Nat} {Z : Nat → Prop} {T T0 : List Nod} {x : Nod} (hx : T[p]? = some x) (hpi : p ≠ i) (hT : T.length ≤ 400)
    (hb0 : Bk w b0 23 #[.pointer (some ⟨R, 0, none⟩)]) (hb1 : Bk w b1 3 #[.int .i64 (p : Int)]) (hb2 : Bk w b2 38 #[v0]) (hb3 : Bk w b3 1 #[back]) (hv : RdZ w Z 1 v0 x.ki.length (kic x.ki))
    (z0 : Z b0) (z1 : Z b1) (z2 : Z b2) (z3 : Z b3) (hU : UOk B R Z w back (T.set i { ndA T i with pa := (p : Int) }) T0) :
    UOk B R Z w (.func (.func 56) #[] #[.pointer (some ⟨b2, 0, none⟩), .pointer (some ⟨b0, 0, none⟩), .pointer (some ⟨b1, 0, none⟩), .pointer (some ⟨b3, 0, none⟩)]) (putE T p i ks) T0 := by
  refine ⟨_, _, rfl, enter_Put1 _, fun w2 L2 cap2 uv2 Z2 M2 h1 h2 h3 => ?_⟩
  have hpl := (List.getElem?_eq_some_iff.1 hx).1
  have hg : (putE T p i ks)[p]? = some { x with ki := ks } := by
    unfold putE
    rw [List.getElem?_set_ne (Ne.symm hpi), List.getElem?_set_self hpl, ndA_eq hx]
  obtain ⟨y, hy, hyx⟩ := nv_get h3 hg
  have hl : M2.length ≤ 400 := by
    have := congrArg List.length h3
    rw [putE_len] at this
    simp at this; omega
  have hv2 : RdZ w2 Z2 1 v0 x.ki.length (kic x.ki) := hv.keep (fun k hz => (h1 k hz).1) (fun k hz => (h1 k hz).2)
  refine c_Put1 h2 hy hl ((h1 b0 z0).1.trans hb0) ((h1 b1 z1).1.trans hb1) ((h1 b2 z2).1.trans hb2) ((h1 b3 z3).1.trans hb3) hv2 (h1 b3 z3).2 ?_
  rw [List.map_set, h3]
  have : (setKi y v0 x.ki).x = { ({ x with ki := ks } : Nod) with ki := x.ki } := by
    show ({ y.x with ki := x.ki } : Nod) = _
    rw [hyx]
  rw [this, putE_back hx hpi]
  exact hU.mono h1
end Go.Proofs.YtimlmekgapdkiaaGreatDoor
