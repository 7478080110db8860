/- the tree: cut of a node that lies somewhere -/
import Derived.Test.YtimlmekgapdkiaaGreatDoorVf
import Derived.Deep.RegionLaw
namespace Go.Proofs.YtimlmekgapdkiaaGreatDoor
set_option linter.unusedVariables false
set_option linter.unusedSimpArgs false
open Go.RowKit Go.Cas

/-- 'append(s, x...)' as a step of a region that draws: s of the call's own, x read -/
theorem step_spread {P : Program} {w : World} {ops : Array Oper} {o : Oper} {a : Act} {K : Act → World → Prop} {Q : Exit → Act → World → Prop} {E : Prop} (hgd : o.guard = none) (s x : Operand) (t : TypeId)
    (ho : o.op = .call { callee := .builtin .append, args := #[s, x], argTypes := #[t, t] })
    (base : Nat) (e : TypeId) {z : Value} {size bytes : Nat} (ht : P.underlying t = some (.slice e)) (hinf : (P.info? e).map (fun i => (i.zero, i.size, i.bytes)) = some (some z, size, bytes)) (hzs : z.cells.size = size) (hsz : 0 < size)
    (v : Value) (n : Nat) (xs : List Value) (hs : a.eval s = v) (hown : w.ownsRow base e size v n xs)
    (lim : Nat) (u : Value) (m : Nat) (news : List Value) (hx : a.eval x = u) (hr : RdS w lim size u m news) (h1 : ∀ u ∈ news, u.oneCell' = true)
    (h63 : n + m ≤ maxLen) (hbytes : (n + m) * bytes ≤ 140737488355328) (hbase : base ≤ w.heap.size)
    (h : ∀ v' w', w'.ownsRow base e size v' (n + m) (xs ++ news) → w.grownBy w' v.ownBlock → (v'.ownBlock = v.ownBlock ∨ v'.ownBlock = some w.heap.size) → K (a.put o.dst v') w') :
    if Region.wanted o (yielded ops a.tmps) = true then Oper.wp P o a w K Q else E := by
  have hw : Region.wanted o (yielded ops a.tmps) = true := by simp [Region.wanted, hgd]
  rw [if_pos hw]
  obtain ⟨i, hi, hz, hsize, hby⟩ := info_parts hinf
  obtain ⟨hl, A, c, rfl, hc, hcell⟩ := hr
  rcases A with _ | ad
  · have hm : m = 0 := by
      rcases Nat.eq_zero_or_pos m with h0 | h0
      · exact h0
      · obtain ⟨g, o, e, _⟩ := hcell h0; cases e
    subst hm
    have hn : news = [] := List.eq_nil_of_length_eq_zero (by simpa using hl)
    subst hn
    unfold Oper.wp execOp
    simp only [ho, resolve, invoke, builtin, Sem.run_bind, Sem.run_pure, Result.andThen_ok, List.map_toArray, List.map_cons, List.map_nil, hs, hx, run_spread_nil (c := c) ht hi hown]
    exact h v w (by simpa using hown) (World.grownBy.refl w _) (.inl rfl)
  · have hcells : ∀ j u, news[j]? = some u → w.cell? (ad.add j) = some u := by
      intro j u hu
      rcases Nat.eq_zero_or_pos m with h0 | h0
      · subst h0
        have hn : news = [] := List.eq_nil_of_length_eq_zero (by simpa using hl)
        subst hn
        simp at hu
      · obtain ⟨g, o, e, _, hc⟩ := hcell h0
        injection e with e
        subst e
        have ea : (⟨g, o, none⟩ : Addr).add j = ⟨g, o + j, none⟩ := by cases j <;> simp [Addr.add]
        rw [ea]
        exact hc j u hu
    obtain ⟨v', w', hr, h2, h3, _, h5⟩ := run_append_own_at (P := P) w base t o.type e i z size bytes ht hi hz hsize hby hzs hsz v n xs hown ad m c news hl hcells h1 h63 hbytes hbase
    unfold Oper.wp execOp
    simp only [ho, resolve, invoke, builtin, Sem.run_bind, Sem.run_pure, Result.andThen_ok, List.map_toArray, List.map_cons, List.map_nil, hs, hx, hr]
    exact h v' w' h2 h3 h5
theorem erase_split (l : List Nat) (x : Nat) : l.erase x = l.take (l.idxOf x) ++ l.drop (l.idxOf x + 1) := by
  induction l with
  | nil => rfl
  | cons a l ih =>
    by_cases h : a = x
    · subst h; simp
    · rw [List.erase_cons_tail (by simpa using h), ih, List.idxOf_cons, show (a == x) = false by simpa using h, cond_false]
      simp
/-- what stands behind the cut's first half -/
def CtA (B R L cap : Nat) (uv : Value) (Z : Nat → Prop) (M : List NV) (T : List Nod) (D : List (Value × List Nod)) (F : Nat → Prop) (q b b3 i : Nat) (v0 : Value) (w wx : World) : Prop :=
  TSi B R L cap uv Z M T D F wx ∧ Below w.heap.size w wx ∧ Bk wx b 23 #[.pointer (some ⟨R, 0, none⟩)] ∧ Bk wx (b + 1) 3 #[.int .i64 (i : Int)] ∧ Bk wx (b + 2) 3 #[.int .i64 (q : Int)] ∧ Bk wx b3 38 #[v0]
theorem rds_take {w : World} {lim N k g o c : Nat} {xs : List Value} (h : RdS w lim 1 (.slice (some ⟨g, o, none⟩) N c) N xs) (hk : k ≤ N) : RdS w lim 1 (.slice (some ⟨g, o, none⟩) k c) k (xs.take k) := by
  obtain ⟨h1, A, c', e, h3, h4⟩ := h
  injection e with e1 _ e2
  subst e1 e2
  refine ⟨by rw [List.length_take, h1]; omega, _, _, rfl, by omega, fun h0 => ?_⟩
  obtain ⟨g', o', e, hg, hc⟩ := h4 (by omega)
  refine ⟨g', o', e, hg, fun j u hu => hc j u ?_⟩
  rw [List.getElem?_take] at hu
  split at hu
  · exact hu
  · cases hu
theorem rds_drop {w : World} {lim N k g o c : Nat} {A : Addr} {xs : List Value} (h : RdS w lim 1 (.slice (some ⟨g, o, none⟩) N c) N xs) (hk : k ≤ N) (hA : (if c = k then some (⟨g, o, none⟩ : Addr) else some ⟨g, o + k, none⟩) = some A) : RdS w lim 1 (.slice (some A) (N - k) (c - k)) (N - k) (xs.drop k) := by
  obtain ⟨h1, A', c', e, h3, h4⟩ := h
  injection e with e1 _ e2
  subst e1 e2
  refine ⟨by rw [List.length_drop, h1]; omega, _, _, rfl, by omega, fun h0 => ?_⟩
  obtain ⟨g', o', e, hg, hc⟩ := h4 (by omega)
  injection e with e
  injection e with e1 e2
  subst e1 e2
  rw [if_neg (by omega)] at hA
  refine ⟨g, o + k, hA.symm, hg, fun j u hu => ?_⟩
  rw [List.getElem?_drop] at hu
  rw [Nat.add_assoc]
  exact hc _ u hu
def CtB (L q n6 : Nat) (l6 : List Nat) (w4 wx : World) : Prop := ∃ w6 A6 c6, Below w4.heap.size w4 w6 ∧ w6.ownsRow w4.heap.size 3 1 (.slice A6 n6 c6) n6 (kic l6) ∧ wx = w6.setCell ⟨L, q * 6 + 5, none⟩ (.slice A6 n6 c6)
set_option maxRecDepth 100000 in
set_option maxHeartbeats 16000000 in
theorem c_cut_held {w : World} {B R i q : Nat} {F : Nat → Prop} {T : List Nod} {d : Nat → Nat} {D : List (Value × List Nod)} (h : TS B R T D F w) (hW : WF T d) (hT : T.length ≤ 400) (hi : i < T.length) (hq : (ndA T i).pa = (q : Int)) :
    Calls Tryz.prog 53 #[.pointer (some ⟨R, 0, none⟩), .int .i64 (i : Int)] w (CtRet B R i T D F w) := by
  have hqT : q < T.length := by
    rcases hW.pa i hi with e | ⟨_, e⟩
    · omega
    · rw [hq] at e; exact e
  have hmem : i ∈ (ndA T q).ki := by
    have := hW.up i hi (by omega)
    rw [hq] at this; exact this
  have hqi : q ≠ i := fun e => by
    have := hW.ac i hi (by omega)
    rw [hq] at this
    have e2 : ((q : Int)).toNat = q := rfl
    rw [e2, e] at this
    omega
  have hk4 : (ndA T q).ki.length ≤ 400 := by
    have := nodup_lt _ _ (hW.nd q hqT) (fun x hx => (hW.ki q hqT x hx).1)
    omega
  obtain ⟨L, cap, uv, Z, M, h1, hM⟩ := h
  obtain ⟨y, hy, hyx⟩ := nv_get hM (ndA_get hqT)
  obtain ⟨z, hz, hzx⟩ := nv_get hM (ndA_get hi)
  have H := Lib.hid h1
  have HM := Lib.hid hM
  have HY := Lib.hid hy
  have HZ := Lib.hid hz
  have HYX := Lib.hid hyx
  have HZX := Lib.hid hzx
  have HT := Lib.hid hT
  have HQ := Lib.hid hq
  have HI := Lib.hid hi
  have HQT := Lib.hid hqT
  have HQI := Lib.hid hqi
  have hl : M.length ≤ 400 := by rw [← hM] at hT; simpa using hT
  have hiM := (List.getElem?_eq_some_iff.1 hz).1
  have hqM := (List.getElem?_eq_some_iff.1 hy).1
  have hii : (i : Int) < (M.length : Int) := by omega
  have h0i : 0 ≤ (i : Int) := by omega
  have hqq : (q : Int) < (M.length : Int) := by omega
  have h0q : 0 ≤ (q : Int) := by omega
  have hnq : ¬ (q : Int) < 0 := by omega
  obtain ⟨K, hK⟩ : ∃ K, K = (ndA T q).ki := ⟨_, rfl⟩
  rw [← hK] at hmem hk4
  have HK := Lib.hid hK
  have HMEM := Lib.hid hmem
  have hat : K.idxOf i < K.length := List.idxOf_lt_length_iff.2 hmem
  obtain ⟨at_, hat2⟩ : ∃ a, a = K.idxOf i := ⟨_, rfl⟩
  have HAT := Lib.hid hat2
  rw [← hat2] at hat
  obtain ⟨N, hN⟩ : ∃ N, N = K.length := ⟨_, rfl⟩
  have HN := Lib.hid hN
  rw [← hN] at hat hk4
  have hrk := (h1.ns.rd y (List.mem_of_getElem? hy)).2
  have HRZ := Lib.hid hrk
  have hrd := hrk.toS (lim := w.heap.size) (fun k hz => (h1.ns.z k hz).2.1)
  rw [hyx, ← hK, ← hN] at hrd
  obtain ⟨vk, hvk⟩ : ∃ vk, vk = y.vk := ⟨_, rfl⟩
  have HVK := Lib.hid hvk
  rw [← hvk] at hrd
  obtain ⟨_, A2, c2, rfl, hc2, hcl2⟩ := id hrd
  obtain ⟨g2, o2, rfl, hg2, _⟩ := hcl2 (by omega)
  have HRD := Lib.hid hrd
  obtain ⟨b, hb⟩ : ∃ b, b = w.heap.size := ⟨_, rfl⟩
  obtain ⟨w1, hw1⟩ : ∃ w1, w1 = (w.alloc (.cells #[.pointer (some ⟨R, 0, none⟩)] 23)).alloc (.cells #[.int .i64 (i : Int)] 3) := ⟨_, rfl⟩
  have hbk0 : Bk w1 b 23 #[.pointer (some ⟨R, 0, none⟩)] := by rw [hw1, hb]; exact (Bk.new _ _ _).alloc _
  have hbk1 : Bk w1 (b + 1) 3 #[.int .i64 (i : Int)] := by rw [hw1, hb]; exact bk_new' _ _ _ (by simp)
  have hbl : Below w.heap.size w w1 := by rw [hw1]; exact bl_alloc (bl_alloc (Below.refl _ _) _) _
  have hsz : w1.heap.size = b + 2 := by rw [hw1, hb]; simp
  have h2 := h1.below hbl
  have HS1 := Lib.hid h2
  have HBL := Lib.hid hbl
  have HBK0 := Lib.hid hbk0
  have HBK1 := Lib.hid hbk1
  have HB := Lib.hid hb
  have HSZ := Lib.hid hsz
  have HW1 := Lib.hid hw1
  have hF1 : ∀ W', Below w1.heap.size w1 W' → (W'.cell? ⟨b, 0, none⟩ = some (.pointer (some ⟨R, 0, none⟩)) ∧ W'.cell? ⟨b + 1, 0, none⟩ = some (.int .i64 (i : Int)) ∧ W'.cell? ⟨R, 0, none⟩ = some (.slice (some ⟨L, 0, none⟩) M.length cap) ∧ W'.cell? ⟨L, i * 6 + 4, none⟩ = some (.int .i64 (q : Int))) := fun W' hb => by
    have n1 := h2.ns.below hb
    refine ⟨(hbk0.below hb hbk0.lt).cell 0, (hbk1.below hb hbk1.lt).cell 0, n1.heads.1, ?_⟩
    have := (n1.cell hz).2.2.1
    rw [hzx, hq] at this
    exact this
  have HF1 := Lib.hid hF1
  have HF4 : Hid (∀ W', Below w1.heap.size w1 W' → (W'.cell? ⟨L, q * 6 + 5, none⟩ = some (.slice (some ⟨g2, o2, none⟩) N c2) ∧ W'.cell? ⟨L, i * 6 + 4, none⟩ = some (.int .i64 (q : Int))) ∧ R < W'.heap.size ∧ L < W'.heap.size ∧ (∀ j, W'.frozen? ⟨L, j, none⟩ = false)) := fun W' hb => by
    have n1 := h2.ns.below hb
    refine ⟨⟨?_, (hF1 W' hb).2.2.2⟩, n1.ltR, n1.ltL, n1.free⟩
    have := (n1.cell hy).2.2.2
    rw [← hvk] at this
    exact this
  clear h1 hM hy hz hyx hzx hT hb hw1 hbk0 hbk1 hbl hsz h2 hF1 hq hi hqT hmem hqi hK hrk hrd hvk hW hN hcl2 hiM hqM hat2
  go_enter Tryz.func53, Tryz.ntmps53
  go_upto_region 1 with fail
  rw [← HW1.out, ← HB.out]
  go_cut [5] (fun v5 wx => v5 = .pointer (some ⟨b + 2, 0, none⟩) ∧ Hid (CtMid B R L cap uv Z M T D F (q : Int) b i w wx ∧ Below w1.heap.size w1 wx))
  case first =>
    go_region_held3 (fun w' => w'.cell? ⟨b, 0, none⟩ = some (.pointer (some ⟨R, 0, none⟩)) ∧ w'.cell? ⟨b + 1, 0, none⟩ = some (.int .i64 (i : Int)) ∧ w'.cell? ⟨R, 0, none⟩ = some (.slice (some ⟨L, 0, none⟩) M.length cap) ∧ w'.cell? ⟨L, i * 6 + 4, none⟩ = some (.int .i64 (q : Int)))
      (first | exact HF1.out _ (Below.refl _ _) | exact HF1.out _ (bl_drew (Below.refl _ _)) | exact HF1.out _ (bl_drew (bl_alloc (Below.refl _ _) _)) | exact HF1.out _ (bl_set (bl_drew (bl_alloc (Below.refl _ _) _)) _ _ (by simp) _))
      (fail)
    all_goals
      go_wp2_with fail
      go_meet
      exact ⟨by rw [HSZ.out], ⟨HS1.out.below (bl_drew (bl_alloc (Below.refl _ _) _)), bl_trans HBL.out (bl_drew (bl_alloc (Below.refl _ _) _)), Bk.drew (HBK0.out.alloc _), Bk.drew (HBK1.out.alloc _), Bk.drew (bk_new' _ _ _ HSZ.out.symm)⟩, bl_drew (bl_alloc (Below.refl _ _) _)⟩
  case rest =>
    obtain ⟨rfl, hmid⟩ := hcut
    obtain ⟨⟨hSc, hBc, hb0, hb1, hb2⟩, hB1c⟩ := hmid.out
    obtain ⟨w3, rfl⟩ : ∃ w3 : World, w3 = wc := ⟨_, rfl⟩
    have e2 : w3.cell? ⟨b + 2, 0, none⟩ = some (.int .i64 (q : Int)) := hb2.cell 0
    have l2 := hb2.lt
    have HL2 := Lib.hid l2
    obtain ⟨b3, hb3⟩ : ∃ b3, b3 = w3.heap.size := ⟨_, rfl⟩
    have HB3 := Lib.hid hb3
    have HS3 := Lib.hid hSc
    have HBL3 := Lib.hid hBc
    have HB1C := Lib.hid hB1c
    have HBK03 := Lib.hid hb0
    have HBK13 := Lib.hid hb1
    have HBK23 := Lib.hid hb2
    have HF3 : Hid (∀ W', Below w3.heap.size w3 W' → (W'.cell? ⟨b, 0, none⟩ = some (.pointer (some ⟨R, 0, none⟩)) ∧ W'.cell? ⟨R, 0, none⟩ = some (.slice (some ⟨L, 0, none⟩) M.length cap) ∧ W'.cell? ⟨b + 2, 0, none⟩ = some (.int .i64 (q : Int)) ∧ W'.cell? ⟨L, q * 6 + 5, none⟩ = some (.slice (some ⟨g2, o2, none⟩) N c2))) := fun W' hb => by
      obtain ⟨p0, p1, p2, p3⟩ := HF1.out W' (bl_trans HB1C.out hb)
      exact ⟨p0, p2, (HBK23.out.below hb HBK23.out.lt).cell 0, (HF4.out W' (bl_trans HB1C.out hb)).1.1⟩
    clear hSc hBc hb0 hb1 hb2 hmid hB1c hb3 HBK0 HBK1 HBL HS1 HW1
    go_upto_region 4 with fail
    clear e2 l2
    go_cut [6] (fun v6 wx => v6 = .pointer (some ⟨b3, 0, none⟩) ∧ Hid (CtA B R L cap uv Z M T D F q b b3 i (.slice (some ⟨g2, o2, none⟩) N c2) w wx ∧ Below w3.heap.size w3 wx))
    case first =>
      go_region_held3 (fun w' => w'.cell? ⟨b, 0, none⟩ = some (.pointer (some ⟨R, 0, none⟩)) ∧ w'.cell? ⟨R, 0, none⟩ = some (.slice (some ⟨L, 0, none⟩) M.length cap) ∧ w'.cell? ⟨b + 2, 0, none⟩ = some (.int .i64 (q : Int)) ∧ w'.cell? ⟨L, q * 6 + 5, none⟩ = some (.slice (some ⟨g2, o2, none⟩) N c2))
        (first | exact HF3.out _ (Below.refl _ _) | exact HF3.out _ (bl_drew (Below.refl _ _)) | exact HF3.out _ (bl_drew (bl_alloc (Below.refl _ _) _)) | exact HF3.out _ (bl_set (bl_drew (bl_alloc (Below.refl _ _) _)) _ _ (by simp) _))
        (fail)
      all_goals
        go_wp2_with fail
        go_meet
        exact ⟨by rw [HB3.out], ⟨HS3.out.below (bl_drew (bl_alloc (Below.refl _ _) _)), bl_trans HBL3.out (bl_drew (bl_alloc (Below.refl _ _) _)), Bk.drew (HBK03.out.alloc _), Bk.drew (HBK13.out.alloc _), Bk.drew (HBK23.out.alloc _), Bk.drew (bk_new' _ _ _ HB3.out)⟩, bl_drew (bl_alloc (Below.refl _ _) _)⟩
    case rest =>
      obtain ⟨rfl, hmid⟩ := hcut
      obtain ⟨⟨hSc, hBc, hb0, hb1, hb2, hb3⟩, hB3c⟩ := hmid.out
      obtain ⟨w4, rfl⟩ : ∃ w4 : World, w4 = wc := ⟨_, rfl⟩
      have HS4 := Lib.hid hSc
      have HBL4 := Lib.hid hBc
      have HB34 := Lib.hid hB3c
      have HBK04 := Lib.hid hb0
      have HBK14 := Lib.hid hb1
      have HBK24 := Lib.hid hb2
      have HBK34 := Lib.hid hb3
      have HBW3 : Hid (b + 2 < w3.heap.size) := HL2.out
      have e1 : w4.cell? ⟨b + 1, 0, none⟩ = some (.int .i64 (i : Int)) := hb1.cell 0
      have e3 : w4.cell? ⟨b3, 0, none⟩ = some (.slice (some ⟨g2, o2, none⟩) N c2) := hb3.cell 0
      have l3 := hb3.lt
      have l1 := hb1.lt
      have HRD4 : Hid (RdS w4 w.heap.size 1 (.slice (some ⟨g2, o2, none⟩) N c2) N (kic K)) := HRD.out.below hBc
      have HIX := Lib.hid (c_Index HRD4.out (by omega) hBc.size HMEM.out)
      rw [← HAT.out] at HIX
      have HF5 : Hid (∀ W', Below w4.heap.size w4 W' → (W'.cell? ⟨b, 0, none⟩ = some (.pointer (some ⟨R, 0, none⟩)) ∧ W'.cell? ⟨R, 0, none⟩ = some (.slice (some ⟨L, 0, none⟩) M.length cap) ∧ W'.cell? ⟨b + 2, 0, none⟩ = some (.int .i64 (q : Int)) ∧ W'.cell? ⟨b3, 0, none⟩ = some (.slice (some ⟨g2, o2, none⟩) N c2))) := fun W' hb => by
        obtain ⟨p0, p1, p2, _⟩ := HF3.out W' (bl_trans HB34.out hb)
        exact ⟨p0, p1, p2, (HBK34.out.below hb HBK34.out.lt).cell 0⟩
      have HF6 : Hid (∀ W', Below w4.heap.size w4 W' → W'.cell? ⟨L, q * 6 + 5, none⟩ = some (.slice (some ⟨g2, o2, none⟩) N c2) ∧ L < W'.heap.size ∧ (∀ j, W'.frozen? ⟨L, j, none⟩ = false)) := fun W' hb => by
        obtain ⟨⟨p0, _⟩, _, p2, p3⟩ := HF4.out W' (bl_trans HB1C.out (bl_trans HB34.out hb))
        exact ⟨p0, p2, p3⟩
      clear hSc hBc hb0 hb1 hb2 hb3 hmid hB3c HF3 HBK03 HBK13 HBK23 HS3
      go_upto_region 6 with (go_at_call 68; refine (HIX.out).mono ?_; rintro e w' ⟨rfl, rfl⟩)
      obtain ⟨A3, hA3⟩ : ∃ A3 : Addr, (if c2 = at_ + 1 then some (⟨g2, o2, none⟩ : Addr) else some ⟨g2, o2 + (at_ + 1), none⟩) = some A3 := by
        by_cases he : c2 = at_ + 1
        · exact ⟨_, by rw [if_pos he]⟩
        · exact ⟨_, by rw [if_neg he]⟩
      have hac : at_ ≤ c2 := by omega
      have ha1 : at_ + 1 ≤ N := by omega
      have ha2 : (0 : Int) ≤ (at_ : Int) + 1 := by omega
      have ha3 : (at_ : Int) + 1 ≤ (N : Int) := by omega
      have va1 : IntKind.i64.wrap ((at_ : Int) + 1) = (at_ : Int) + 1 := IntWalk.i64_in _ (by omega)
      have HCL : Hid (∀ W', Below w4.heap.size w4 W' → Calls Tryz.prog 47 #[.slice (some ⟨g2, o2, none⟩) at_ c2] W' (ClRetI W' at_ (kic (K.take at_)))) := fun W' hb => by
        have hr := rds_take (k := at_) (HRD4.out.below (hb.mono HBL4.out.size)) (by omega)
        have e : (kic K).take at_ = kic (K.take at_) := by simp [kic, List.map_take]
        rw [e] at hr
        exact c_CloneI hr (one_kic _) (by omega) (Nat.le_trans HBL4.out.size hb.size)
      have HDR : Hid (∀ W', Below w4.heap.size w4 W' → RdS W' w.heap.size 1 (.slice (some A3) (N - (at_ + 1)) (c2 - (at_ + 1))) (N - (at_ + 1)) (kic (K.drop (at_ + 1)))) := fun W' hb => by
        have hr := rds_drop (k := at_ + 1) (HRD4.out.below (hb.mono HBL4.out.size)) ha1 hA3
        have e : (kic K).drop (at_ + 1) = kic (K.drop (at_ + 1)) := by simp [kic, List.map_drop]
        rw [e] at hr
        exact hr
      obtain ⟨n6, hn6⟩ : ∃ n6, at_ + (N - (at_ + 1)) = n6 := ⟨_, rfl⟩
      have HN6 := Lib.hid hn6
      have HER : Hid (kic (K.take at_) ++ kic (K.drop (at_ + 1)) = kic (K.erase i)) := by
        unfold Hid; rw [erase_split, ← HAT.out]; simp [kic]
      have HNL : Hid (b ≠ L ∧ R ≠ L ∧ b + 2 ≠ L ∧ b3 ≠ L) := by
        have h1 := (H.out.ns.ex (k := L) (.inr (.inl rfl))).2
        have h2 := HB.out
        have h3 := H.out.ns.geo.2.2
        have h4 := HB3.out
        have h5 := HBL3.out.size
        exact ⟨by omega, h3, by omega, by omega⟩
      have HFS : Hid (∀ W' u, Below w4.heap.size w4 W' → ((W'.setCell ⟨L, q * 6 + 5, none⟩ u).cell? ⟨b, 0, none⟩ = some (.pointer (some ⟨R, 0, none⟩)) ∧ (W'.setCell ⟨L, q * 6 + 5, none⟩ u).cell? ⟨R, 0, none⟩ = some (.slice (some ⟨L, 0, none⟩) M.length cap) ∧ (W'.setCell ⟨L, q * 6 + 5, none⟩ u).cell? ⟨b + 2, 0, none⟩ = some (.int .i64 (q : Int)) ∧ (W'.setCell ⟨L, q * 6 + 5, none⟩ u).cell? ⟨b3, 0, none⟩ = some (.slice (some ⟨g2, o2, none⟩) N c2))) := fun W' u hb => by
        obtain ⟨p0, p1, p2, p3⟩ := HF5.out W' hb
        obtain ⟨n0, n1, n2, n3⟩ := HNL.out
        have key : ∀ k, k ≠ L → (W'.setCell ⟨L, q * 6 + 5, none⟩ u).heap[k]? = W'.heap[k]? := fun k hk => Below.heap_setCell W' ⟨L, q * 6 + 5, none⟩ u k hk
        exact ⟨(World.cell?_of_block (a := ⟨b, 0, none⟩) (key b n0)).trans p0, (World.cell?_of_block (a := ⟨R, 0, none⟩) (key R n1)).trans p1, (World.cell?_of_block (a := ⟨b + 2, 0, none⟩) (key _ n2)).trans p2, (World.cell?_of_block (a := ⟨b3, 0, none⟩) (key _ n3)).trans p3⟩
      clear e1 e3 l3 l1 hn6
      go_cut [43] (fun _ wx => Hid (CtB L q n6 (K.erase i) w4 wx))
      case first =>
        obtain ⟨s0, s1, s2, s3⟩ := HF5.out w4 (Below.refl _ _)
        go_region_held3 (fun w' => w'.cell? ⟨b, 0, none⟩ = some (.pointer (some ⟨R, 0, none⟩)) ∧ w'.cell? ⟨R, 0, none⟩ = some (.slice (some ⟨L, 0, none⟩) M.length cap) ∧ w'.cell? ⟨b + 2, 0, none⟩ = some (.int .i64 (q : Int)) ∧ w'.cell? ⟨b3, 0, none⟩ = some (.slice (some ⟨g2, o2, none⟩) N c2))
          (first | with_reducible exact HF5.out _ (Below.refl _ _) | with_reducible exact HF5.out _ (bl_drew (Below.refl _ _)) | with_reducible exact HF5.out _ HB5.out | with_reducible exact HF5.out _ HB6.out | with_reducible exact HFS.out _ _ HB6.out)
          (first
            | (go_at_call 47; (with_reducible refine (HCL.out _ (bl_drew (Below.refl _ _))).mono ?_); rintro e w5 ⟨v5, rfl, ho5, hb5⟩; have HO5 := Lib.hid ho5; have HB5 : Hid (Below w4.heap.size w4 w5) := bl_trans (bl_drew (Below.refl _ _)) hb5; clear ho5 hb5)
            | (refine step_spread rfl (.tmp 38) (.tmp 42) 38 rfl w4.heap.size 3 Tryz.underlying38 inf_I rfl (by decide) _ at_ (kic (K.take at_)) (by rfl) HO5.out w.heap.size (.slice (some A3) (N - (at_ + 1)) (c2 - (at_ + 1))) (N - (at_ + 1)) (kic (K.drop (at_ + 1))) (by rfl) (HDR.out _ HB5.out) (one_kic _) (by unfold maxLen; omega) (by omega) HB5.out.size ?_; intro v6 w6 ho6 hg6 hat6; rw [HN6.out, HER.out] at ho6; obtain ⟨_, A6, c6, rfl, _, _⟩ := RdS.of_own ho6; have HB6 : Hid (Below w4.heap.size w4 w6) := HB5.out.grown hg6 HB5.out.size (fun k hk => (own_lt HO5.out hk).1); have HO6 := Lib.hid ho6; obtain ⟨p0, p1, p2⟩ := HF6.out w6 HB6.out; have p3 := p2 (q * 6 + 5); clear ho6 hg6 hat6 p2))
        all_goals
          go_wp2_with fail
          go_meet
          exact ⟨_, _, _, HB6.out, HO6.out, rfl⟩
      case rest =>
        obtain ⟨w6, A6, c6, hb6, ho6, hwc⟩ := hcut.out
        clear hcut HF5 HCL HDR HF6 HFS HIX hA3 HER
        obtain ⟨P, hP⟩ : ∃ P : Nat → Prop, P = fun k => k = b ∨ k = b + 1 ∨ k = b + 2 ∨ k = b3 ∨ (Value.slice A6 n6 c6).ownBlock = some k := ⟨_, rfl⟩
        have hbw : b = w.heap.size := HB.out
        have hb3w : b3 = w3.heap.size := HB3.out
        have hs3 := HBL3.out.size
        have hs34 := HB34.out.size
        have hs46 := hb6.size
        have hsz1 : b + 2 < w3.heap.size := by have := HBK24.out; have h1 := HB1C.out.size; have h2 := HSZ.out; have := HB3.out; have h5 := HBW3.out; omega
        have hb3l : b3 < w4.heap.size := HBK34.out.lt
        have hexb : ∀ k, exT R L uv k → k < b := fun k hk => by have := (H.out.ns.ex hk).2; omega
        have hBb : B ≤ b := by have := H.out.ns.geo.1; have := H.out.ns.ltR; omega
        have hPz : ∀ k, P k → B ≤ k ∧ k < w6.heap.size ∧ ¬ exT R L uv k := fun k hk => by
          rw [hP] at hk
          rcases hk with rfl | rfl | rfl | rfl | hk
          · exact ⟨hBb, by omega, fun e => by have := hexb _ e; omega⟩
          · exact ⟨by omega, by omega, fun e => by have := hexb _ e; omega⟩
          · exact ⟨by omega, by omega, fun e => by have := hexb _ e; omega⟩
          · exact ⟨by omega, by omega, fun e => by have := hexb _ e; omega⟩
          · have := own_lt ho6 hk
            exact ⟨by omega, this.2, fun e => by have := hexb _ e; omega⟩
        have hS6 := HS4.out.below hb6
        have hSz := hS6.wideZ P hPz
        have hln : (K.erase i).length = n6 := by
          have := ho6.1
          rw [kic_len] at this; omega
        have hrv : RdZ w6 (fun k => Z k ∨ P k) 1 (.slice A6 n6 c6) (K.erase i).length (kic (K.erase i)) := by
          rw [hln]
          exact RdZ.of_own ho6 (fun g hg => .inr (by rw [hP]; exact .inr (.inr (.inr (.inr hg)))))
        have hSn := hSz.setN HY.out 5 (by omega) (.slice A6 n6 c6) (setKi_cells y (.slice A6 n6 c6) (K.erase i)) ⟨(hSz.ns.rd y (List.mem_of_getElem? HY.out)).1, hrv⟩
        rw [← hwc] at hSn
        obtain ⟨w7, hw7⟩ : ∃ w7, w7 = wc.drew := ⟨_, rfl⟩
        have hS7 := hSn.below (bl_drew (Below.refl _ wc))
        rw [← hw7] at hS7
        have hLb : L < b := hexb L (.inr (.inl rfl))
        have hk7 : ∀ k, k ≠ L → w7.heap[k]? = w6.heap[k]? := fun k hk => by
          rw [hw7, hwc]; exact Below.heap_setCell w6 ⟨L, q * 6 + 5, none⟩ _ k hk
        have hbk0 : Bk w7 b 23 #[.pointer (some ⟨R, 0, none⟩)] := (hk7 b (by omega)).trans (Bk.below HBK04.out hb6 HBK04.out.lt)
        have hbk1 : Bk w7 (b + 1) 3 #[.int .i64 (i : Int)] := (hk7 (b + 1) (by omega)).trans (Bk.below HBK14.out hb6 HBK14.out.lt)
        have hbk2 : Bk w7 (b + 2) 3 #[.int .i64 (q : Int)] := (hk7 (b + 2) (by omega)).trans (Bk.below HBK24.out hb6 HBK24.out.lt)
        have hbk3 : Bk w7 b3 38 #[.slice (some ⟨g2, o2, none⟩) N c2] := (hk7 b3 (by omega)).trans (Bk.below HBK34.out hb6 HBK34.out.lt)
        have hz1 : (M.set q (setKi y (.slice A6 n6 c6) (K.erase i)))[i]? = some z := by rw [List.getElem?_set, if_neg HQI.out]; exact HZ.out
        have hz2 := hz1
        obtain ⟨g0, _⟩ := hS7.ns.heads
        have hr := hS7.ns.ltR
        have hrL := hS7.ns.ltL
        obtain ⟨_, _, a4, _⟩ := hS7.ns.cell hz1
        have f4 := hS7.ns.free (i * 6 + 4)
        have e0 : w7.cell? ⟨b, 0, none⟩ = some (.pointer (some ⟨R, 0, none⟩)) := hbk0.cell 0
        have e1 : w7.cell? ⟨b + 1, 0, none⟩ = some (.int .i64 (i : Int)) := hbk1.cell 0
        have l1 := hbk1.lt
        rw [List.length_set] at g0
        obtain ⟨pa, hpa⟩ : ∃ pa, pa = z.x.pa := ⟨_, rfl⟩
        rw [← hpa] at a4
        have HS7 := Lib.hid hS7
        have HW7 := Lib.hid hw7
        have HWC := Lib.hid hwc
        have HPP := Lib.hid hP
        have HBK0 := Lib.hid hbk0
        have HBK1 := Lib.hid hbk1
        have HBK2 := Lib.hid hbk2
        have HBK3 := Lib.hid hbk3
        have HZ1 := Lib.hid hz1
        have HB6 := Lib.hid hb6
        have HO6 := Lib.hid ho6
        have HK7 := Lib.hid hk7
        have HLN := Lib.hid hln
        clear hb6 ho6 hwc hP hbw hb3w hs3 hs34 hs46 hsz1 hb3l hexb hBb hPz hS6 hSz hln hrv hSn hw7 hS7 hLb hk7 hbk0 hbk1 hbk2 hbk3 hz1 hz2 hpa
        go_upto_region 7 with fail
        refine wp_region_still_tail 7 (by kernel_rfl) (by kernel_rfl) ?_
        simp only [List.take_succ_cons, List.take_zero, List.drop_succ_cons, List.drop_zero]
        change wpStill _ _ (World.drew _) _ _ _
        rw [← HW7.out]
        repeat still_step
        refine wpStill_nil ?_
        change wpList _ _ _ _ _ (World.drew _)
        rw [← HW7.out]
        go_wp2_with fail
        go_ret
        have hqp := HQ.out
        have hLb : L < b := by have := (H.out.ns.ex (k := L) (.inr (.inl rfl))).2; have := HB.out; omega
        obtain ⟨w8, hw8⟩ : ∃ w8, w8 = w7.setCell ⟨L, i * 6 + 4, none⟩ (.int .i64 (-1)) := ⟨_, rfl⟩
        have h8 := HS7.out.setN HZ1.out 4 (by omega) _ (setPa_cells z (-1)) (HS7.out.ns.rd z (List.mem_of_getElem? HZ1.out))
        rw [← hw8] at h8 ⊢
        have hk8 : ∀ k, k ≠ L → w8.heap[k]? = w7.heap[k]? := fun k hk => by rw [hw8]; exact Below.heap_setCell w7 ⟨L, i * 6 + 4, none⟩ _ k hk
        have hn3 : b3 ≠ L := HNL.out.2.2.2
        have b0 : Bk w8 b 23 #[.pointer (some ⟨R, 0, none⟩)] := (hk8 b (by omega)).trans HBK0.out
        have b1 : Bk w8 (b + 1) 3 #[.int .i64 (i : Int)] := (hk8 (b + 1) (by omega)).trans HBK1.out
        have b2 : Bk w8 (b + 2) 3 #[.int .i64 (q : Int)] := (hk8 (b + 2) (by omega)).trans HBK2.out
        have b3' : Bk w8 b3 38 #[.slice (some ⟨g2, o2, none⟩) N c2] := (hk8 b3 hn3).trans HBK3.out
        have hbl6 : Below w.heap.size w w6 := bl_trans HBL4.out HB6.out
        have hrz : RdZ w8 (fun k => Z k ∨ P k) 1 (.slice (some ⟨g2, o2, none⟩) N c2) (ndA T q).ki.length (kic (ndA T q).ki) := by
          have h1 := HRZ.out
          rw [← HVK.out, HYX.out] at h1
          refine h1.keep (fun k hz => ?_) (fun k hz => .inl hz)
          have hz2 := H.out.ns.z k hz
          have hkL : k ≠ L := fun e => hz2.2.2 (.inr (.inl e))
          exact (hk8 k hkL).trans ((HK7.out k hkL).trans (hbl6.block k hz2.2.1))
        have pz : ∀ k, (k = b ∨ k = b + 1 ∨ k = b + 2 ∨ k = b3 ∨ (Value.slice A6 n6 c6).ownBlock = some k) → Z k ∨ P k := fun k hk => .inr (by rw [HPP.out]; exact hk)
        refine ⟨_, L, cap, uv, _, _, _, rfl, h8, ?_, fun k hk hf => ?_, ?_, fun q' => ?_⟩
        · rw [List.map_set, List.map_set, HM.out, cutE_held hqp]
          have e1 : (setKi y (.slice A6 n6 c6) (K.erase i)).x = kidN (ndA T q) ((ndA T q).ki.erase i) := by
            show ({ y.x with ki := K.erase i } : Nod) = _
            rw [HYX.out, HK.out]; rfl
          have e2 : (setPa z (-1)).x = { ndA T i with pa := -1 } := by
            show ({ z.x with pa := -1 } : Nod) = _
            rw [HZX.out]
          rw [e1, e2]
        · rcases hf with hf | hf
          · exact hf
          · exfalso
            have h1 := HB.out
            have h2 := HBL3.out.size
            have h3 := HB3.out
            have h4 := HB34.out.size
            rw [HPP.out] at hf
            rcases hf with e | e | e | e | e
            · omega
            · omega
            · omega
            · omega
            · have := (own_lt HO6.out e).1; omega
        · rw [hw8, HW7.out, HWC.out]
          exact ((((Kept.of_below hbl6 F).set_ L _ (fun _ => H.out.f L (.inl (.inr (.inl rfl)))) _).drew).set_ L _ (fun _ => H.out.f L (.inl (.inr (.inl rfl)))) _)
        · exact u_cut2 HI.out HQT.out hqp HQI.out HT.out b0 b1 b2 b3' hrz (pz _ (.inl rfl)) (pz _ (.inr (.inl rfl))) (pz _ (.inr (.inr (.inl rfl)))) (pz _ (.inr (.inr (.inr (.inl rfl)))))
end Go.Proofs.YtimlmekgapdkiaaGreatDoor
