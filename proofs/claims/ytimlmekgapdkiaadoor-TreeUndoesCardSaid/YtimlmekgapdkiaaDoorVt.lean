/- the law TreeUndoes: its walk -/
import Derived.Test.YtimlmekgapdkiaaDoorVs
namespace Go.Proofs.YtimlmekgapdkiaaDoor
set_option linter.unusedVariables false
set_option linter.unusedSimpArgs false
open Go.RowKit Go.Cas

/-- a change as the law is told it -/
structure OpX where
  k : Int
  a : Int
  b : Int
  c : Int
  s : ByteArray
  t : ByteArray
def opc (o : OpX) : List Value := [.int .i64 o.k, .int .i64 o.a, .int .i64 o.b, .int .i64 o.c, .string o.s, .string o.t]
theorem opc_len (L : List OpX) : (L.flatMap opc).length = L.length * 6 := by
  induction L with
  | nil => rfl
  | cons a l ih => rw [List.flatMap_cons, List.length_append, ih]; simp [opc]; omega
theorem rd_op {w : World} {lim n k : Nat} {A : Option Addr} {c : Nat} {L : List OpX} {y : OpX} (h : RdS w lim 6 (.slice A n c) n (L.flatMap opc)) (hp : L[k]? = some y) : ∃ g o, A = some ⟨g, o, none⟩ ∧ g < lim ∧ ∀ w', Below lim w w' →
    (w'.cell? ⟨g, o + k * 6, none⟩ = some (.int .i64 y.k) ∧ w'.cell? ⟨g, o + k * 6 + 1, none⟩ = some (.int .i64 y.a) ∧ w'.cell? ⟨g, o + k * 6 + 2, none⟩ = some (.int .i64 y.b) ∧ w'.cell? ⟨g, o + k * 6 + 3, none⟩ = some (.int .i64 y.c) ∧ w'.cell? ⟨g, o + k * 6 + 4, none⟩ = some (.string y.s) ∧ w'.cell? ⟨g, o + k * 6 + 5, none⟩ = some (.string y.t)) := by
  have hl : L.length = n := by have h1 := h.1; rw [opc_len] at h1; omega
  have hk := (List.getElem?_eq_some_iff.1 hp).1
  obtain ⟨_, A', c', e, _, hc⟩ := h
  injection e with e1 _ e2
  subst e1 e2
  obtain ⟨g, o, e, hg, hcell⟩ := hc (by omega)
  refine ⟨g, o, e, hg, fun w' hb => ?_⟩
  have key : ∀ j, j < 6 → ∀ u, (opc y)[j]? = some u → w'.cell? ⟨g, o + k * 6 + j, none⟩ = some u := fun j hj u hu => by
    have := hcell (k * 6 + j) u (by rw [flat_get opc 6 (fun _ => rfl) L k j y hp hj]; exact hu)
    rw [← Nat.add_assoc] at this
    exact (hb.cell (p := ⟨g, _, none⟩) hg).trans this
  exact ⟨key 0 (by omega) _ rfl, key 1 (by omega) _ rfl, key 2 (by omega) _ rfl, key 3 (by omega) _ rfl, key 4 (by omega) _ rfl, key 5 (by omega) _ rfl⟩
/-- where undoing all leads -/
def bot : List Nod → List (Value × List Nod) → List Nod
  | T, [] => T
  | _, q :: D => bot q.2 D
/-- a tree after i changes -/
structure UdL (B R : Nat) (T : List Nod) (D : List (Value × List Nod)) (F : Nat → Prop) (i : Nat) (w wr : World) : Prop where
  ts : TS B R T D F wr
  gd : Gd T (i + 2)
  gds : ∀ p ∈ D, Gd p.2 (i + 2)
  dl : D.length ≤ i + 1
  kp : Below B w wr
theorem UdL.step {B R i : Nat} {k : Int} {T T' : List Nod} {D D' : List (Value × List Nod)} {F F' : Nat → Prop} {w wr w' : World} (h : UdL B R T D F i w wr) (hB : B ≤ wr.heap.size) (ht : TS B R T' D' F' w') (hk : Kept wr w' F) (hp : PStep k (i + 2) T D T' D') : UdL B R T' D' F' (i + 1) w w' := by
  have hb : Below B w w' := h.kp.trans (hk.below fun k hk => ⟨Nat.lt_of_lt_of_le hk hB, fun e => by have := (h.ts.fb e).1; omega⟩)
  have hdl := h.dl
  rcases hp with ⟨rfl, rfl⟩ | ⟨u, rfl, hg⟩ | ⟨u, rfl⟩ | ⟨_, rfl, rfl⟩
  · exact ⟨ht, h.gd.mono (by omega), fun p hp => (h.gds p hp).mono (by omega), by omega, hb⟩
  · refine ⟨ht, hg, fun p hp => ?_, by simp; omega, hb⟩
    rcases List.mem_cons.1 hp with rfl | hp
    · exact h.gd.mono (by omega)
    · exact (h.gds p hp).mono (by omega)
  · refine ⟨ht, (h.gds _ (List.mem_cons_self ..)).mono (by omega), fun p hp => (h.gds p (List.mem_cons_of_mem _ hp)).mono (by omega), by simp at hdl; omega, hb⟩
  · exact ⟨ht, h.gd.mono (by omega), fun p hp => (by cases hp), Nat.zero_le _, hb⟩
theorem PStep.bot {k : Int} {n : Nat} {T T' : List Nod} {D D' : List (Value × List Nod)} (h : PStep k n T D T' D') (hk : k ≠ 10) : bot T' D' = bot T D ∧ D'.length ≤ D.length + 1 := by
  rcases h with ⟨rfl, rfl⟩ | ⟨u, rfl, _⟩ | ⟨u, rfl⟩ | ⟨e, _⟩
  · exact ⟨rfl, by omega⟩
  · exact ⟨rfl, by simp⟩
  · exact ⟨rfl, by simp; omega⟩
  · exact absurd e hk
/-- the same, after the look at T0 -/
structure UdM (B R : Nat) (T0 T : List Nod) (D : List (Value × List Nod)) (F : Nat → Prop) (Z : Nat → Prop) (v : Value) (i : Nat) (w wr : World) : Prop where
  l : UdL B R T D F i w wr
  bt : bot T D = T0
  lk : LookZ wr Z v T0
  z : ∀ k, Z k → k < wr.heap.size ∧ ¬ F k
theorem UdM.step {B R i : Nat} {k : Int} {T0 T T' : List Nod} {D D' : List (Value × List Nod)} {F F' Z : Nat → Prop} {v : Value} {w wr w' : World} (h : UdM B R T0 T D F Z v i w wr) (hB : B ≤ wr.heap.size) (ht : TS B R T' D' F' w') (hf : ∀ k, k < wr.heap.size → F' k → F k) (hk : Kept wr w' F) (hp : PStep k (i + 2) T D T' D') (h10 : k ≠ 10) : UdM B R T0 T' D' F' Z v (i + 1) w w' :=
  ⟨h.l.step hB ht hk hp, (hp.bot h10).1.trans h.bt, h.lk.keep (fun k hz => hk.block k (h.z k hz).1 (h.z k hz).2), fun k hz => ⟨Nat.lt_of_lt_of_le (h.z k hz).1 hk.size, fun e => (h.z k hz).2 (hf k (h.z k hz).1 e)⟩⟩
theorem UdM.drop {B R i : Nat} {u : Value} {T0 T T' : List Nod} {D : List (Value × List Nod)} {F Z : Nat → Prop} {v : Value} {w wr w' : World} (h : UdM B R T0 T ((u, T') :: D) F Z v i w wr) (hB : B ≤ wr.heap.size) (ht : TS B R T' D F w') (hk : Kept wr w' F) : UdM B R T0 T' D F Z v (i + 1) w w' :=
  h.step hB ht (fun _ _ h => h) hk (k := 0) (.inr (.inr (.inl ⟨u, rfl⟩))) (by decide)
theorem Gd.ki {T : List Nod} {n : Nat} (h : Gd T n) (j : Nat) : (ndA T j).ki.length ≤ 400 := by
  by_cases hj : j < T.length
  · obtain ⟨d, hd⟩ := h.wf
    have := nodup_lt _ _ (hd.nd j hj) (fun k hk => (hd.ki j hj k hk).1)
    have := h.len
    omega
  · have : ndA T j = n0 := by unfold ndA; rw [List.getD_eq_getElem?_getD, List.getElem?_eq_none (by omega)]; rfl
    rw [this]
    exact Nat.zero_le _
theorem gd_root : Gd [root0] 1 := by
  have h : Gd ([] : List Nod) 0 := ⟨⟨fun _ => 0, ⟨fun i hi => absurd hi (Nat.not_lt_zero _), fun i hi => absurd hi (Nat.not_lt_zero _), fun i hi => absurd hi (Nat.not_lt_zero _), fun i hi => absurd hi (Nat.not_lt_zero _), fun i hi => absurd hi (Nat.not_lt_zero _)⟩⟩, Nat.zero_le _, fun j => Nat.le_of_eq rfl⟩
  exact h.add (by decide) rfl rfl rfl
theorem gd_el (tag : ByteArray) : Gd ([root0] ++ [newN 2 tag ByteArray.empty]) 2 := gd_root.add (by decide) rfl rfl rfl
theorem opc_agg (o : OpX) : Value.agg (opc o).toArray = opV o.k o.a o.b o.c o.s o.t := rfl
set_option maxRecDepth 100000 in
set_option maxHeartbeats 16000000 in
theorem W_treeUndoes {w : World} {v : Value} {n : Nat} {L : List OpX} {p : Nat → Addr} (hr : RdS w w.heap.size 6 v n (L.flatMap opc)) (hn : L.length = n) (hn2 : n ≤ maxLen) (hm : ∀ o ∈ L, o.s.size ≤ maxLen ∧ o.t.size ≤ maxLen) (hG : GE w w.heap.size p) (k : Int) :
    Calls Tryd.prog 6 #[v, .int .i64 k] w fun e w' => e = .returned (.bool true) ∧ Below w.heap.size w w' := by
  have HR := Lib.hid hr
  have HN := Lib.hid hn
  have HM := Lib.hid hm
  have HG := Lib.hid hG
  obtain ⟨_, A, c, rfl, _, _⟩ := hr
  unfold maxLen at hn2
  have hni : (n : Int) ≤ 9223372036854775807 := by omega
  have HNW := Lib.hid (c_New w)
  clear hn hn2 hm hG
  have HA : isNm (ByteArray.mk #[97]) = true := by decide
  go_enter Tryd.func6, Tryd.ntmps6
  go_upto_region 4 with (go_at_call 16; refine (HNW.out).mono ?_; rintro e w1 ⟨R, F, rfl, hts, hb⟩; have HTS := Lib.hid hts; have HB1 := Lib.hid hb; clear hts hb)
  have HEL := Lib.hid (c_Element HTS.out (by decide) (ByteArray.mk #[97]) (by decide) (by decide) HA)
  go_upto_region 5 with (go_at_call 17; refine (HEL.out).mono ?_; rintro e w2 ⟨he, u, F2, hts, _, hk⟩; obtain rfl : e = .returned (.tuple #[.int .i64 1, .nilIface]) := he; have HTS2 := Lib.hid hts; have HK2 := Lib.hid hk; clear hts hk)
  have HU0 : Hid (UdL w.heap.size R ([root0] ++ [newN 2 (ByteArray.mk #[97]) ByteArray.empty]) [(u, [root0])] F2 0 w w2) := ⟨HTS2.out, gd_el _, fun p hp => (by obtain rfl := List.mem_singleton.1 hp; exact gd_root.mono (by decide)), Nat.le_refl _, HB1.out.trans (HK2.out.below fun k hk => ⟨Nat.lt_of_lt_of_le hk HB1.out.size, fun e => by have := (HTS.out.fb e).1; omega⟩)⟩
  have HSZ : Hid (Calls Tryd.prog 18 #[.pointer (some ⟨R, 0, none⟩)] w2 fun e w' => e = .returned (.int .i64 2) ∧ w2 = w') := c_Size HTS2.out
  go_wp2_with (go_at_call 18; refine (HSZ.out).mono ?_; rintro e w' ⟨rfl, rfl⟩)
  go_loopw [8] (fun c wr => ∃ (i : Nat) (T : List Nod) (D : List (Value × List Nod)) (F : Nat → Prop), i ≤ n ∧ i ≤ 60 ∧ c = .int .i64 (i : Int) ∧ Hid (UdL w.heap.size R T D F i w wr)) (fun c _ => n - (intOf c).toNat)
  case atStart => exact ⟨0, _, _, _, by omega, by omega, rfl, HU0.out⟩
  case round =>
    obtain ⟨i, T, D, F, hi, hi60, rfl, HU⟩ := hrel
    by_cases hlt : i < n
    case neg =>
      have hil : ¬ (i : Int) < (n : Int) := by omega
      go_wp2_with fail
      go_ret
      exact ⟨rfl, HU.out.kp⟩
    by_cases h60 : i < 60
    case neg =>
      have hil : (i : Int) < (n : Int) := by omega
      have hil2 : ¬ (i : Int) < 60 := by omega
      go_wp2_with fail
      go_ret
      exact ⟨rfl, HU.out.kp⟩
    have hil : (i : Int) < (n : Int) := by omega
    have hil2 : (i : Int) < 60 := by omega
    by_cases hik : (i : Int) = k
    case neg =>
      have hikb : ((i : Int) == k) = false := by rw [beq_eq_false_iff_ne]; exact hik
      obtain ⟨y, hy⟩ : ∃ y, L[i]? = some y := ⟨_, List.getElem?_eq_getElem (by have := HN.out; omega)⟩
      obtain ⟨g, o, rfl, hg, hcell⟩ := rd_op HR.out hy
      obtain ⟨d0, d1, d2, d3, d4, d5⟩ := hcell wr HU.out.kp
      have HPL := Lib.hid (c_play HU.out.ts (HG.out.below HU.out.kp) (by have := HU.out.dl; omega) HU.out.gd (by omega) y.k y.a y.b y.c y.s y.t (HM.out y (List.mem_of_getElem? hy)).1 (HM.out y (List.mem_of_getElem? hy)).2)
      unfold opV at HPL
      clear hcell hy
      go_wp2_with (go_at_call 21; refine (HPL.out).mono ?_; rintro e w' ⟨⟨u, rfl⟩, T', D', F', hts, hf, hk, hp⟩; have HTS := Lib.hid hts; have HK := Lib.hid hk; have HP := Lib.hid hp; clear hts hk hp hf)
      go_roundw
      case rel => exact ⟨i + 1, T', D', F', by omega, by omega, by go_num, HU.out.step HU.out.kp.size HTS.out HK.out HP.out⟩
      case measure => simp [intOf]; omega
    subst hik
    have HST := Lib.hid (c_Settle HU.out.ts)
    go_upto_block 2 with (first
      | (go_at_call 19; refine (HST.out).mono ?_; rintro e ws ⟨⟨u, rfl⟩, hts, hks⟩; have HTSs := Lib.hid hts; have HKS := Lib.hid hks; clear hts hks)
      | (go_at_call 20; refine (c_look HTSs.out HU.out.gd (by omega)).mono ?_; rintro e wl ⟨v9, rfl, hlz, hbl⟩; have HLZ := Lib.hid hlz; have HBL := Lib.hid hbl; clear hlz hbl))
    have HGT := Lib.hid HU.out.gd
    obtain ⟨Z, hZ⟩ : ∃ Z : Nat → Prop, Z = (fun k => ws.heap.size ≤ k ∧ k < wl.heap.size) := ⟨_, rfl⟩
    have HM0 : Hid (UdM w.heap.size R T T [] F Z v9 i w wl) := by
      have h1 : Below w.heap.size w ws := HU.out.kp.trans (HKS.out.below fun k hk => ⟨Nat.lt_of_lt_of_le hk HU.out.kp.size, fun e => by have := (HU.out.ts.fb e).1; omega⟩)
      refine ⟨⟨HTSs.out.below HBL.out, HU.out.gd, fun p hp => (by cases hp), Nat.zero_le _, bl_trans h1 HBL.out⟩, rfl, by rw [hZ]; exact HLZ.out, fun k hz => ?_⟩
      rw [hZ] at hz
      exact ⟨hz.2, fun hf => by have := (HTSs.out.fb hf).2; have := hz.1; omega⟩
    clear hZ HST HTSs HKS HLZ HBL HU
    have h60' : i ≤ 60 := hi60
    clear hi60 hil hil2 h60
    go_cut [10] (fun v10 wx => ∃ (j : Nat) (T' : List Nod) (D' : List (Value × List Nod)) (F' : Nat → Prop), j ≤ 60 ∧ D'.length ≤ 60 ∧ Hid (UdM w.heap.size R T T' D' F' Z v9 j w wx))
    case first =>
      go_wp2_with fail
      go_loopw [10] (fun c wx => ∃ (j : Nat) (T' : List Nod) (D' : List (Value × List Nod)) (F' : Nat → Prop), j ≤ n ∧ j ≤ 60 ∧ D'.length ≤ j ∧ c = .int .i64 (j : Int) ∧ Hid (UdM w.heap.size R T T' D' F' Z v9 j w wx)) (fun c _ => n - (intOf c).toNat)
      case atStart => exact ⟨i, T, [], F, hi, h60', Nat.zero_le _, rfl, HM0.out⟩
      case round =>
        obtain ⟨j, T', D', F', hj, hj60, hD, rfl, HV⟩ := hrel
        by_cases hjn : j < n
        case neg =>
          have hjl : ¬ (j : Int) < (n : Int) := by omega
          go_wp2_with fail
          go_meet
          exact ⟨j, T', D', F', hj60, by omega, HV.out⟩
        by_cases hj6 : j < 60
        case neg =>
          have hjl : (j : Int) < (n : Int) := by omega
          have hjl2 : ¬ (j : Int) < 60 := by omega
          go_wp2_with fail
          go_meet
          exact ⟨j, T', D', F', hj60, by omega, HV.out⟩
        have hjl : (j : Int) < (n : Int) := by omega
        have hjl2 : (j : Int) < 60 := by omega
        have hj0 : 0 ≤ (j : Int) := by omega
        obtain ⟨y, hy⟩ : ∃ y, L[j]? = some y := ⟨_, List.getElem?_eq_getElem (by have := HN.out; omega)⟩
        obtain ⟨g, o, rfl, hg, hcell⟩ := rd_op HR.out hy
        obtain ⟨d0, d1, d2, d3, d4, d5⟩ := hcell wr HV.out.l.kp
        have HDL := Lib.hid hD
        have HWX : Hid (w.heap.size ≤ wr.heap.size) := HV.out.l.kp.size
        by_cases hk10 : y.k = 10
        · have hkb : (y.k != 10) = false := by simp [hk10]
          have HW2 : Hid (UdM w.heap.size R T T' D' F' Z v9 (j + 1) w wr) := ⟨⟨HV.out.l.ts, HV.out.l.gd.mono (by omega), fun p hp => (HV.out.l.gds p hp).mono (by omega), by have := HV.out.l.dl; omega, HV.out.l.kp⟩, HV.out.bt, HV.out.lk, HV.out.z⟩
          clear hcell hy hk10
          go_wp2_with fail
          go_roundw
          case rel => exact ⟨j + 1, T', D', F', by omega, by omega, by omega, by go_num, HW2.out⟩
          case measure => simp [intOf]; omega
        · have hkb : (y.k != 10) = true := by simp [hk10]
          have HK10 := Lib.hid hk10
          have HPL := Lib.hid (c_play HV.out.l.ts (HG.out.below HV.out.l.kp) (by omega) HV.out.l.gd (by omega) y.k y.a y.b y.c y.s y.t (HM.out y (List.mem_of_getElem? hy)).1 (HM.out y (List.mem_of_getElem? hy)).2)
          unfold opV at HPL
          clear hcell hy hk10
          go_wp2_with (go_at_call 21; refine (HPL.out).mono ?_; rintro e w' ⟨⟨u, rfl⟩, T2, D2, F2', hts, hf, hk, hp⟩; have HTS := Lib.hid hts; have HK := Lib.hid hk; have HP := Lib.hid hp; have HF := Lib.hid hf; clear hts hk hp hf)
          go_roundw
          case rel => exact ⟨j + 1, T2, D2, F2', by omega, by omega, by have := (HP.out.bot HK10.out).2; have := HDL.out; omega, by go_num, HV.out.step HWX.out HTS.out HF.out HK.out HP.out HK10.out⟩
          case measure => simp [intOf]; omega
    case rest =>
      obtain ⟨j, T1, D1, F1, hj60, hD1, HV1⟩ := hcut
      clear HM0
      go_wp2_with fail
      go_loopw [11] (fun c wx => ∃ (m : Nat) (T' : List Nod) (D' : List (Value × List Nod)) (F' : Nat → Prop), m + D'.length ≤ 60 ∧ c = .int .i64 (m : Int) ∧ Hid (UdM w.heap.size R T T' D' F' Z v9 (j + m) w wx)) (fun c _ => 60 - (intOf c).toNat)
      case atStart => exact ⟨0, T1, D1, F1, by omega, rfl, HV1.out⟩
      case round =>
        obtain ⟨m, T', D', F', hmD, rfl, HV⟩ := hrel
        have HWX : Hid (w.heap.size ≤ wr.heap.size) := HV.out.l.kp.size
        cases D' with
        | cons q D2 =>
          obtain ⟨uu, T2⟩ := q
          have hm : m + D2.length + 1 ≤ 60 := by simpa [Nat.add_assoc] using hmD
          have HUN := Lib.hid (c_Undo HV.out.l.ts (by omega))
          have hm60 : ¬ (60 : Int) < (m : Int) + 1 := by omega
          clear hmD
          go_wp2_with (go_at_call 22; refine (HUN.out).mono ?_; rintro e w' ⟨rfl, hts, hk⟩; have HTS := Lib.hid hts; have HK := Lib.hid hk; clear hts hk)
          go_roundw
          case rel => exact ⟨m + 1, T2, D2, F', by omega, by go_num, HV.out.drop HWX.out HTS.out HK.out⟩
          case measure => simp [intOf]; omega
        | nil =>
          obtain rfl : T' = T := HV.out.bt
          have HUN := Lib.hid (c_Undo_none HV.out.l.ts)
          have HLK := Lib.hid (c_look HV.out.l.ts HV.out.l.gd (by omega))
          go_wp2_with (first
            | (go_at_call 22; refine (HUN.out).mono ?_; rintro e w' ⟨rfl, rfl⟩)
            | (go_at_call 20; refine (HLK.out).mono ?_; rintro e w4 ⟨v10, rfl, hlz, hbl⟩; have HLZ := Lib.hid hlz; have HBL := Lib.hid hbl; clear hlz hbl)
            | (go_at_call 23; refine (c_sameTwigs (lim := w4.heap.size) (HLZ.out.ok fun k hk => hk.2) ((HV.out.lk.ok fun k hk => (HV.out.z k hk).1).below HBL.out HBL.out.size) HV.out.l.gd.len (fun j2 => Nat.le_trans (HV.out.l.gd.at_ j2) (by omega)) HV.out.l.gd.ki (Nat.le_refl _)).mono ?_; rintro e w5 ⟨rfl, hb5⟩; have HB5 := Lib.hid hb5; clear hb5))
          go_ret
          exact ⟨rfl, bl_trans (bl_trans HV.out.l.kp HBL.out) HB5.out⟩
end Go.Proofs.YtimlmekgapdkiaaDoor
