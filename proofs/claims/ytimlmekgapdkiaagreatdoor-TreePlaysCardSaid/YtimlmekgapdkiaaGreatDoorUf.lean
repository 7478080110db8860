/- the document's tree: whether there is a node; where a name stands; whether one lies in another; the document's tree: a list without one; what lies in a node -/
import Derived.Test.YtimlmekgapdkiaaGreatDoorUd
import Derived.Test.YtimlmekgapdkiaaGreatDoorTmj
namespace Go.Proofs.YtimlmekgapdkiaaGreatDoor
set_option linter.unusedVariables false
set_option linter.unusedSimpArgs false
open Go.RowKit Go.Cas

theorem c_rHas {w : World} {B R n : Nat} {τ : Nat → Nat} {T : List Nod} (h : RS B R T n τ w) (i : Nat) (hi : i < T.length) (hT : T.length ≤ 400) :
    Calls Tryz.prog 43 #[.pointer (some ⟨R, 0, none⟩), .int .i64 (i : Int)] w fun e w' => e = .returned (.bool true) ∧ w = w' := by
  obtain ⟨L, cap, tv, xs, M, h1, hM⟩ := h
  have hl : M.length = T.length := by rw [← hM]; simp
  obtain ⟨h0, _⟩ := h1.heads
  have hr := h1.ltR
  have hii : (i : Int) < (M.length : Int) := by omega
  have hl4 : M.length ≤ 400 := by omega
  clear h1 hM hl hi hT
  go_enter Tryz.func43, Tryz.ntmps43
  go_wp2_with fail
  go_ret
  exact ⟨rfl, rfl⟩
set_option maxRecDepth 100000 in
set_option maxHeartbeats 4000000 in
theorem c_rAt {w : World} {lim n : Nat} {v : Value} {l : List (ByteArray × ByteArray)} {s : ByteArray} (h : RdS w lim 2 v n (atc l)) (hn : n ≤ 1000000000) (hlim : lim ≤ w.heap.size) :
    Calls Tryz.prog 44 #[v, .string s] w fun e w' => e = .returned (.int .i64 (fnd l s)) ∧ w = w' := by
  have H := Lib.hid h
  have hll : l.length = n := by have := h.1; rw [atc_len] at this; omega
  obtain ⟨_, A, c, rfl, _, _⟩ := h
  have HL := Lib.hid hll
  clear hll
  go_enter Tryz.func44, Tryz.ntmps44
  go_wp2_with fail
  go_loop [5] (fun i => ∃ (k : Nat), k ≤ n ∧ i = .int .i64 k ∧ Hid (∀ j q, j < k → l[j]? = some q → q.1 ≠ s)) (fun i => n - (intOf i).toNat)
  case atStart => exact ⟨0, by omega, rfl, fun j q hj => by omega⟩
  case round =>
    obtain ⟨k, hk, rfl, HA⟩ := hrel
    by_cases hlt : k < n
    · have hik : (k : Int) < (n : Int) := by omega
      obtain ⟨⟨pa, pv⟩, hp⟩ : ∃ p, l[k]? = some p := ⟨_, List.getElem?_eq_getElem (by have := HL.out; omega)⟩
      have HP := Lib.hid hp
      obtain ⟨g, o, rfl, hg, hc⟩ := rd_at H.out hp
      obtain ⟨d0, d1⟩ := hc w (Below.refl _ _)
      have hbs := beq_str pa s
      by_cases he : pa = s
      · have HF : Hid (fnd l s = (k : Int)) := fnd_hit l s k _ HP.out he HA.out
        rw [decide_eq_true he] at hbs
        clear hp hc d1 he
        go_wp2_with fail
        all_goals
          first
            | (go_ret; exact ⟨ret_int HF.out.symm, rfl⟩)
      · have HE := Lib.hid he
        rw [decide_eq_false he] at hbs
        clear hp hc d1
        go_wp2_with fail
        go_round
        case rel =>
          refine ⟨k + 1, by omega, by go_num, fun j q hj hq => ?_⟩
          by_cases hjk : j = k
          · subst hjk
            have := HP.out
            rw [hq] at this
            rw [Option.some.inj this]; exact HE.out
          · exact HA.out j q (by omega) hq
        case measure => simp [intOf]; omega
    · obtain rfl : k = n := by omega
      have HF : Hid (fnd l s = -1) := fnd_miss l s (fun j q hq => HA.out j q (by have := (List.getElem?_eq_some_iff.1 hq).1; have := HL.out; omega) hq)
      go_wp2_with fail
      go_ret
      exact ⟨ret_int HF.out.symm, rfl⟩
set_option maxRecDepth 100000 in
set_option maxHeartbeats 4000000 in
theorem c_rin {w : World} {B R i p n : Nat} {τ : Nat → Nat} {T : List Nod} {d : Nat → Nat} (h : RS B R T n τ w) (hW : WF T d) (hT : T.length ≤ 400) (hp : p < T.length) :
    Calls Tryz.prog 58 #[.pointer (some ⟨R, 0, none⟩), .int .i64 (p : Int), .int .i64 (i : Int)] w fun e w' => e = .returned (.bool (ancB T i p)) ∧ w = w' := by
  obtain ⟨L, cap, tv, xs, M, h1, hM⟩ := h
  have hl : M.length = T.length := by rw [← hM]; simp
  obtain ⟨g0, _⟩ := h1.heads
  have hr := h1.ltR
  have hrL := h1.ltL
  have H1 := Lib.hid h1
  have HM := Lib.hid hM
  have HW := Lib.hid hW
  have HLL := Lib.hid hl
  have hl4 : M.length ≤ 400 := by omega
  have hpM : p < M.length := by omega
  clear h1 hM hW hl hT hp
  go_enter Tryz.func58, Tryz.ntmps58
  go_wp2_with fail
  go_loop [1] (fun c => ∃ (a : Int), c = .int .i64 a ∧ Hid ((a < 0 ∧ ¬ Anc T i p) ∨ (∃ q : Nat, a = (q : Int) ∧ q < M.length ∧ (Anc T i q ↔ Anc T i p)))) (fun c => wm d (intOf c))
  case atStart => exact ⟨(p : Int), rfl, .inr ⟨p, rfl, hpM, Iff.rfl⟩⟩
  case round =>
    obtain ⟨a, rfl, HR⟩ := hrel
    by_cases ha : a < 0
    · have ha2 : ¬ 0 ≤ a := by omega
      have HF : Hid (ancB T i p = false) := by
        rcases HR.out with ⟨_, h⟩ | ⟨q, e, _⟩
        · exact ancB_false.2 h
        · omega
      clear ha
      go_wp2_with fail
      go_ret
      exact ⟨ret_bool HF.out.symm, rfl⟩
    · obtain ⟨q, rfl, hq, hiff⟩ : ∃ q : Nat, a = (q : Int) ∧ q < M.length ∧ (Anc T i q ↔ Anc T i p) := by
        rcases HR.out with ⟨e, _⟩ | h
        · omega
        · exact h
      have HI := Lib.hid hiff
      obtain ⟨y, hy⟩ : ∃ y, M[q]? = some y := ⟨_, List.getElem?_eq_getElem hq⟩
      have HY := Lib.hid hy
      obtain ⟨_, _, a4, _⟩ := H1.out.cell hy
      have hqi : (q : Int) < (M.length : Int) := by omega
      have h0q : 0 ≤ (q : Int) := by omega
      have hyx : ndA T q = y.x := ndA_eq (by rw [← HM.out, List.getElem?_map, HY.out]; rfl)
      have HYX := Lib.hid hyx
      by_cases he : q = i
      · have HF : Hid (ancB T i p = true) := ancB_true.2 (HI.out.1 (by rw [he]; exact .refl))
        have hei : (q : Int) = (i : Int) := by omega
        have hei2 : ((q : Int) == (i : Int)) = true := by rw [beq_iff_eq]; exact hei
        clear hiff hy hyx ha
        go_wp2_with fail
        go_ret
        exact ⟨ret_bool HF.out.symm, rfl⟩
      · have hei : ¬ (q : Int) = (i : Int) := by omega
        have hei2 : ((q : Int) == (i : Int)) = false := by rw [beq_eq_false_iff_ne]; exact hei
        have HNE := Lib.hid he
        obtain ⟨pa, hpa⟩ : ∃ pa, pa = y.x.pa := ⟨_, rfl⟩
        have HPA := Lib.hid hpa
        rw [← hpa] at a4
        clear hiff hy hyx ha hpa he
        go_wp2_with fail
        go_round
        case rel =>
          refine ⟨pa, rfl, ?_⟩
          by_cases h0 : pa < 0
          · refine .inl ⟨h0, fun h => anc_root ?_ HNE.out (HI.out.2 h)⟩
            rw [HYX.out, ← HPA.out]; exact h0
          · have hqT : q < T.length := by have := HLL.out; omega
            have hpq : (ndA T q).pa = ((pa.toNat : Nat) : Int) := by rw [HYX.out, ← HPA.out]; omega
            refine .inr ⟨pa.toNat, by omega, ?_, ?_⟩
            · rcases HW.out.pa q hqT with e | ⟨_, e⟩
              · omega
              · rw [hpq] at e; have := HLL.out; omega
            · exact (anc_up hpq HNE.out).symm.trans HI.out
        case measure =>
          show wm d pa < wm d (q : Int)
          unfold wm
          rw [if_neg (by omega : ¬ (q : Int) < 0)]
          by_cases h0 : pa < 0
          · rw [if_pos h0]; omega
          · rw [if_neg h0]
            have hqT : q < T.length := by have := HLL.out; omega
            have := HW.out.ac q hqT (by rw [HYX.out, ← HPA.out]; omega)
            rw [HYX.out, ← HPA.out] at this
            have e : ((q : Int)).toNat = q := rfl
            rw [e]; omega
end Go.Proofs.YtimlmekgapdkiaaGreatDoor
namespace Go.Proofs.YtimlmekgapdkiaaGreatDoor
set_option linter.unusedVariables false
set_option linter.unusedSimpArgs false
open Go.RowKit Go.Cas

def wo (l : List Nat) (x : Nat) : List Nat := l.filter (fun k => decide (k ≠ x))
theorem wo_take {l : List Nat} {k x y : Nat} (h : l[k]? = some y) : wo (l.take (k + 1)) x = wo (l.take k) x ++ (if y = x then [] else [y]) := by
  unfold wo
  rw [List.take_add_one, h, List.filter_append]
  congr 1
  by_cases e : y = x <;> simp [e]
theorem wo_len (l : List Nat) (x k : Nat) : (wo (l.take k) x).length ≤ k := by
  unfold wo
  refine Nat.le_trans (List.length_filter_le _ _) ?_
  rw [List.length_take]; omega
set_option maxRecDepth 100000 in
set_option maxHeartbeats 4000000 in
theorem c_without {w : World} {lim n x : Nat} {v : Value} {l : List Nat} (h : RdS w lim 1 v n (kic l)) (hn : n ≤ 1000) (hlim : lim ≤ w.heap.size) :
    Calls Tryz.prog 59 #[v, .int .i64 (x : Int)] w (WyRet w (wo l x)) := by
  have H := Lib.hid h
  have hll : l.length = n := by have := h.1; rw [kic_len] at this; omega
  obtain ⟨_, A, c, rfl, _, _⟩ := h
  have HL := Lib.hid hll
  have HLIM := Lib.hid hlim
  clear hll
  go_enter Tryz.func59, Tryz.ntmps59
  go_wp2_with fail
  go_loopw [5, 6] (fun o i wr => ∃ (k : Nat), k ≤ n ∧ i = .int .i64 k ∧ Hid (wr.ownsRow w.heap.size 3 1 o (wo (l.take k) x).length (kic (wo (l.take k) x))) ∧ Hid (Below w.heap.size w wr)) (fun _ i _ => n - (intOf i).toNat)
  case atStart => exact ⟨0, by omega, rfl, World.ownsRow_nil _ _ _ _, Below.refl _ _⟩
  case round =>
    obtain ⟨k, hk, rfl, HO, HB⟩ := hrel
    by_cases hlt : k < n
    · have hik : (k : Int) < (n : Int) := by omega
      obtain ⟨y, hy⟩ : ∃ y, l[k]? = some y := ⟨_, List.getElem?_eq_getElem (by have := HL.out; omega)⟩
      have HWT : Hid (wo (l.take (k + 1)) x = wo (l.take k) x ++ (if y = x then [] else [y])) := wo_take hy
      have HWL : Hid ((wo (l.take k) x).length ≤ k) := wo_len l x k
      obtain ⟨g, o, rfl, hg, c0⟩ := rdI_at H.out hy
      have c1 := (HB.out.cell (p := ⟨g, o + k, none⟩) (Nat.lt_of_lt_of_le hg HLIM.out)).trans c0
      have hbz : w.heap.size ≤ wr.heap.size := HB.out.size
      obtain ⟨acc, hacc⟩ : ∃ acc, acc = wo (l.take k) x := ⟨_, rfl⟩
      rw [← hacc] at HO HWT HWL
      have hal : acc.length ≤ k := HWL.out
      clear hy hacc c0
      by_cases he : y = x
      · subst he
        have HW2 : Hid (wo (l.take (k + 1)) y = acc) := by rw [HWT.out, if_pos rfl]; exact List.append_nil _
        go_wp2_with fail
        go_roundw
        case rel => exact ⟨k + 1, by omega, by go_num, by rw [HW2.out]; exact HO.out, HB.out⟩
        case measure => simp [intOf]; omega
      · have HW2 : Hid (wo (l.take (k + 1)) x = acc ++ [y]) := by rw [HWT.out, if_neg he]; exact rfl
        have hei : ¬ (y : Int) = (x : Int) := by omega
        have hei2 : ((y : Int) == (x : Int)) = false := by rw [beq_eq_false_iff_ne]; exact hei
        clear he
        go_wp2_with (at_builtin; refine wp_push rfl _ _ 38 rfl w.heap.size 3 Tryz.underlying38 inf_I rfl (by decide) wr u5 acc.length (kic acc) [.int .i64 (y : Int)] rfl rfl rfl HO.out rfl (by simp [Value.oneCell']) (by omega) (by omega) hbz ?_; intro v5 w5 hpush; have HPU := Lib.hid hpush; clear hpush)
        go_roundw
        case rel =>
          refine ⟨k + 1, by omega, by go_num, ?_, HPU.out.below HB.out (Nat.le_refl _) hbz⟩
          rw [HW2.out, List.length_append, kic_snoc]
          exact HPU.out.own
        case measure => simp [intOf]; omega
    · obtain rfl : k = n := by omega
      have hE : l.take k = l := List.take_of_length_le (by rw [HL.out]; exact Nat.le_refl _)
      have HE := Lib.hid hE
      clear hE
      go_wp2_with fail
      go_ret
      refine ⟨_, rfl, ?_, HB.out⟩
      have := HO.out
      rw [HE.out] at this
      exact this
set_option maxRecDepth 100000 in
set_option maxHeartbeats 8000000 in
theorem c_rUnderF {B R Dm n0 : Nat} {τ : Nat → Nat} {T : List Nod} {d : Nat → Nat} (hW : WF T d) (hD : ∀ k, k < T.length → d k ≤ Dm) (hT : T.length ≤ 400) : ∀ (f : Nat) (w : World) (i : Nat), RS B R T n0 τ w → i < T.length → Dm - d i < f →
    Calls Tryz.prog 19 #[.pointer (some ⟨R, 0, none⟩), .int .i64 (i : Int)] w (WyRet w (und T f i)) := by
  intro f
  induction f with
  | zero => intro w i _ _ h; omega
  | succ f ih =>
    intro w i h hi hf
    have HW := Lib.hid hW
    have HIH : Hid (∀ (w : World) (k : Nat), RS B R T n0 τ w → k ∈ (ndA T i).ki → Calls Tryz.prog 19 #[.pointer (some ⟨R, 0, none⟩), .int .i64 (k : Int)] w (WyRet w (und T f k))) := fun w k hts hk => by
      obtain ⟨h1, h2⟩ := hW.ki i hi k hk
      have h3 := hW.ac k h1 (by omega)
      rw [h2] at h3
      have e : ((i : Int)).toNat = i := rfl
      rw [e] at h3
      have := hD k h1
      exact ih w k hts h1 (by omega)
    have HLN : Hid (∀ j, (undK T f i j).length ≤ 400) := fun j => Nat.le_trans (undK_len hW f i j hi) hT
    have HUL : Hid (∀ k ∈ (ndA T i).ki, (und T f k).length ≤ 400) := fun k hk => Nat.le_trans (und_len hW f k (hW.ki i hi k hk).1) hT
    have HKL : Hid ((ndA T i).ki.length ≤ 400) := by
      have := nodup_lt _ _ (hW.nd i hi) (fun x hx => (hW.ki i hi x hx).1)
      unfold Hid; omega
    have H := Lib.hid h
    have HI := Lib.hid (c_rHas h i hi hT)
    obtain ⟨L, cap, tv, xs, M, h1, hM⟩ := h
    obtain ⟨y, hy, hyx⟩ := nv_get hM (ndA_get hi)
    have hl : M.length ≤ 400 := by rw [← hM] at hT; simpa using hT
    have hiM := (List.getElem?_eq_some_iff.1 hy).1
    obtain ⟨g0, _⟩ := h1.heads
    have hr := h1.ltR
    have hrL := h1.ltL
    obtain ⟨_, _, _, a5⟩ := h1.cell hy
    have hii : (i : Int) < (M.length : Int) := by omega
    have hrd := (h1.ki i y hy).toS (lim := w.heap.size) (fun k hz => (h1.tB k (by rw [show τ k = 4 from hz]; omega)).2)
    rw [hyx] at hrd
    obtain ⟨_, A, c, hvk, _, _⟩ := id hrd
    rw [hvk] at a5 hrd
    have HRD := Lib.hid hrd
    obtain ⟨n, hn⟩ : ∃ n, n = (ndA T i).ki.length := ⟨_, rfl⟩
    have HN := Lib.hid hn
    rw [← hn] at a5
    have hn4 : n ≤ 400 := by rw [hn]; exact HKL.out
    obtain ⟨i0, hi0, hz0, hz1, hz2⟩ := info_parts inf_I
    have HG := Lib.hid ((bl_alloc (Below.refl _ w) (.cells #[.int .i64 (i : Int)] 3)))
    have HO0 := Lib.hid (World.ownsRow_lit (base := w.heap.size) (e := 3) (size := 1) w #[.int .i64 (i : Int)] 1 (Nat.le_refl _) (by unfold maxLen; omega) rfl)
    clear h1 hM hy hyx hrd hvk hn hW hD hT ih hi hf
    go_enter Tryz.func19, Tryz.ntmps19
    go_wp2_with (go_at_call 43; refine (HI.out).mono ?_; rintro e w' ⟨rfl, rfl⟩)
    go_loopw [6, 7] (fun v c wr => ∃ (j : Nat), j ≤ n ∧ c = .int .i64 (j : Int) ∧ Hid (wr.ownsRow w.heap.size 3 1 v (undK T f i j).length (kic (undK T f i j))) ∧ Hid (Below w.heap.size w wr)) (fun _ c _ => n - (intOf c).toNat)
    case atStart =>
      refine ⟨0, by omega, rfl, ?_, HG.out⟩
      rw [undK_zero]
      exact HO0.out
    case round =>
      obtain ⟨j, hj, rfl, HO, HB⟩ := hrel
      have p0 := (HB.out.cell (p := ⟨R, 0, none⟩) hr).trans g0
      have p5 := (HB.out.cell (p := ⟨L, i * 6 + 5, none⟩) hrL).trans a5
      have lr : R < wr.heap.size := Nat.lt_of_lt_of_le hr HB.out.size
      have lrL : L < wr.heap.size := Nat.lt_of_lt_of_le hrL HB.out.size
      by_cases hlt : j < n
      · have hjk : (j : Int) < (n : Int) := by omega
        obtain ⟨k, hk⟩ : ∃ k, (ndA T i).ki[j]? = some k := ⟨_, List.getElem?_eq_getElem (by rw [← HN.out]; exact hlt)⟩
        have HK := Lib.hid hk
        have hrd := HRD.out
        rw [← HN.out] at hrd
        obtain ⟨g, o, rfl, hg, c0⟩ := rdI_at hrd hk
        have c1 := (HB.out.cell (p := ⟨g, o + j, none⟩) hg).trans c0
        have HCU := Lib.hid (HIH.out wr k (H.out.below HB.out) (List.mem_of_getElem? hk))
        have HKU : Hid ((und T f k).length ≤ 400) := HUL.out k (List.mem_of_getElem? hk)
        have HJU : Hid ((undK T f i j).length ≤ 400) := HLN.out j
        obtain ⟨U, hU⟩ : ∃ U, U = undK T f i j := ⟨_, rfl⟩
        obtain ⟨V, hV⟩ : ∃ V, V = und T f k := ⟨_, rfl⟩
        have HUV : Hid (undK T f i (j + 1) = U ++ V) := by rw [hU, hV]; exact undK_succ hk
        have HVP : Hid (0 < V.length) := by rw [hV]; exact und_pos _ _ _
        rw [← hU] at HO HJU
        rw [← hV] at HCU HKU
        clear hk hrd c0 hU hV g0 a5 hr hrL
        go_upto_region 7 with (first
          | (go_at_call 19; refine (HCU.out).mono ?_; rintro e w' ⟨v, rfl, ho2, hb2⟩; obtain ⟨g2, q2, rfl, hg2, hl2⟩ := ho2.form (by exact HVP.out); have HO2 := Lib.hid ho2; have HB2 := Lib.hid hb2; clear ho2 hb2 hg2 hl2)
          | (at_builtin; refine wpList_append_own_at _ rfl _ _ 38 rfl w.heap.size 3 i0 (.int .i64 0) 1 8 Tryz.underlying38 hi0 hz0 hz1 hz2 rfl (by omega) u6 U.length (kic U) rfl (own_keep HO.out (fun k hk => HB2.out.block k (own_lt HO.out hk).2)) ⟨g2, 0, none⟩ V.length q2 (kic V) rfl (by rw [kic_len]; omega) (fun j u hu => HO2.out.cells rfl j u hu) (one_kic _) (by have := HJU.out; have := HKU.out; unfold maxLen; omega) (by have := HJU.out; have := HKU.out; omega) (Nat.le_trans HB.out.size HB2.out.size) ?_; intro v' w' hown hgrow hnil hat; have HOWN := Lib.hid hown; have HGR := Lib.hid hgrow; clear hown hgrow hnil hat))
        go_wp2_with fail
        go_roundw
        case rel =>
          refine ⟨j + 1, by omega, by go_num, ?_, ?_⟩
          · have := HOWN.out
            rw [← List.length_append, ← kic_app, ← HUV.out] at this
            exact this
          · exact (bl_trans HB.out HB2.out).grown HGR.out (Nat.le_trans HB.out.size HB2.out.size) (fun k hk => (own_lt HO.out hk).1)
        case measure => simp [intOf]; omega
      · obtain rfl : j = n := by omega
        have HE : Hid (undK T f i j = und T (f + 1) i) := by rw [HN.out]; exact undK_all
        clear g0 a5 hr hrL
        go_wp2_with fail
        go_ret
        refine ⟨_, rfl, ?_, HB.out⟩
        have := HO.out
        rw [HE.out] at this
        exact this
end Go.Proofs.YtimlmekgapdkiaaGreatDoor
