/- the tree: what lies in a node -/
import Derived.Test.YtimlmekgapdkiaaGreatDoorUa
namespace Go.Proofs.YtimlmekgapdkiaaGreatDoor
set_option linter.unusedVariables false
set_option linter.unusedSimpArgs false
open Go.RowKit Go.Cas

theorem kic_cons (i : Nat) (l : List Nat) : kic (i :: l) = .int .i64 (i : Int) :: kic l := rfl
theorem kic_app (l m : List Nat) : kic (l ++ m) = kic l ++ kic m := by simp [kic]
/-- how far what lies in a node has come behind so many kids -/
def undK (T : List Nod) (f i : Nat) (j : Nat) : List Nat := i :: ((ndA T i).ki.take j).flatMap (und T f)
theorem undK_zero (T : List Nod) (f i : Nat) : undK T f i 0 = [i] := by simp [undK]
theorem undK_succ {T : List Nod} {f i j k : Nat} (h : (ndA T i).ki[j]? = some k) : undK T f i (j + 1) = undK T f i j ++ und T f k := by
  unfold undK
  rw [List.take_add_one, h]
  simp
theorem undK_all {T : List Nod} {f i : Nat} : undK T f i (ndA T i).ki.length = und T (f + 1) i := by simp [undK, und]
theorem undK_len {T : List Nod} {d : Nat → Nat} (h : WF T d) (f i j : Nat) (hi : i < T.length) : (undK T f i j).length ≤ T.length := by
  have h1 := und_len h (f + 1) i hi
  rw [← undK_all] at h1
  have h2 : (undK T f i j).length ≤ (undK T f i (ndA T i).ki.length).length := by
    unfold undK
    rw [List.take_length]
    simp only [List.length_cons]
    have : ((ndA T i).ki.flatMap (und T f)).length = (((ndA T i).ki.take j).flatMap (und T f)).length + (((ndA T i).ki.drop j).flatMap (und T f)).length := by
      rw [← List.length_append, ← List.flatMap_append, List.take_append_drop]
    omega
  omega
theorem und_pos (T : List Nod) (f i : Nat) : 0 < (und T f i).length := by cases f <;> simp [und]
set_option maxRecDepth 100000 in
set_option maxHeartbeats 8000000 in
theorem c_UnderF {B R Dm : Nat} {F : Nat → Prop} {T : List Nod} {d : Nat → Nat} {D : List (Value × List Nod)} (hW : WF T d) (hD : ∀ k, k < T.length → d k ≤ Dm) (hT : T.length ≤ 400) : ∀ (f : Nat) (w : World) (i : Nat), TS B R T D F w → i < T.length → Dm - d i < f →
    Calls Tryz.prog 18 #[.pointer (some ⟨R, 0, none⟩), .int .i64 (i : Int)] w (WyRet w (und T f i)) := by
  intro f
  induction f with
  | zero => intro w i _ _ h; omega
  | succ f ih =>
    intro w i h hi hf
    have HW := Lib.hid hW
    have HIH : Hid (∀ (w : World) (k : Nat), TS B R T D F w → k ∈ (ndA T i).ki → Calls Tryz.prog 18 #[.pointer (some ⟨R, 0, none⟩), .int .i64 (k : Int)] w (WyRet w (und T f k))) := fun w k hts hk => by
      obtain ⟨h1, h2⟩ := hW.ki i hi k hk
      have h3 := hW.ac k h1 (by omega)
      rw [h2] at h3
      have e : ((i : Int)).toNat = i := rfl
      rw [e] at h3
      have := hD k h1
      exact ih w k hts h1 (by omega)
    have HLN : Hid (∀ j, (undK T f i j).length ≤ 400) := fun j => Nat.le_trans (undK_len hW f i j hi) hT
    have HUL : Hid (∀ k ∈ (ndA T i).ki, (und T f k).length ≤ 400) := fun k hk => Nat.le_trans (und_len hW f k (hW.ki i hi k hk).1) hT
    have HKL : Hid ((ndA T i).ki.length ≤ 400) := by
      have := nodup_lt _ _ (hW.nd i hi) (fun x hx => (hW.ki i hi x hx).1)
      unfold Hid; omega
    have H := Lib.hid h
    obtain ⟨L, cap, uv, Z, M, h1, hM, _⟩ := h.ns
    obtain ⟨y, hy, hyx⟩ := nv_get hM (ndA_get hi)
    have hl : M.length ≤ 400 := by rw [← hM] at hT; simpa using hT
    have hiM := (List.getElem?_eq_some_iff.1 hy).1
    have HI := Lib.hid (c_is_yes h1 i hiM hl)
    obtain ⟨g0, _⟩ := h1.heads
    have hr := h1.ltR
    have hrL := h1.ltL
    obtain ⟨_, _, _, a5⟩ := h1.cell hy
    have hii : (i : Int) < (M.length : Int) := by omega
    have hrd := (h1.rd y (List.mem_of_getElem? hy)).2.toS (fun k hz => (h1.z k hz).2.1)
    rw [hyx] at hrd
    obtain ⟨_, A, c, hvk, _, _⟩ := id hrd
    rw [hvk] at a5 hrd
    have HRD := Lib.hid hrd
    obtain ⟨n, hn⟩ : ∃ n, n = (ndA T i).ki.length := ⟨_, rfl⟩
    have HN := Lib.hid hn
    rw [← hn] at a5
    have hn4 : n ≤ 400 := by rw [hn]; exact HKL.out
    obtain ⟨i0, hi0, hz0, hz1, hz2⟩ := info_parts inf_I
    have a5' := fun (b : Nat) (hb : b = w.heap.size) => (Below.heap_alloc w (.cells #[.int .i64 (i : Int)] 3) L hrL)
    have HG := Lib.hid ((bl_alloc (Below.refl _ w) (.cells #[.int .i64 (i : Int)] 3)))
    have g0' := (HG.out.cell (p := ⟨R, 0, none⟩) hr).trans g0
    have a5'' := (HG.out.cell (p := ⟨L, i * 6 + 5, none⟩) hrL).trans a5
    have HO0 := Lib.hid (World.ownsRow_lit (base := w.heap.size) (e := 3) (size := 1) w #[.int .i64 (i : Int)] 1 (Nat.le_refl _) (by unfold maxLen; omega) rfl)
    clear h h1 hM hy hyx hrd hvk hn a5' hW hD hT ih hi hf
    go_enter Tryz.func18, Tryz.ntmps18
    go_wp2_with (go_at_call 45; refine (HI.out).mono ?_; rintro e w' ⟨rfl, rfl⟩)
    go_loopw [5, 23] (fun v c wr => ∃ (j : Nat), j ≤ n ∧ c = .int .i64 (j : Int) ∧ Hid (wr.ownsRow w.heap.size 3 1 v (undK T f i j).length (kic (undK T f i j))) ∧ Hid (Below w.heap.size w wr)) (fun _ c _ => n - (intOf c).toNat)
    case atStart =>
      refine ⟨0, by omega, rfl, ?_, HG.out⟩
      rw [undK_zero]
      exact HO0.out
    case round =>
      obtain ⟨j, hj, rfl, HO, HB⟩ := hrel
      by_cases hlt : j < n
      · have hjk : (j : Int) < (n : Int) := by omega
        obtain ⟨k, hk⟩ : ∃ k, (ndA T i).ki[j]? = some k := ⟨_, List.getElem?_eq_getElem (by rw [← HN.out]; exact hlt)⟩
        have HK := Lib.hid hk
        have hrd := HRD.out
        rw [← HN.out] at hrd
        obtain ⟨g, o, rfl, hg, c0⟩ := rdI_at hrd hk
        have c1 := (HB.out.cell (p := ⟨g, o + j, none⟩) hg).trans c0
        have HCU := Lib.hid (HIH.out wr k (H.out.below HB.out) (List.mem_of_getElem? hk))
        have HKU : Hid ((und T f k).length ≤ 400) := HUL.out k (List.mem_of_getElem? hk)
        have HJU : Hid ((undK T f i j).length ≤ 400) := HLN.out j
        obtain ⟨U, hU⟩ : ∃ U, U = undK T f i j := ⟨_, rfl⟩
        obtain ⟨V, hV⟩ : ∃ V, V = und T f k := ⟨_, rfl⟩
        have HUV : Hid (undK T f i (j + 1) = U ++ V) := by rw [hU, hV]; exact undK_succ hk
        have HVP : Hid (0 < V.length) := by rw [hV]; exact und_pos _ _ _
        rw [← hU] at HO HJU
        rw [← hV] at HCU HKU
        clear hk hrd c0 hU hV
        go_upto_region 8 with (first
          | (go_at_call 18; refine (HCU.out).mono ?_; rintro e w' ⟨v, rfl, ho2, hb2⟩; obtain ⟨g2, q2, rfl, hg2, hl2⟩ := ho2.form (by exact HVP.out); have HO2 := Lib.hid ho2; have HB2 := Lib.hid hb2; clear ho2 hb2 hg2 hl2)
          | (at_builtin; refine wpList_append_own_at _ rfl _ _ 38 rfl w.heap.size 3 i0 (.int .i64 0) 1 8 Tryz.underlying38 hi0 hz0 hz1 hz2 rfl (by omega) u5 U.length (kic U) rfl (own_keep HO.out (fun k hk => HB2.out.block k (own_lt HO.out hk).2)) ⟨g2, 0, none⟩ V.length q2 (kic V) rfl (by rw [kic_len]; omega) (fun j u hu => HO2.out.cells rfl j u hu) (one_kic _) (by have := HJU.out; have := HKU.out; unfold maxLen; omega) (by have := HJU.out; have := HKU.out; omega) (Nat.le_trans HB.out.size HB2.out.size) ?_; intro v' w' hown hgrow hnil hat; have HOWN := Lib.hid hown; have HGR := Lib.hid hgrow; clear hown hgrow hnil hat))
        go_wp2_with fail
        go_roundw
        case rel =>
          refine ⟨j + 1, by omega, by go_num, ?_, ?_⟩
          · have := HOWN.out
            rw [← List.length_append, ← kic_app, ← HUV.out] at this
            exact this
          · exact (bl_trans HB.out HB2.out).grown HGR.out (Nat.le_trans HB.out.size HB2.out.size) (fun k hk => (own_lt HO.out hk).1)
        case measure => simp [intOf]; omega
      · obtain rfl : j = n := by omega
        have HE : Hid (undK T f i j = und T (f + 1) i) := by rw [HN.out]; exact undK_all
        go_wp2_with fail
        go_ret
        refine ⟨_, rfl, ?_, HB.out⟩
        have := HO.out
        rw [HE.out] at this
        exact this
end Go.Proofs.YtimlmekgapdkiaaGreatDoor
