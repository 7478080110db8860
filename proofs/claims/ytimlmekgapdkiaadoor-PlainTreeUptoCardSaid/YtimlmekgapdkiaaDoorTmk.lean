/- the tree: Index; Insert at the end -/
import Derived.Test.YtimlmekgapdkiaaDoorTmj
namespace Go.Proofs.YtimlmekgapdkiaaDoor
set_option linter.unusedVariables false
set_option linter.unusedSimpArgs false
open Go.RowKit Go.Cas

theorem rd_ki {w : World} {lim n k : Nat} {A : Option Addr} {c x : Nat} {l : List Nat} (h : RdS w lim 1 (.slice A n c) n (kic l)) (hx : l[k]? = some x) : ∃ g o, A = some ⟨g, o, none⟩ ∧ g < lim ∧ ∀ w', Below lim w w' → w'.cell? ⟨g, o + k, none⟩ = some (.int .i64 (x : Int)) := by
  have hl : l.length = n := by have := h.1; rw [kic_len] at this; omega
  have hk := (List.getElem?_eq_some_iff.1 hx).1
  obtain ⟨_, A', c', e, _, hc⟩ := h
  injection e with e1 _ e2
  subst e1 e2
  obtain ⟨g, o, e, hg, hcell⟩ := hc (by omega)
  refine ⟨g, o, e, hg, fun w' hb => (hb.cell (p := ⟨g, _, none⟩) hg).trans (hcell k _ ?_)⟩
  unfold kic
  rw [List.getElem?_map, hx]; rfl
theorem idx_hit {l : List Nat} {x k : Nat} (h : l[k]? = some x) (hn : ∀ j y, j < k → l[j]? = some y → y ≠ x) : l.idxOf x = k := by
  induction l generalizing k with
  | nil => simp at h
  | cons a l ih =>
    cases k with
    | zero => simp at h; subst h; simp
    | succ k =>
      have h0 := hn 0 a (by omega) rfl
      rw [List.idxOf_cons, show (a == x) = false by simpa using h0, cond_false, ih (by simpa using h) (fun j y hj hy => hn (j + 1) y (by omega) (by simpa using hy))]
set_option maxRecDepth 100000 in
set_option maxHeartbeats 4000000 in
theorem c_Index {w : World} {lim n : Nat} {v : Value} {l : List Nat} {x : Nat} (h : RdS w lim 1 v n (kic l)) (hn : n ≤ 1000000000) (hlim : lim ≤ w.heap.size) (hx : x ∈ l) :
    Calls Tryd.prog 49 #[v, .int .i64 (x : Int)] w fun e w' => e = .returned (.int .i64 ((l.idxOf x : Nat) : Int)) ∧ w = w' := by
  have H := Lib.hid h
  have hll : l.length = n := by have := h.1; rw [kic_len] at this; omega
  obtain ⟨_, A, c, rfl, _, _⟩ := h
  have HL := Lib.hid hll
  have HX := Lib.hid hx
  clear hll hx
  go_enter Tryd.func49, Tryd.ntmps49
  go_wp2_with fail
  go_loop [8] (fun i => ∃ (k : Nat), k ≤ n ∧ i = .int .i64 k ∧ Hid (∀ j y, j < k → l[j]? = some y → y ≠ x)) (fun i => n - (intOf i).toNat)
  case atStart => exact ⟨0, by omega, rfl, fun j q hj => by omega⟩
  case round =>
    obtain ⟨k, hk, rfl, HA⟩ := hrel
    by_cases hlt : k < n
    · have hik : (k : Int) < (n : Int) := by omega
      obtain ⟨y, hy⟩ : ∃ y, l[k]? = some y := ⟨_, List.getElem?_eq_getElem (by have := HL.out; omega)⟩
      have HY := Lib.hid hy
      obtain ⟨g, o, rfl, hg, hc⟩ := rd_ki H.out hy
      have d0 := hc w (Below.refl _ _)
      by_cases he : y = x
      · have HF : Hid (l.idxOf x = k) := idx_hit (by rw [← he]; exact HY.out) HA.out
        have e1 : (x : Int) = (y : Int) := by omega
        have e2 : ((x : Int) == (y : Int)) = true := by rw [beq_iff_eq]; exact e1
        clear hy hc he
        go_wp2_with fail
        go_ret
        exact ⟨ret_int (by rw [HF.out]), rfl⟩
      · have HE := Lib.hid he
        have e1 : ¬ (x : Int) = (y : Int) := by omega
        have e2 : ((x : Int) == (y : Int)) = false := by rw [beq_eq_false_iff_ne]; exact e1
        clear hy hc he
        go_wp2_with fail
        go_round
        case rel =>
          refine ⟨k + 1, by omega, by go_num, fun j q hj hq => ?_⟩
          by_cases hjk : j = k
          · subst hjk
            have := HY.out
            rw [hq] at this
            rw [Option.some.inj this]; exact HE.out
          · exact HA.out j q (by omega) hq
        case measure => simp [intOf]; omega
    · exfalso
      obtain ⟨j, hj⟩ := List.getElem?_of_mem HX.out
      have := (List.getElem?_eq_some_iff.1 hj).1
      exact HA.out j x (by have := HL.out; omega) hj rfl
def InsRet (w : World) (base : Nat) (v : Value) (m : Nat) (xs : List Value) (e : Ending) (w' : World) : Prop := ∃ v', e = .returned v' ∧ w'.ownsRow base 3 1 v' m xs ∧ w.grownBy w' v.ownBlock ∧ (v'.ownBlock = v.ownBlock ∨ ∃ k, w.heap.size ≤ k ∧ v'.ownBlock = some k)
set_option maxRecDepth 100000 in
set_option maxHeartbeats 4000000 in
theorem c_Insert_end {w : World} {base n vb : Nat} {v : Value} {xs : List Value} {x : Int} (h : w.ownsRow base 3 1 v n xs) (hn : n ≤ 1000000000) (hb : w.cell? ⟨vb, 0, none⟩ = some (.int .i64 x)) (hbase : base ≤ w.heap.size) :
    Calls Tryd.prog 87 #[v, .int .i64 (n : Int), .slice (some ⟨vb, 0, none⟩) 1 1] w (InsRet w base v (n + 1) (xs ++ [.int .i64 x])) := by
  obtain ⟨_, A, c, rfl, hnc, _⟩ := RdS.of_own h
  have H := Lib.hid h
  have HB := Lib.hid hb
  obtain ⟨i0, hi0, hz0, hz1, hz2⟩ := info_parts inf_I
  have HNW : Hid (∀ j u, ([.int .i64 x] : List Value)[j]? = some u → w.cell? ((⟨vb, 0, none⟩ : Addr).add j) = some u) := by
    intro j u hj
    cases j with
    | zero => simp at hj; subst hj; rw [add_none]; exact HB.out
    | succ j => simp at hj
  have hni : (n : Int) ≤ 1000000000 := by omega
  have hci : (n : Int) ≤ (c : Int) := by omega
  have HN := Lib.hid hn
  clear h hn hb
  by_cases hcn : c = n
  · subst hcn
    clear hnc hci
    go_enter Tryd.func87, Tryd.ntmps87
    go_wp2_with (at_builtin; refine wpList_append_own_at _ rfl (.tmp 23) (.tmp 24) 75 rfl base 3 i0 (.int .i64 0) 1 8 Tryd.underlying75 hi0 hz0 hz1 hz2 rfl (by decide) (.slice A c c) c xs rfl H.out ⟨vb, 0, none⟩ 1 1 [.int .i64 x] rfl rfl HNW.out (by simp [Value.oneCell']) (by have := HN.out; unfold maxLen; omega) (by have := HN.out; omega) hbase ?_; intro v' w' hown hgrow hnil hat; have HOWN := Lib.hid hown; have HGR := Lib.hid hgrow; have HAT := Lib.hid hat; clear hown hgrow hnil hat)
    go_ret
    exact ⟨_, rfl, HOWN.out, HGR.out, HAT.out.imp id (fun e => ⟨_, Nat.le_refl _, e⟩)⟩
  · have hlt : n < c := by omega
    have hlti : (n : Int) < (c : Int) := by omega
    have hne : ¬ (c : Int) = (n : Int) := by omega
    go_enter Tryd.func87, Tryd.ntmps87
    go_wp2_with (at_builtin; refine wpList_append_own_at _ rfl (.tmp 23) (.tmp 24) 75 rfl base 3 i0 (.int .i64 0) 1 8 Tryd.underlying75 hi0 hz0 hz1 hz2 rfl (by decide) (.slice A n c) n xs rfl H.out ⟨vb, 0, none⟩ 1 1 [.int .i64 x] rfl rfl HNW.out (by simp [Value.oneCell']) (by have := HN.out; unfold maxLen; omega) (by have := HN.out; omega) hbase ?_; intro v' w' hown hgrow hnil hat; have HOWN := Lib.hid hown; have HGR := Lib.hid hgrow; have HAT := Lib.hid hat; clear hown hgrow hnil hat)
    go_ret
    exact ⟨_, rfl, HOWN.out, HGR.out, HAT.out.imp id (fun e => ⟨_, Nat.le_refl _, e⟩)⟩
end Go.Proofs.YtimlmekgapdkiaaDoor
