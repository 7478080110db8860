/- the tree: clones; where a name stands among attributes -/
import Derived.Test.YtimlmekgapdkiaaDoorTme
namespace Go.Proofs.YtimlmekgapdkiaaDoor
set_option linter.unusedVariables false
set_option linter.unusedSimpArgs false
open Go.RowKit Go.Cas

theorem own_empty (w : World) (B : Nat) (t : TypeId) (size : Nat) (hB : B ≤ w.heap.size) : (w.alloc (.cells #[] t)).ownsRow B t size (.slice (some ⟨w.heap.size, 0, none⟩) 0 0) 0 [] :=
  ⟨by simp, .inr ⟨w.heap.size, 0, #[], rfl, hB, Bk.new w t #[], Nat.le_refl _, Nat.zero_le _, by simp, by simp⟩⟩
theorem eqn_A (A : Option Addr) (n c : Nat) (w : World) : (binOp .eql 84 (.slice A n c) (.slice none 0 0)).run Tryd.prog w = .ok (.bool A.isNone) w := by
  cases A <;> kernel_rfl
theorem inf_A : (Tryd.prog.info? 88).map (fun i => (i.zero, i.size, i.bytes)) = some (some (.agg #[.string ByteArray.empty, .string ByteArray.empty]), 2, 32) := by kernel_rfl
def ClRetA (w : World) (n : Nat) (xs : List Value) (e : Ending) (w' : World) : Prop := ∃ v, e = .returned v ∧ w'.ownsRow w.heap.size 88 2 v n xs ∧ Below w.heap.size w w'
set_option maxRecDepth 100000 in
set_option maxHeartbeats 4000000 in
theorem c_CloneA {w : World} {v : Value} {n lim : Nat} {xs : List Value} (h : RdS w lim 2 v n xs) (h1 : ∀ u ∈ xs, u.oneCell' = true) (hn : n ≤ 1000000000) (hlim : lim ≤ w.heap.size) : Calls Tryd.prog 82 #[v] w (ClRetA w n xs) := by
  obtain ⟨i0, hi0, hz0, hz1, hz2⟩ := info_parts inf_A
  obtain ⟨hlen, A, c, rfl, hnc, hcc⟩ := h
  rcases A with _ | A
  · have h0 : n = 0 := by
      rcases Nat.eq_zero_or_pos n with h0 | h0
      · exact h0
      · obtain ⟨g, o, e, _⟩ := hcc h0
        cases e
    subst h0
    obtain rfl : xs = [] := List.eq_nil_of_length_eq_zero (by omega)
    have q1 := eqn_A none 0 c
    simp only [Option.isNone_none] at q1
    clear hcc hnc hlen
    go_enter Tryd.func82, Tryd.ntmps82
    go_wp2_with fail
    go_ret
    exact ⟨_, rfl, World.ownsRow_nil _ _ _ _, Below.refl _ _⟩
  · have hcells : ∀ j u, xs[j]? = some u → (w.alloc (.cells #[] 88)).cell? (A.add j) = some u := by
      intro j u hj
      have hj2 := (List.getElem?_eq_some_iff.1 hj).1
      obtain ⟨g, o, e, hg, hc⟩ := hcc (by omega)
      injection e with e
      subst e
      rw [add_none]
      exact ((bl_alloc (Below.refl _ w) _).cell (p := ⟨g, o + j, none⟩) (by show g < w.heap.size; omega)).trans (hc j u hj)
    have HC := Lib.hid hcells
    have HOE := Lib.hid (own_empty w w.heap.size 88 2 (Nat.le_refl _))
    have q1 := eqn_A (some A) n c
    simp only [Option.isNone_some] at q1
    have HLN := Lib.hid hlen
    have HN1 := Lib.hid hn
    have HON := Lib.hid h1
    clear hcc hcells hlen hn h1
    go_enter Tryd.func82, Tryd.ntmps82
    go_wp2_with (at_builtin; refine wpList_append_own_at _ rfl _ _ 84 rfl w.heap.size 88 i0 (.agg #[.string ByteArray.empty, .string ByteArray.empty]) 2 32 Tryd.underlying84 hi0 hz0 hz1 hz2 rfl (by omega) (.slice (some ⟨w.heap.size, 0, none⟩) 0 0) 0 [] rfl HOE.out A n c xs rfl HLN.out HC.out HON.out (by have := HN1.out; unfold maxLen; omega) (by have := HN1.out; omega) (by simp) ?_; intro v' w' hown hgrow hnil hat; have HOWN := Lib.hid hown; have HGR := Lib.hid hgrow; clear hown hgrow hnil hat)
    go_ret
    have := HOWN.out
    rw [Nat.zero_add, List.nil_append] at this
    refine ⟨_, rfl, this, ?_⟩
    exact (bl_alloc (Below.refl _ w) _).grown HGR.out (by simp) (fun k hk => by simp [Value.ownBlock] at hk; omega)
theorem eqn_I (A : Option Addr) (n c : Nat) (w : World) : (binOp .eql 75 (.slice A n c) (.slice none 0 0)).run Tryd.prog w = .ok (.bool A.isNone) w := by
  cases A <;> kernel_rfl
theorem inf_I : (Tryd.prog.info? 3).map (fun i => (i.zero, i.size, i.bytes)) = some (some (.int .i64 0), 1, 8) := by kernel_rfl
def ClRetI (w : World) (n : Nat) (xs : List Value) (e : Ending) (w' : World) : Prop := ∃ v, e = .returned v ∧ w'.ownsRow w.heap.size 3 1 v n xs ∧ Below w.heap.size w w'
set_option maxRecDepth 100000 in
set_option maxHeartbeats 4000000 in
theorem c_CloneI {w : World} {v : Value} {n lim : Nat} {xs : List Value} (h : RdS w lim 1 v n xs) (h1 : ∀ u ∈ xs, u.oneCell' = true) (hn : n ≤ 1000000000) (hlim : lim ≤ w.heap.size) : Calls Tryd.prog 88 #[v] w (ClRetI w n xs) := by
  obtain ⟨i0, hi0, hz0, hz1, hz2⟩ := info_parts inf_I
  obtain ⟨hlen, A, c, rfl, hnc, hcc⟩ := h
  rcases A with _ | A
  · have h0 : n = 0 := by
      rcases Nat.eq_zero_or_pos n with h0 | h0
      · exact h0
      · obtain ⟨g, o, e, _⟩ := hcc h0
        cases e
    subst h0
    obtain rfl : xs = [] := List.eq_nil_of_length_eq_zero (by omega)
    have q1 := eqn_I none 0 c
    simp only [Option.isNone_none] at q1
    clear hcc hnc hlen
    go_enter Tryd.func88, Tryd.ntmps88
    go_wp2_with fail
    go_ret
    exact ⟨_, rfl, World.ownsRow_nil _ _ _ _, Below.refl _ _⟩
  · have hcells : ∀ j u, xs[j]? = some u → (w.alloc (.cells #[] 3)).cell? (A.add j) = some u := by
      intro j u hj
      have hj2 := (List.getElem?_eq_some_iff.1 hj).1
      obtain ⟨g, o, e, hg, hc⟩ := hcc (by omega)
      injection e with e
      subst e
      rw [add_none]
      exact ((bl_alloc (Below.refl _ w) _).cell (p := ⟨g, o + j, none⟩) (by show g < w.heap.size; omega)).trans (hc j u hj)
    have HC := Lib.hid hcells
    have HOE := Lib.hid (own_empty w w.heap.size 3 1 (Nat.le_refl _))
    have q1 := eqn_I (some A) n c
    simp only [Option.isNone_some] at q1
    have HLN := Lib.hid hlen
    have HN1 := Lib.hid hn
    have HON := Lib.hid h1
    clear hcc hcells hlen hn h1
    go_enter Tryd.func88, Tryd.ntmps88
    go_wp2_with (at_builtin; refine wpList_append_own_at _ rfl _ _ 75 rfl w.heap.size 3 i0 (.int .i64 0) 1 8 Tryd.underlying75 hi0 hz0 hz1 hz2 rfl (by omega) (.slice (some ⟨w.heap.size, 0, none⟩) 0 0) 0 [] rfl HOE.out A n c xs rfl HLN.out HC.out HON.out (by have := HN1.out; unfold maxLen; omega) (by have := HN1.out; omega) (by simp) ?_; intro v' w' hown hgrow hnil hat; have HOWN := Lib.hid hown; have HGR := Lib.hid hgrow; clear hown hgrow hnil hat)
    go_ret
    have := HOWN.out
    rw [Nat.zero_add, List.nil_append] at this
    refine ⟨_, rfl, this, ?_⟩
    exact (bl_alloc (Below.refl _ w) _).grown HGR.out (by simp) (fun k hk => by simp [Value.ownBlock] at hk; omega)
theorem one_atc (l : List (ByteArray × ByteArray)) : ∀ u ∈ atc l, u.oneCell' = true := by
  intro u hu
  obtain ⟨x, _, hx⟩ := List.mem_flatMap.1 hu
  simp at hx
  rcases hx with rfl | rfl <;> rfl
theorem one_kic (l : List Nat) : ∀ u ∈ kic l, u.oneCell' = true := by
  intro u hu
  obtain ⟨x, _, rfl⟩ := List.mem_map.1 hu
  rfl
theorem c_Kids {w : World} {B R : Nat} {F : Nat → Prop} {T : List Nod} {D : List (Value × List Nod)} {i : Nat} {x : Nod} (h : TS B R T D F w) (hT : T.length ≤ 400) (hx : T[i]? = some x) (hk : x.ki.length ≤ 1000000) :
    Calls Tryd.prog 46 #[.pointer (some ⟨R, 0, none⟩), .int .i64 (i : Int)] w (ClRetI w x.ki.length (kic x.ki)) := by
  obtain ⟨L, cap, uv, Z, M, h1, hM, _⟩ := h.ns
  obtain ⟨y, hy, rfl⟩ := nv_get hM hx
  have hl : M.length ≤ 400 := by rw [← hM] at hT; simpa using hT
  have hi := (List.getElem?_eq_some_iff.1 hy).1
  have HI := Lib.hid (c_is_yes h1 i hi hl)
  obtain ⟨g0, _⟩ := h1.heads
  have hr := h1.ltR
  have hrL := h1.ltL
  obtain ⟨_, _, _, a5⟩ := h1.cell hy
  have hii : (i : Int) < (M.length : Int) := by omega
  have hrd := (h1.rd y (List.mem_of_getElem? hy)).2.toS (fun k hz => (h1.z k hz).2.1)
  have HC := Lib.hid (c_CloneI hrd (one_kic _) (by omega) (Nat.le_refl _))
  clear h h1 hM hx hy hrd hk
  go_enter Tryd.func46, Tryd.ntmps46
  go_wp2_with (first | (go_at_call 47; refine (HI.out).mono ?_; rintro e w' ⟨rfl, rfl⟩) | (go_at_call 88; refine (HC.out).mono ?_; rintro e w' ⟨v, rfl, h1, h2⟩; have H1 := Lib.hid h1; have H2 := Lib.hid h2; clear h1 h2))
  go_ret
  exact ⟨_, rfl, H1.out, H2.out⟩
end Go.Proofs.YtimlmekgapdkiaaDoor
