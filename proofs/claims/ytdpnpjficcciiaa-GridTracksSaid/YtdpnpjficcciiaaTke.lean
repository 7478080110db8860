/- seat C: a clone of tracks; what the two sides call things -/
import Derived.Test.YtdpnpjficcciiaaTkc
namespace Go.Proofs.Ytdpnpjficcciiaa
set_option linter.unusedVariables false
set_option linter.unusedSimpArgs false
open Go.RowKit Go.Cas

theorem inf_Tr : (Try.prog.info? 40).map (fun i => (i.zero, i.size, i.bytes)) = some (some (agT t0), 2, 16) := by kernel_rfl
theorem inf_Nd : (Try.prog.info? 46).map (fun i => (i.zero, i.size, i.bytes)) = some (some (.agg #[.int .i64 0, .int .i64 0, .int .i64 0]), 3, 24) := by kernel_rfl
theorem own_empty (w : World) (B : Nat) (t : TypeId) (size : Nat) (hB : B ≤ w.heap.size) : (w.alloc (.cells #[] t)).ownsRow B t size (.slice (some ⟨w.heap.size, 0, none⟩) 0 0) 0 [] :=
  ⟨by simp, .inr ⟨w.heap.size, 0, #[], rfl, hB, Bk.new w t #[], Nat.le_refl _, Nat.zero_le _, by simp, by simp⟩⟩
theorem eqn_T (A : Option Addr) (n c : Nat) (w : World) : (binOp .eql 41 (.slice A n c) (.slice none 0 0)).run Try.prog w = .ok (.bool A.isNone) w := by
  cases A <;> kernel_rfl
def ClRet (w : World) (m : Nat) (L : List Tr) (e : Ending) (w' : World) : Prop := ∃ v, e = .returned v ∧ w'.ownsRow w.heap.size 40 2 v m (L.flatMap tr) ∧ Below w.heap.size w w'
set_option maxRecDepth 100000 in
set_option maxHeartbeats 4000000 in
theorem c_CloneT {w : World} {A : Option Addr} {c m lim : Nat} {L : List Tr} (h : RdS w lim 2 (.slice A m c) m (L.flatMap tr)) (hm : m ≤ 1000) (hlim : lim ≤ w.heap.size) : Calls Try.prog 29 #[.slice A m c] w (ClRet w m L) := by
  have H := Lib.hid h
  obtain ⟨i0, hi0, hz0, hz1, hz2⟩ := info_parts inf_Tr
  rcases A with _ | A
  · have h0 : m = 0 := by
      rcases Nat.eq_zero_or_pos m with h0 | h0
      · exact h0
      · obtain ⟨_, A', c', e, _, hc⟩ := h
        injection e with e1 _ e2
        subst e1
        obtain ⟨g, o, e, _⟩ := hc h0
        cases e
    subst h0
    have hL : L = [] := by
      have := h.1
      rw [trs_len] at this
      exact List.eq_nil_of_length_eq_zero (by omega)
    subst hL
    have q1 := eqn_T none 0 c
    simp only [Option.isNone_none] at q1
    clear h
    go_enter Try.func29, Try.ntmps29
    go_wp2_with fail
    go_ret
    exact ⟨_, rfl, World.ownsRow_nil _ _ _ _, Below.refl _ _⟩
  · have hlen := h.1
    have hcells : ∀ j u, (L.flatMap tr)[j]? = some u → (w.alloc (.cells #[] 40)).cell? (A.add j) = some u := by
      intro j u hj
      obtain ⟨_, A', c', e, _, hc⟩ := h
      injection e with e1 _ e2
      subst e1
      have hj2 := (List.getElem?_eq_some_iff.1 hj).1
      obtain ⟨g, o, e, hg, hcc⟩ := hc (by omega)
      injection e with e
      subst e
      rw [add_none]
      exact ((bl_alloc (Below.refl _ w) _).cell (p := ⟨g, o + j, none⟩) (by show g < w.heap.size; omega)).trans (hcc j u hj)
    have h1 : ∀ u ∈ L.flatMap tr, u.oneCell' = true := by
      intro u hu
      obtain ⟨x, _, hx⟩ := List.mem_flatMap.1 hu
      simp [tr] at hx
      rcases hx with rfl | rfl <;> rfl
    have HC := Lib.hid hcells
    have HOE := Lib.hid (own_empty w w.heap.size 40 2 (Nat.le_refl _))
    have q1 := eqn_T (some A) m c
    simp only [Option.isNone_some] at q1
    clear h hcells
    go_enter Try.func29, Try.ntmps29
    go_wp2_with (at_builtin; refine wpList_append_own_at _ rfl _ _ 41 rfl w.heap.size 40 i0 (agT t0) 2 16 Try.underlying41 hi0 hz0 hz1 hz2 rfl (by omega) (.slice (some ⟨w.heap.size, 0, none⟩) 0 0) 0 [] rfl HOE.out A m c (L.flatMap tr) rfl hlen HC.out h1 (by unfold maxLen; omega) (by omega) (by simp) ?_; intro v' w' hown hgrow hnil hat; have HOWN := Lib.hid hown; have HGR := Lib.hid hgrow; clear hown hgrow hnil hat)
    go_ret
    have := HOWN.out
    rw [Nat.zero_add, List.nil_append] at this
    refine ⟨_, rfl, this, ?_⟩
    exact (bl_alloc (Below.refl _ w) _).grown HGR.out (by simp) (fun k hk => by simp [Value.ownBlock] at hk; omega)
end Go.Proofs.Ytdpnpjficcciiaa
