/- the tree: whether there is a node; what is done and undone -/
import Derived.Test.YtimlmekgapdkiaaGreatDoorTma
namespace Go.Proofs.YtimlmekgapdkiaaGreatDoor
set_option linter.unusedVariables false
set_option linter.unusedSimpArgs false
open Go.RowKit Go.Cas

theorem c_is_yes {w : World} {B R L cap : Nat} {uv : Value} {Z : Nat → Prop} {M : List NV} (h : NS B R L cap uv Z M w) (i : Nat) (hi : i < M.length) (hM : M.length ≤ 400) :
    Calls Tryz.prog 45 #[.pointer (some ⟨R, 0, none⟩), .int .i64 (i : Int)] w fun e w' => e = .returned (.bool true) ∧ w = w' := by
  obtain ⟨h0, _⟩ := h.heads
  have hr := h.ltR
  have hii : (i : Int) < (M.length : Int) := by omega
  clear h
  go_enter Tryz.func45, Tryz.ntmps45
  go_wp2_with fail
  go_ret
  exact ⟨rfl, rfl⟩
theorem c_is_no {w : World} {B R L cap : Nat} {uv : Value} {Z : Nat → Prop} {M : List NV} (h : NS B R L cap uv Z M w) (a : Int) (ha : a < 0 ∨ (M.length : Int) ≤ a) (hM : M.length ≤ 400) :
    Calls Tryz.prog 45 #[.pointer (some ⟨R, 0, none⟩), .int .i64 a] w fun e w' => e = .returned (.bool false) ∧ w = w' := by
  obtain ⟨h0, _⟩ := h.heads
  have hr := h.ltR
  clear h
  by_cases h1 : a < 0
  · have h2 : ¬ 0 ≤ a := by omega
    clear ha
    go_enter Tryz.func45, Tryz.ntmps45
    go_wp2_with fail
    go_ret
    exact ⟨rfl, rfl⟩
  · have h2 : 0 ≤ a := by omega
    have h3 : ¬ a < (M.length : Int) := by omega
    clear ha
    go_enter Tryz.func45, Tryz.ntmps45
    go_wp2_with fail
    go_ret
    exact ⟨rfl, rfl⟩
theorem c_Settle {w : World} {B R : Nat} {F : Nat → Prop} {T : List Nod} {D : List (Value × List Nod)} (h : TS B R T D F w) :
    Calls Tryz.prog 37 #[.pointer (some ⟨R, 0, none⟩)] w fun e w' => (∃ u, e = .returned u) ∧ TS B R T [] F w' ∧ Kept w w' F := by
  obtain ⟨L, cap, uv, Z, M, h1, hM⟩ := h
  have H := Lib.hid h1
  obtain ⟨g0, g1, g2, g3⟩ := h1.ns.heads
  have hr := h1.ns.ltR
  have HM := Lib.hid hM
  clear h1 hM
  go_enter Tryz.func37, Tryz.ntmps37
  go_wp2_with fail
  go_end0
  have H := H.out
  refine ⟨⟨_, rfl⟩, ⟨L, cap, .slice none 0 0, Z, M, ?_, HM.out⟩, ?_⟩
  · exact H.setU (w1 := w) (D' := []) (fun _ _ _ => rfl) (Nat.le_refl _) (World.ownsRow_nil _ _ _ _) (fun k e => by simp [Value.ownBlock] at e) trivial (fun _ h => h) (fun k e => by simp [Value.ownBlock] at e) H.fb
  · exact (Kept.refl w F).set_ R 1 (fun _ => H.f R (.inl (.inl rfl))) _
theorem inf_fn : (Tryz.prog.info? 1).map (fun i => (i.zero, i.size, i.bytes)) = some (some .nilFunc, 1, 8) := by kernel_rfl
def DnRet (B R L cap : Nat) (uv : Value) (Z : Nat → Prop) (M : List NV) (D : List (Value × List Nod)) (F : Nat → Prop) (w : World) (e : Ending) (w' : World) : Prop := (∃ u, e = .returned u) ∧ ∃ uv' F', TSi B R L cap uv' Z M (M.map NV.x) D F' w' ∧ (∀ k, k < w.heap.size → F' k → F k) ∧ Kept w w' (exT R L uv)
theorem c_done {w : World} {B R L cap : Nat} {uv : Value} {Z F : Nat → Prop} {M : List NV} {T0 : List Nod} {D : List (Value × List Nod)} {v : Value} (h : TSi B R L cap uv Z M T0 D F w) (hv : UOk B R Z w v (M.map NV.x) T0) (hD : D.length ≤ 1000000000000) :
    Calls Tryz.prog 55 #[.pointer (some ⟨R, 0, none⟩), v] w (DnRet B R L cap uv Z M ((v, T0) :: D) F w) := by
  have H := Lib.hid h
  have HV := Lib.hid hv
  have HOW := Lib.hid h.ow
  obtain ⟨g0, g1, g2, g3⟩ := h.ns.heads
  have hr := h.ns.ltR
  have hB : B ≤ w.heap.size := Nat.le_trans h.ns.geo.1 (Nat.le_of_lt hr)
  obtain ⟨_, A, c, rfl, _, _⟩ := RdS.of_own h.ow
  have HUR : Hid ((Value.slice A D.length c).ownBlock ≠ some R) := fun e => (h.ns.ub R e).2.2.1 rfl
  have h1 : v.oneCell' = true := by obtain ⟨F', cs, rfl, _⟩ := hv; rfl
  obtain ⟨fn, cs, rfl⟩ : ∃ fn cs, v = .func (.func fn) #[] cs := by obtain ⟨F', cs, rfl, _⟩ := hv; exact ⟨_, _, rfl⟩
  clear h hv
  go_enter Tryz.func55, Tryz.ntmps55
  go_wp2_with (at_builtin; go_loud (refine wp_push rfl _ _ 42 rfl B 1 Tryz.underlying42 inf_fn rfl (by decide) w (.slice A D.length c) D.length (D.reverse.map Prod.fst) [.func (.func fn) #[] cs] rfl rfl rfl HOW.out rfl (by simp [Value.oneCell']) (by omega) (by omega) hB ?_; intro v5 w5 hpush; have HPU := Lib.hid hpush; have z1 := ((hpush.cellR hr HUR.out 1).1).trans g1; have z2 := ((hpush.cellR hr HUR.out 1).2).trans g3; obtain ⟨g5, c5, rfl, hg5, hl5⟩ := hpush.form; clear hpush))
  go_end0
  have H := H.out
  have P := HPU.out
  have hns : w.heap.size ≤ w5.heap.size := P.size_
  have hat : ∀ k, (Value.slice (some ⟨g5, 0, none⟩) (D.length + 1) c5).ownBlock = some k → (Value.slice A D.length c).ownBlock = some k ∨ w.heap.size ≤ k := fun k hk => by
    rcases P.at_ with e | ⟨j, hj, e⟩
    · exact .inl (e ▸ hk)
    · rw [e] at hk; injection hk with hk; exact .inr (by omega)
  have kp : Kept w w5 (fun k => (Value.slice A D.length c).ownBlock = some k) := Kept.grown P.grown _ (fun _ h => h)
  have hZu : ∀ k, Z k → (Value.slice A D.length c).ownBlock ≠ some k := fun k hz e => (H.ns.z k hz).2.2 (.inr (.inr e))
  have hzk : ∀ k, Z k → (w5.setCell ⟨R, 1, none⟩ (.slice (some ⟨g5, 0, none⟩) (D.length + 1) c5)).heap[k]? = w.heap[k]? ∧ Z k := fun k hz => by
    refine ⟨(Below.heap_setCell w5 ⟨R, 1, none⟩ _ k (fun e => (H.ns.z k hz).2.2 (.inl e))).trans (P.grown.block k (H.ns.z k hz).2.1 (fun e => hZu k hz e.symm)), hz⟩
  refine ⟨⟨_, rfl⟩, .slice (some ⟨g5, 0, none⟩) (D.length + 1) c5, fun k => F k ∨ k = g5, ?_, fun k hk hf => ?_, ?_⟩
  · refine H.setU (w1 := w5) (D' := (_, T0) :: D) (fun k hk hn => P.grown.block k hk (fun e => hn e.symm)) hns ?_ hat ⟨HV.out.mono hzk, H.ch.mono hzk⟩ (fun k hf => .inl hf) (fun k hk => .inr ?_) (fun k hf => ?_)
    · have := P.own
      simpa using this
    · injection hk with hk; exact hk.symm
    · rcases hf with hf | rfl
      · have := H.fb k hf; omega
      · exact ⟨hg5, hl5⟩
  · rcases hf with hf | rfl
    · exact hf
    · rcases hat k rfl with e | e
      · exact H.f k (.inl (.inr (.inr e)))
      · omega
  · exact (kp.mono (fun k _ e => .inr (.inr e))).set_ R 1 (fun _ => .inl rfl) _
theorem c_Undo_none {w : World} {B R : Nat} {F : Nat → Prop} {T : List Nod} (h : TS B R T [] F w) : Calls Tryz.prog 38 #[.pointer (some ⟨R, 0, none⟩)] w fun e w' => e = .returned (.bool false) ∧ w = w' := by
  obtain ⟨L, cap, uv, Z, M, h1, hM⟩ := h
  obtain ⟨g0, g1, g2, g3⟩ := h1.ns.heads
  have hr := h1.ns.ltR
  obtain ⟨_, A, c, rfl, _, _⟩ := RdS.of_own h1.ow
  simp only [List.length_nil] at g1
  clear h1 hM
  go_enter Tryz.func38, Tryz.ntmps38
  go_wp2_with fail
  go_ret
  exact ⟨rfl, rfl⟩
def UnRet (B R : Nat) (T : List Nod) (D : List (Value × List Nod)) (F : Nat → Prop) (w : World) (e : Ending) (w' : World) : Prop := e = .returned (.bool true) ∧ TS B R T D F w' ∧ Kept w w' F
set_option maxRecDepth 100000 in
theorem c_Undo {w : World} {B R : Nat} {F : Nat → Prop} {T T' : List Nod} {v : Value} {D : List (Value × List Nod)} (h : TS B R T ((v, T') :: D) F w) (hD : D.length ≤ 1000000000000) :
    Calls Tryz.prog 38 #[.pointer (some ⟨R, 0, none⟩)] w (UnRet B R T' D F w) := by
  obtain ⟨L, cap, uv, Z, M, h1, hM⟩ := h
  have H := Lib.hid h1
  obtain ⟨⟨fn, cs, rfl, hE, hU⟩, hc⟩ := h1.ch
  have HE := Lib.hid hE
  have HU := Lib.hid (hU w L cap uv Z M (fun k hz => ⟨rfl, hz⟩) h1.ns hM)
  have HC := Lib.hid hc
  obtain ⟨g0, g1, g2, g3⟩ := h1.ns.heads
  have hr := h1.ns.ltR
  obtain ⟨g, c, rfl, hgc, hgl⟩ := h1.ow.form (by simp)
  have hcap : D.length + 1 ≤ c := by
    obtain ⟨_, A', c', e, h2, _⟩ := RdS.of_own h1.ow
    injection e with _ _ e
    rw [List.length_cons] at h2
    omega
  have hcell := h1.ow.cells (g := g) rfl D.length (.func (.func fn) #[] cs) (by simp)
  rw [add_none, Nat.zero_add] at hcell
  simp only [List.length_cons] at g1
  have hDi : (D.length : Int) + 1 ≤ 9223372036854775807 := by omega
  obtain ⟨n, hn⟩ : ∃ n, n = D.length := ⟨_, rfl⟩
  have HN := Lib.hid hn
  rw [← hn] at g1 hcell hDi hcap
  have e1 : ((n : Int) + 1 - 1).toNat = n := by omega
  have q2 : n < n + 1 := by omega
  have q3 : ¬ ((n : Int) + 1 = 0) := by omega
  have q4 : (((n : Int) + 1) == 0) = false := by simpa using q3
  have hgb := h1.ns.ub g rfl
  have HGR : Hid (g ≠ R ∧ g ≠ L) := ⟨hgb.2.2.1, hgb.2.2.2⟩
  clear h1 hM hU hc hD hn hE hgb
  go_enter Tryz.func38, Tryz.ntmps38
  go_wp2_with fail
  rw [HE.out, Oper.upon_enter]
  refine HU.out.mono ?_
  rintro e w3 ⟨⟨u, rfl⟩, cap3, M3, h3, hM3, hk3⟩
  have H3 := Lib.hid h3
  have HM3 := Lib.hid hM3
  have HK3 := Lib.hid hk3
  obtain ⟨p0, p1, p2, p3⟩ := h3.heads
  have hr3 := h3.ltR
  rw [List.length_cons, ← HN.out] at p1
  clear h3 hM3 hk3 hcell g0 g1 g2 g3 hr
  go_wp2_with fail
  go_ret
  have H3 := H.out.nodes H3.out HK3.out
  have hz3 : ∀ k, Z k → (w3.setCell ⟨R, 1, none⟩ (.slice (some ⟨g, 0, none⟩) n c)).heap[k]? = w.heap[k]? ∧ Z k := fun k hz =>
    ⟨(Below.heap_setCell w3 ⟨R, 1, none⟩ _ k (fun e => (H.out.ns.z k hz).2.2 (.inl e))).trans (HK3.out.block k (H.out.ns.z k hz).2.1 (fun e => (H.out.ns.z k hz).2.2 (e.elim (fun e => .inl e) (fun e => .inr (.inl e))))), hz⟩
  refine ⟨rfl, ⟨L, cap3, _, Z, M3, H3.setU (w1 := w3) (D' := D) (T0' := T') (fun _ _ _ => rfl) (Nat.le_refl _) ?_ (fun k e => .inl e) (HC.out.mono hz3) (fun _ h => h) (fun k e => H3.f k (.inl (.inr (.inr e)))) H3.fb, HM3.out⟩, ?_⟩
  · have ho := H3.ow
    simp only [List.length_cons, List.reverse_cons, List.map_append] at ho
    rw [← HN.out] at ho ⊢
    exact own_less ho (by simp [HN.out])
  · exact (HK3.out.mono (fun k _ e => H.out.f k (.inl (e.elim (fun e => .inl e) (fun e => .inr (.inl e)))))).set_ R 1 (fun _ => H.out.f R (.inl (.inl rfl))) _
end Go.Proofs.YtimlmekgapdkiaaGreatDoor
