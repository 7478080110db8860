/- the tree: a node is copied with all that lies in it -/
import Derived.Test.YtimlmekgapdkiaaGreatDoorVk
import Derived.Test.YtimlmekgapdkiaaGreatDoorVl
namespace Go.Proofs.YtimlmekgapdkiaaGreatDoor
set_option linter.unusedVariables false
set_option linter.unusedSimpArgs false
open Go.RowKit Go.Cas

def celV (w : World) (R o : Nat) : Value := (w.cell? ⟨R, o, none⟩).getD .nilIface
theorem celV_eq {w : World} {R o : Nat} {v : Value} (h : w.cell? ⟨R, o, none⟩ = some v) : celV w R o = v := by unfold celV; rw [h]; rfl
theorem celV_some {w : World} {R o : Nat} {v : Value} (h : w.cell? ⟨R, o, none⟩ = some v) : w.cell? ⟨R, o, none⟩ = some (celV w R o) := by rw [celV_eq h]; exact h
def CyRet (B R L : Nat) (uv : Value) (Z F : Nat → Prop) (Tc : List Nod) (D : List (Value × List Nod)) (U : List Nod) (n : Nat) (w : World) (e : Ending) (w' : World) : Prop :=
  e = .returned (.int .i64 (n : Int)) ∧ ∃ L' cap' Z' M' F', TSi B R L' cap' uv Z' M' Tc D F' w' ∧ M'.map NV.x = U ∧ (∀ k, Z k → Z' k) ∧ (∀ k, k < w.heap.size → F' k → F k) ∧ Kept w w' (fun k => k = R ∨ k = L) ∧ (L' = L ∨ w.heap.size ≤ L')
def CyA (B R L : Nat) (uv : Value) (Z F : Nat → Prop) (Tc : List Nod) (D : List (Value × List Nod)) (M1 : List NV) (bn : Nat) (cs : Array Value) (w wx : World) : Prop :=
  ∃ L1 cap1 F1, TSi B R L1 cap1 uv Z M1 Tc D F1 wx ∧ (∀ k, k < w.heap.size → F1 k → F k) ∧ Kept w wx (fun k => k = R ∨ k = L) ∧ Bk wx bn 40 cs ∧ bn ≠ L1 ∧ ¬ F1 bn ∧ (L1 = L ∨ w.heap.size ≤ L1)
/-- the copy's loop -/
structure CyL (B R L : Nat) (uv : Value) (Z F : Nat → Prop) (Tc : List Nod) (D : List (Value × List Nod)) (s : List Nod × List Nat) (v : Value) (bn : Nat) (cs : Array Value) (w wr : World) : Prop where
  ts : ∃ Lr capr Zr Mr Fr, TSi B R Lr capr uv Zr Mr Tc D Fr wr ∧ Mr.map NV.x = s.1 ∧ (∀ k, Z k → Zr k) ∧ (∀ k, k < w.heap.size → Fr k → F k) ∧ bn ≠ Lr ∧ ¬ Fr bn ∧ (∀ g, v.ownBlock = some g → ¬ Fr g) ∧ (Lr = L ∨ w.heap.size ≤ Lr)
  own : wr.ownsRow w.heap.size 3 1 v s.2.length (kic s.2)
  kept : Kept w wr (fun k => k = R ∨ k = L)
  bk : Bk wr bn 40 cs
  sep : v.ownBlock ≠ some bn
theorem cpS_len (f : Nat) (T : List Nod) (i : Nat) (p : Int) : ∀ l : List Nat, (cpS f T i p l).2.length = l.length := by
  intro l
  obtain ⟨n, hn⟩ : ∃ n, n = l.length := ⟨_, rfl⟩
  induction n generalizing l with
  | zero => obtain rfl := List.eq_nil_of_length_eq_zero hn.symm; rfl
  | succ n ih =>
    obtain ⟨l', c, rfl⟩ : ∃ l' c, l = l' ++ [c] := ⟨l.dropLast, l.getLast (by intro e; subst e; simp at hn), (List.dropLast_concat_getLast _).symm⟩
    rw [cpS_snoc]
    simp only [List.length_append, List.length_cons, List.length_nil]
    rw [ih l' (by simpa using hn)]
theorem cpS_ok {T0 T : List Nod} {d : Nat → Nat} {f i : Nat} {p : Int} (hW : WF T0 d) (he : Ext T0 T) : ∀ {l : List Nat}, (∀ c ∈ l, c < T0.length) → CpW T p (cpS f T i p l).1 (cpS f T i p l).2 ∧ (cpS f T i p l).1.length = T.length + 1 + (l.flatMap (und T0 f)).length := by
  intro l
  obtain ⟨n, hn⟩ : ∃ n, n = l.length := ⟨_, rfl⟩
  induction n generalizing l with
  | zero =>
    intro _
    obtain rfl := List.eq_nil_of_length_eq_zero hn.symm
    rw [cpS_nil]
    exact ⟨CpW.start _ _ _, by simp⟩
  | succ n ihn =>
    intro hl
    obtain ⟨l', c, rfl⟩ : ∃ l' c, l = l' ++ [c] := ⟨l.dropLast, l.getLast (by intro e; subst e; simp at hn), (List.dropLast_concat_getLast _).symm⟩
    obtain ⟨h1, h2⟩ := ihn (l := l') (by simpa using hn) (fun c hc => hl c (by simp [hc]))
    have hc := cpF_ok hW f (cpS f T i p l').1 c (T.length : Int) (he.trans h1.ext) (hl c (by simp))
    rw [cpS_snoc]
    refine ⟨h1.step hc.ext hc.ok, ?_⟩
    rw [hc.len, h2, List.flatMap_append, List.length_append]
    simp; omega
abbrev CyS (w' : World) (bn R : Nat) (k : Int) (tag txt : ByteArray) (va : Value) : Prop := (w'.cell? ⟨bn, 0, none⟩ = some (.int .i64 k) ∧ w'.cell? ⟨bn, 1, none⟩ = some (.string tag) ∧ w'.cell? ⟨bn, 2, none⟩ = some (.string txt) ∧ w'.cell? ⟨bn, 3, none⟩ = some va) ∧ w'.cell? ⟨R, 0, none⟩ = some (celV w' R 0)
set_option maxRecDepth 100000 in
set_option maxHeartbeats 16000000 in
theorem c_copied {B R Dm : Nat} {T0 Tc : List Nod} {d : Nat → Nat} {D : List (Value × List Nod)} {uv : Value} (hW : WF T0 d) (hD : ∀ k, k < T0.length → d k ≤ Dm) : ∀ (f : Nat) (w : World) (L cap : Nat) (Z F : Nat → Prop) (M : List NV) (i : Nat) (p : Int), TSi B R L cap uv Z M Tc D F w → Ext T0 (M.map NV.x) → i < T0.length → Dm - d i < f → (M.map NV.x).length + (und T0 f i).length ≤ 400 → (-1 ≤ p ∧ p ≤ 400) →
    Calls Tryz.prog 65 #[.pointer (some ⟨R, 0, none⟩), .int .i64 (i : Int), .int .i64 p] w (CyRet B R L uv Z F Tc D (cpF f (M.map NV.x) i p) M.length w) := by
  intro f
  induction f with
  | zero => intro w L cap Z F M i p _ _ _ h; omega
  | succ f ih =>
    intro w L cap Z F M i p h hE hi hf hlen hp
    have H := Lib.hid h
    obtain ⟨T, hT⟩ : ∃ T, T = M.map NV.x := ⟨_, rfl⟩
    rw [← hT] at hE hlen ⊢
    have hlM : M.length = T.length := by rw [hT]; simp
    have hxi : ndA T i = ndA T0 i := hE.eq i hi
    have hiT : i < T.length := Nat.lt_of_lt_of_le hi hE.le
    obtain ⟨y, hy, hyx⟩ := nv_get hT.symm (ndA_get hiT)
    have hkl : (ndA T i).ki.length ≤ 400 := by
      have h1 := nodup_lt _ _ (hW.nd i hi) (fun x hx => (hW.ki i hi x hx).1)
      rw [hxi]
      have := hE.le
      omega
    have HKC : Hid (∀ c ∈ (ndA T i).ki, c < T0.length ∧ Dm - d c < f) := fun c hc => by
      rw [hxi] at hc
      obtain ⟨h1, h2⟩ := hW.ki i hi c hc
      have h3 := hW.ac c h1 (by omega)
      rw [h2] at h3
      have e : ((i : Int)).toNat = i := rfl
      rw [e] at h3
      have := hD c h1
      exact ⟨h1, by omega⟩
    have HLEN : Hid (T.length + 1 + ((ndA T i).ki.flatMap (und T0 f)).length ≤ 400) := by
      unfold Hid
      simp only [und, List.length_cons] at hlen
      rw [hxi]; omega
    have HIH : Hid (∀ (w : World) (L cap : Nat) (Z F : Nat → Prop) (M : List NV) (i : Nat) (p : Int), TSi B R L cap uv Z M Tc D F w → Ext T0 (M.map NV.x) → i < T0.length → Dm - d i < f → (M.map NV.x).length + (und T0 f i).length ≤ 400 → (-1 ≤ p ∧ p ≤ 400) →
        Calls Tryz.prog 65 #[.pointer (some ⟨R, 0, none⟩), .int .i64 (i : Int), .int .i64 p] w (CyRet B R L uv Z F Tc D (cpF f (M.map NV.x) i p) M.length w)) := ih
    have HWF := Lib.hid hW
    have HE := Lib.hid hE
    have HY := Lib.hid hy
    have HYX := Lib.hid hyx
    have HTM := Lib.hid hT
    have HLM := Lib.hid hlM
    have hM4 : M.length ≤ 399 := by have := HLEN.out; omega
    have hii : (i : Int) < (M.length : Int) := by omega
    have h0i : 0 ≤ (i : Int) := by omega
    obtain ⟨g0, _⟩ := h.ns.heads
    have hr := h.ns.ltR
    have hrL := h.ns.ltL
    obtain ⟨⟨a0, a1, a2⟩, a3, a4, a5⟩ := h.ns.cell hy
    have hra := (h.ns.rd y (List.mem_of_getElem? hy)).1
    have hrk := (h.ns.rd y (List.mem_of_getElem? hy)).2
    obtain ⟨va, hva⟩ : ∃ va, va = y.va := ⟨_, rfl⟩
    obtain ⟨vk, hvk⟩ : ∃ vk, vk = y.vk := ⟨_, rfl⟩
    rw [hyx] at a0 a1 a2 a4 hra hrk
    rw [← hva] at a3 hra
    rw [← hvk] at a5 hrk
    have HRA := Lib.hid hra
    have HRK := Lib.hid hrk
    obtain ⟨_, Aa, ca, rfl, _, _⟩ := hra
    obtain ⟨_, Ak, ck, rfl, hck, _⟩ := hrk
    obtain ⟨x, hx⟩ : ∃ x, x = ndA T i := ⟨_, rfl⟩
    have HX := Lib.hid hx
    rw [← hx] at a0 a1 a2 a3 a4 a5 hkl HKC HLEN HRA HRK hck
    obtain ⟨na, hna⟩ : ∃ na, na = x.at_.length := ⟨_, rfl⟩
    have HNA := Lib.hid hna
    rw [← hna] at a3
    obtain ⟨nk, hnk⟩ : ∃ nk, nk = x.ki.length := ⟨_, rfl⟩
    have HNK := Lib.hid hnk
    rw [← hnk] at a5 hkl hck
    rw [← hna] at HRA
    rw [← hnk] at HRK
    clear h hW hD ih hE hi hf hlen hT hlM hxi hiT hy hyx hva hvk hx hna hnk
    go_enter Tryz.func65, Tryz.ntmps65
    go_upto_region 2 with fail
    obtain ⟨bn, hbn⟩ : ∃ bn, bn = w.heap.size := ⟨_, rfl⟩
    obtain ⟨w2, hw2⟩ : ∃ w2, w2 = w.alloc (.cells #[.int .i64 x.k, .string x.tag, .string x.txt, .slice Aa na ca, .int .i64 x.pa, .slice Ak nk ck] 40) := ⟨_, rfl⟩
    rw [← hw2, ← hbn]
    have hbk1 : Bk w2 bn 40 #[.int .i64 x.k, .string x.tag, .string x.txt, .slice Aa na ca, .int .i64 x.pa, .slice Ak nk ck] := by rw [hw2, hbn]; exact bk_new' _ _ _ rfl
    have hbl : Below w.heap.size w w2 := by rw [hw2]; exact bl_alloc (Below.refl _ _) _
    have HS2 := Lib.hid (H.out.below hbl)
    have HBL := Lib.hid hbl
    have HBK1 := Lib.hid hbk1
    have HBN := Lib.hid hbn
    have f0 := hbk1.cell 0; have f1 := hbk1.cell 1; have f2 := hbk1.cell 2; have f3 := hbk1.cell 3; have f5 := hbk1.cell 5
    have lb := hbk1.lt
    obtain ⟨p0, p1, p2, p3⟩ := HS2.out.ns.heads
    have hr2 := HS2.out.ns.ltR
    have HNRL := Lib.hid HS2.out.ns.geo.2.2
    have HNBL : Hid (some bn ≠ some L) := fun e => by have := H.out.ns.ltL; injection e with e; omega
    have HROW := Lib.hid HS2.out.ns.toRow
    obtain ⟨i0, hi0, hz0, hz1, hz2⟩ := info_parts inf_node
    clear g0 hbn hw2 hbk1 hbl hr hrL a0 a1 a2 a3 a4 a5
    go_upto_region 3 with fail
    go_cut [40] (fun _ wx => Hid (CyA B R L uv Z F Tc D (M ++ [⟨cpN x p, .slice Aa na ca, .slice none 0 0⟩]) bn #[.int .i64 x.k, .string x.tag, .string x.txt, .slice Aa na ca, .int .i64 x.pa, .slice Ak nk ck] w wx))
    case first =>
      have HV : Hid (∀ W', Below w2.heap.size w2 W' → celV W' R 0 = .slice (some ⟨L, 0, none⟩) M.length cap) := fun W' hb => celV_eq (HS2.out.ns.below hb).heads.1
      have HK : Hid (∀ W', Below w2.heap.size w2 W' → CyS W' bn R x.k x.tag x.txt (.slice Aa na ca)) := fun W' hb => by
        have h1 := HBK1.out.below hb HBK1.out.lt
        exact ⟨⟨h1.cell 0, h1.cell 1, h1.cell 2, h1.cell 3⟩, celV_some (HS2.out.ns.below hb).heads.1⟩
      have HNBR : Hid (bn ≠ R) := by have := H.out.ns.ltR; have := HBN.out; unfold Hid; omega
      refine wp_region_noPanic ?_
      refine wp_region_held_drew (S := (fun w' => (w'.cell? ⟨bn, 0, none⟩ = some (.int .i64 x.k) ∧ w'.cell? ⟨bn, 1, none⟩ = some (.string x.tag) ∧ w'.cell? ⟨bn, 2, none⟩ = some (.string x.txt) ∧ w'.cell? ⟨bn, 3, none⟩ = some (.slice Aa na ca)) ∧ w'.cell? ⟨R, 0, none⟩ = some (celV w' R 0))) (by kernel_rfl) ?_ (fun hHeld => ?_)
      · (try dsimp only)
        (first | with_reducible exact HK.out _ (Below.refl _ _) | with_reducible exact HK.out _ (bl_drew (Below.refl _ _)) | with_reducible exact HK.out _ (bl_drew (bl_alloc (Below.refl _ _) _)) | with_reducible exact HS6.out | with_reducible exact HS7.out _)
      refine wpAnyH_take (i := 0) (v := ?_) rfl (by kernel_rfl) (by kernel_rfl) (by kernel_rfl) (fun _ _ _ h => h) (Or.inl ⟨by rfl, ?_⟩) (by assumption) ?_
      rotate_left
      · ((intro w hSw; (try dsimp only at hSw); go_simp); (try with_reducible rfl))
      try simp only [Act.put, List.setIfInBounds_toArray, List.set_cons_zero, List.set_cons_succ]
      refine wpAnyH_take (i := 1) (v := ?_) rfl (by kernel_rfl) (by kernel_rfl) (by kernel_rfl) (fun _ _ _ h => h) (Or.inl ⟨by rfl, ?_⟩) (by assumption) ?_
      rotate_left
      · ((intro w hSw; (try dsimp only at hSw); go_simp); (try with_reducible rfl))
      try simp only [Act.put, List.setIfInBounds_toArray, List.set_cons_zero, List.set_cons_succ]
      refine wpAnyH_take (i := 2) (v := ?_) rfl (by kernel_rfl) (by kernel_rfl) (by kernel_rfl) (fun _ _ _ h => h) (Or.inl ⟨by rfl, ?_⟩) (by assumption) ?_
      rotate_left
      · ((intro w hSw; (try dsimp only at hSw); go_simp); (try with_reducible rfl))
      try simp only [Act.put, List.setIfInBounds_toArray, List.set_cons_zero, List.set_cons_succ]
      refine wpAnyH_take (i := 3) (v := ?_) rfl (by kernel_rfl) (by kernel_rfl) (by kernel_rfl) (fun _ _ _ h => h) (Or.inl ⟨by rfl, ?_⟩) (by assumption) ?_
      rotate_left
      · ((intro w hSw; (try dsimp only at hSw); go_simp); (try with_reducible rfl))
      try simp only [Act.put, List.setIfInBounds_toArray, List.set_cons_zero, List.set_cons_succ]
      refine wpAnyH_take (i := 5) (v := ?_) rfl (by kernel_rfl) (by kernel_rfl) (by kernel_rfl) (fun _ _ _ h => h) (Or.inl ⟨by rfl, ?_⟩) (by assumption) ?_
      rotate_left
      · ((intro w hSw; (try dsimp only at hSw); go_simp); (try with_reducible rfl))
      try simp only [Act.put, List.setIfInBounds_toArray, List.set_cons_zero, List.set_cons_succ]
      refine wpAnyH_take (i := 6) (v := ?_) rfl (by kernel_rfl) (by kernel_rfl) (by kernel_rfl) (fun _ _ _ h => h) (Or.inl ⟨by rfl, ?_⟩) (by assumption) ?_
      rotate_left
      · ((intro w hSw; (try dsimp only at hSw); go_simp); (try with_reducible rfl))
      try simp only [Act.put, List.setIfInBounds_toArray, List.set_cons_zero, List.set_cons_succ]
      refine wpAnyH_take (i := 7) (v := ?_) rfl (by kernel_rfl) (by kernel_rfl) (by kernel_rfl) (fun _ _ _ h => h) (Or.inl ⟨by rfl, ?_⟩) (by assumption) ?_
      rotate_left
      · ((intro w hSw; (try dsimp only at hSw); go_simp); (try with_reducible rfl))
      try simp only [Act.put, List.setIfInBounds_toArray, List.set_cons_zero, List.set_cons_succ]
      refine wpAnyH_take (i := 8) (v := ?_) rfl (by kernel_rfl) (by kernel_rfl) (by kernel_rfl) (fun _ _ _ h => h) (Or.inl ⟨by rfl, ?_⟩) (by assumption) ?_
      rotate_left
      · ((intro w hSw; (try dsimp only at hSw); go_simp); (try with_reducible rfl))
      try simp only [Act.put, List.setIfInBounds_toArray, List.set_cons_zero, List.set_cons_succ]
      refine wpAnyH_take (i := 9) (v := ?_) rfl (by kernel_rfl) (by kernel_rfl) (by kernel_rfl) (fun _ _ _ h => h) (Or.inl ⟨by rfl, ?_⟩) (by assumption) ?_
      rotate_left
      · ((intro w hSw; (try dsimp only at hSw); go_simp); (try with_reducible rfl))
      try simp only [Act.put, List.setIfInBounds_toArray, List.set_cons_zero, List.set_cons_succ]
      refine wpAnyH_take (i := 10) (v := ?_) rfl (by kernel_rfl) (by kernel_rfl) (by kernel_rfl) (fun _ _ _ h => h) (Or.inl ⟨by rfl, ?_⟩) (by assumption) ?_
      rotate_left
      · ((intro w hSw; (try dsimp only at hSw); go_simp); (try with_reducible rfl))
      try simp only [Act.put, List.setIfInBounds_toArray, List.set_cons_zero, List.set_cons_succ]
      refine wpAnyH_take (i := 11) (v := ?_) rfl (by kernel_rfl) (by kernel_rfl) (by kernel_rfl) (fun _ _ _ h => h) (Or.inl ⟨by rfl, ?_⟩) (by assumption) ?_
      rotate_left
      · ((intro w hSw; (try dsimp only at hSw); go_simp); (try with_reducible rfl))
      try simp only [Act.put, List.setIfInBounds_toArray, List.set_cons_zero, List.set_cons_succ]
      refine wpAnyH_take (i := 12) (v := ?_) rfl (by kernel_rfl) (by kernel_rfl) (by kernel_rfl) (fun _ _ _ h => h) (Or.inl ⟨by rfl, ?_⟩) (by assumption) ?_
      rotate_left
      · ((intro w hSw; (try dsimp only at hSw); go_simp); (try with_reducible rfl))
      try simp only [Act.put, List.setIfInBounds_toArray, List.set_cons_zero, List.set_cons_succ]
      refine wpAnyH_take (i := 13) (v := ?_) rfl (by kernel_rfl) (by kernel_rfl) (by kernel_rfl) (fun _ _ _ h => h) (Or.inl ⟨by rfl, ?_⟩) (by assumption) ?_
      rotate_left
      · ((intro w hSw; (try dsimp only at hSw); go_simp); (try with_reducible rfl))
      try simp only [Act.put, List.setIfInBounds_toArray, List.set_cons_zero, List.set_cons_succ]
      refine wpAnyH_take (i := 14) (v := ?_) rfl (by kernel_rfl) (by kernel_rfl) (by kernel_rfl) (fun _ _ _ h => h) (Or.inl ⟨by rfl, ?_⟩) (by assumption) ?_
      rotate_left
      · ((intro w hSw; (try dsimp only at hSw); go_simp); (try with_reducible rfl))
      try simp only [Act.put, List.setIfInBounds_toArray, List.set_cons_zero, List.set_cons_succ]
      refine wpAnyH_ready (rs := [4, 15]) (by kernel_rfl) (by simp) ?_
      refine AllReadyH.cons rfl (fun K hK => ?_) ?_
      · go_simp
        refine hK.out _ _ ?_ (fun hHeld => ?_)
        · (try dsimp only)
          (first | with_reducible exact HK.out _ (Below.refl _ _) | with_reducible exact HK.out _ (bl_drew (Below.refl _ _)) | with_reducible exact HK.out _ (bl_drew (bl_alloc (Below.refl _ _) _)) | with_reducible exact HS6.out | with_reducible exact HS7.out _)
        clear hK K
        try simp only [Act.put, List.setIfInBounds_toArray, List.set_cons_zero, List.set_cons_succ]
        refine wpAnyH_ready (rs := [15]) (by kernel_rfl) (by simp) ?_
        refine AllReadyH.cons rfl (fun K hK => ?_) ?_
        · go_simp
          refine hK.out _ _ ?_ (fun hHeld => ?_)
          · (try dsimp only)
            (first | with_reducible exact HK.out _ (Below.refl _ _) | with_reducible exact HK.out _ (bl_drew (Below.refl _ _)) | with_reducible exact HK.out _ (bl_drew (bl_alloc (Below.refl _ _) _)) | with_reducible exact HS6.out | with_reducible exact HS7.out _)
          clear hK K
          try simp only [Act.put, List.setIfInBounds_toArray, List.set_cons_zero, List.set_cons_succ]
          refine wpAnyH_ready (rs := [16]) (by kernel_rfl) (by simp) ?_
          refine AllReadyH.cons rfl (fun K hK => ?_) ?_
          · (refine step_append_row (w := (w2.alloc (.cells #[.int .i64 x.k, .string x.tag, .string x.txt, .slice Aa na ca, .int .i64 p, .slice none 0 0] 40)).drew) (by rfl) _ _ _ (by rfl) 40 i0 _ 6 96 Tryz.underlying41 hi0 hz0 hz1 hz2 rfl (by omega) L cap M.length (M.flatMap nvc) (by first | exact HV.out _ (bl_drew (Below.refl _ _)) | exact HV.out _ (bl_drew (bl_alloc (Below.refl _ _) _)) | rfl) (HROW.out.at_ (heap_alloc_old w2 _ HS2.out.ns.ltL)) ⟨w2.heap.size, 0, none⟩ 1 1 [.int .i64 x.k, .string x.tag, .string x.txt, .slice Aa na ca, .int .i64 p, .slice none 0 0] (by rfl) (by rfl) (World.news_of_block (cs := #[.int .i64 x.k, .string x.tag, .string x.txt, .slice Aa na ca, .int .i64 p, .slice none 0 0]) (t := 40) (fr := (0, 0)) (heap_alloc_new w2 _)) (by simp [Value.oneCell']) (by omega) (by unfold maxLen; omega) (by omega) ?_; intro gg cap6 w6 hrow hgrow hat hlt; have HRW := Lib.hid hrow; have HGR := Lib.hid hgrow; have HAT := Lib.hid hat; have hkR : Bk w6 R 44 #[.slice (some ⟨L, 0, none⟩) M.length cap, uv] := (Bk.drew (HS2.out.ns.root.alloc _)).grown hgrow (fun e => HNRL.out (Option.some.inj e)); have hkb : Bk w6 bn 40 #[.int .i64 x.k, .string x.tag, .string x.txt, .slice Aa na ca, .int .i64 x.pa, .slice Ak nk ck] := (Bk.drew (HBK1.out.alloc _)).grown hgrow HNBL.out; have q1 := hkR.cell 0; have q2 := hkR.free 0; have q3 := hkR.lt; have HKB := Lib.hid hkb; have HKR := Lib.hid hkR; have HS6 : Hid (CyS w6 bn R x.k x.tag x.txt (.slice Aa na ca)) := ⟨⟨hkb.cell 0, hkb.cell 1, hkb.cell 2, hkb.cell 3⟩, celV_some (hkR.cell 0)⟩; have HS7 : Hid (∀ u, CyS (w6.setCell ⟨R, 0, none⟩ u) bn R x.k x.tag x.txt (.slice Aa na ca)) := fun u => ⟨⟨(hkb.far (p := ⟨R, 0, none⟩) HNBR.out u).cell 0, (hkb.far (p := ⟨R, 0, none⟩) HNBR.out u).cell 1, (hkb.far (p := ⟨R, 0, none⟩) HNBR.out u).cell 2, (hkb.far (p := ⟨R, 0, none⟩) HNBR.out u).cell 3⟩, celV_some ((hkR.set_ 0 u).cell 0)⟩; clear hrow hgrow hat hkR hkb)
            refine hK.out _ _ ?_ (fun hHeld => ?_)
            · (try dsimp only)
              (first | with_reducible exact HK.out _ (Below.refl _ _) | with_reducible exact HK.out _ (bl_drew (Below.refl _ _)) | with_reducible exact HK.out _ (bl_drew (bl_alloc (Below.refl _ _) _)) | with_reducible exact HS6.out | with_reducible exact HS7.out _)
            clear hK K
            try simp only [Act.put, List.setIfInBounds_toArray, List.set_cons_zero, List.set_cons_succ]
            refine wpAnyH_take (i := 17) (v := ?_) rfl (by kernel_rfl) (by kernel_rfl) (by kernel_rfl) (fun _ _ _ h => h) (Or.inl ⟨by rfl, ?_⟩) (by assumption) ?_
            rotate_left
            · ((intro w hSw; (try dsimp only at hSw); go_simp); (try with_reducible rfl))
            try simp only [Act.put, List.setIfInBounds_toArray, List.set_cons_zero, List.set_cons_succ]
            refine wpAnyH_take (i := 18) (v := ?_) rfl (by kernel_rfl) (by kernel_rfl) (by kernel_rfl) (fun _ _ _ h => h) (Or.inl ⟨by rfl, ?_⟩) (by assumption) ?_
            rotate_left
            · ((intro w hSw; (try dsimp only at hSw); go_simp); (try with_reducible rfl))
            try simp only [Act.put, List.setIfInBounds_toArray, List.set_cons_zero, List.set_cons_succ]
            refine wpAnyH_ready (rs := [19]) (by kernel_rfl) (by simp) ?_
            refine AllReadyH.cons rfl (fun K hK => ?_) ?_
            · go_simp
              refine hK.out _ _ ?_ (fun hHeld => ?_)
              · (try dsimp only)
                (first | with_reducible exact HK.out _ (Below.refl _ _) | with_reducible exact HK.out _ (bl_drew (Below.refl _ _)) | with_reducible exact HK.out _ (bl_drew (bl_alloc (Below.refl _ _) _)) | with_reducible exact HS6.out | with_reducible exact HS7.out _)
              clear hK K
              try simp only [Act.put, List.setIfInBounds_toArray, List.set_cons_zero, List.set_cons_succ]
              refine wpAnyH_done (by kernel_rfl) ?_ _
              refine NoPanic.normal ?_
              go_wp2_with fail
              go_meet
              have hbn : bn = w.heap.size := HBN.out
              have hsz2 : w.heap.size ≤ w2.heap.size := HBL.out.size
              have hbl2 : bn < w2.heap.size := HBK1.out.lt
              refine ⟨gg, cap6, fun k => F k ∨ k = gg, ?_, fun k hk hf => ?_, ?_, ?_, ?_, ?_, ?_⟩
              · have hg2 : ∀ k, k < w2.heap.size → k ≠ L → w6.heap[k]? = w2.heap[k]? := fun k hk hn => (HGR.out.block k (by simp; omega) (fun e => hn (Option.some.inj e))).trans (heap_alloc_old w2 _ hk)
                refine HS2.out.app _ ⟨?_, RdZ.nil _ _ _⟩ HRW.out hg2 (Nat.le_trans (by simp) HGR.out.size) (HAT.out.imp id (fun e => Nat.le_trans (by simp) e)) hlt
                show RdZ w2 Z 2 (.slice Aa na ca) x.at_.length (atc x.at_)
                rw [← HNA.out]
                exact HRA.out.keep (fun k hz => HBL.out.block k (H.out.ns.z k hz).2.1) (fun _ h => h)
              · rcases hf with hf | rfl
                · exact hf
                · rcases HAT.out with e | e
                  · rw [e]; exact H.out.f L (.inl (.inr (.inl rfl)))
                  · exfalso
                    simp at e
                    omega
              · have k1 : Kept w w6 (fun k => k = R ∨ k = L) := (((Kept.of_below HBL.out (fun k => k = R ∨ k = L)).alloc _).drew).then_ (Kept.grown HGR.out (fun k => k = L) (fun k e => (Option.some.inj e).symm)) (fun k _ e => .inr e)
                exact k1.set_ R 0 (fun _ => .inl rfl) _
              · exact HKB.out.far (p := ⟨R, 0, none⟩) (by have := H.out.ns.ltR; show bn ≠ R; omega) _
              · intro e
                rcases HAT.out with e2 | e2
                · have := H.out.ns.ltL; omega
                · simp at e2; omega
              · rintro (e | e)
                · exact absurd (H.out.fb bn e).2 (by omega)
                · rcases HAT.out with e2 | e2
                  · have := H.out.ns.ltL; omega
                  · simp at e2; omega
              · rcases HAT.out with e2 | e2
                · exact .inl e2
                · simp at e2; exact .inr (by omega)
            exact AllReadyH.nil
          exact AllReadyH.nil
        exact AllReadyH.nil
      refine AllReadyH.cons rfl (fun K hK => ?_) ?_
      · go_simp
        refine hK.out _ _ ?_ (fun hHeld => ?_)
        · (try dsimp only)
          (first | with_reducible exact HK.out _ (Below.refl _ _) | with_reducible exact HK.out _ (bl_drew (Below.refl _ _)) | with_reducible exact HK.out _ (bl_drew (bl_alloc (Below.refl _ _) _)) | with_reducible exact HS6.out | with_reducible exact HS7.out _)
        clear hK K
        try simp only [Act.put, List.setIfInBounds_toArray, List.set_cons_zero, List.set_cons_succ]
        refine wpAnyH_ready (rs := [4]) (by kernel_rfl) (by simp) ?_
        refine AllReadyH.cons rfl (fun K hK => ?_) ?_
        · go_simp
          refine hK.out _ _ ?_ (fun hHeld => ?_)
          · (try dsimp only)
            (first | with_reducible exact HK.out _ (Below.refl _ _) | with_reducible exact HK.out _ (bl_drew (Below.refl _ _)) | with_reducible exact HK.out _ (bl_drew (bl_alloc (Below.refl _ _) _)) | with_reducible exact HS6.out | with_reducible exact HS7.out _)
          clear hK K
          try simp only [Act.put, List.setIfInBounds_toArray, List.set_cons_zero, List.set_cons_succ]
          refine wpAnyH_ready (rs := [16]) (by kernel_rfl) (by simp) ?_
          refine AllReadyH.cons rfl (fun K hK => ?_) ?_
          · (refine step_append_row (w := (w2.alloc (.cells #[.int .i64 x.k, .string x.tag, .string x.txt, .slice Aa na ca, .int .i64 p, .slice none 0 0] 40)).drew) (by rfl) _ _ _ (by rfl) 40 i0 _ 6 96 Tryz.underlying41 hi0 hz0 hz1 hz2 rfl (by omega) L cap M.length (M.flatMap nvc) (by first | exact HV.out _ (bl_drew (Below.refl _ _)) | exact HV.out _ (bl_drew (bl_alloc (Below.refl _ _) _)) | rfl) (HROW.out.at_ (heap_alloc_old w2 _ HS2.out.ns.ltL)) ⟨w2.heap.size, 0, none⟩ 1 1 [.int .i64 x.k, .string x.tag, .string x.txt, .slice Aa na ca, .int .i64 p, .slice none 0 0] (by rfl) (by rfl) (World.news_of_block (cs := #[.int .i64 x.k, .string x.tag, .string x.txt, .slice Aa na ca, .int .i64 p, .slice none 0 0]) (t := 40) (fr := (0, 0)) (heap_alloc_new w2 _)) (by simp [Value.oneCell']) (by omega) (by unfold maxLen; omega) (by omega) ?_; intro gg cap6 w6 hrow hgrow hat hlt; have HRW := Lib.hid hrow; have HGR := Lib.hid hgrow; have HAT := Lib.hid hat; have hkR : Bk w6 R 44 #[.slice (some ⟨L, 0, none⟩) M.length cap, uv] := (Bk.drew (HS2.out.ns.root.alloc _)).grown hgrow (fun e => HNRL.out (Option.some.inj e)); have hkb : Bk w6 bn 40 #[.int .i64 x.k, .string x.tag, .string x.txt, .slice Aa na ca, .int .i64 x.pa, .slice Ak nk ck] := (Bk.drew (HBK1.out.alloc _)).grown hgrow HNBL.out; have q1 := hkR.cell 0; have q2 := hkR.free 0; have q3 := hkR.lt; have HKB := Lib.hid hkb; have HKR := Lib.hid hkR; have HS6 : Hid (CyS w6 bn R x.k x.tag x.txt (.slice Aa na ca)) := ⟨⟨hkb.cell 0, hkb.cell 1, hkb.cell 2, hkb.cell 3⟩, celV_some (hkR.cell 0)⟩; have HS7 : Hid (∀ u, CyS (w6.setCell ⟨R, 0, none⟩ u) bn R x.k x.tag x.txt (.slice Aa na ca)) := fun u => ⟨⟨(hkb.far (p := ⟨R, 0, none⟩) HNBR.out u).cell 0, (hkb.far (p := ⟨R, 0, none⟩) HNBR.out u).cell 1, (hkb.far (p := ⟨R, 0, none⟩) HNBR.out u).cell 2, (hkb.far (p := ⟨R, 0, none⟩) HNBR.out u).cell 3⟩, celV_some ((hkR.set_ 0 u).cell 0)⟩; clear hrow hgrow hat hkR hkb)
            refine hK.out _ _ ?_ (fun hHeld => ?_)
            · (try dsimp only)
              (first | with_reducible exact HK.out _ (Below.refl _ _) | with_reducible exact HK.out _ (bl_drew (Below.refl _ _)) | with_reducible exact HK.out _ (bl_drew (bl_alloc (Below.refl _ _) _)) | with_reducible exact HS6.out | with_reducible exact HS7.out _)
            clear hK K
            try simp only [Act.put, List.setIfInBounds_toArray, List.set_cons_zero, List.set_cons_succ]
            refine wpAnyH_take (i := 17) (v := ?_) rfl (by kernel_rfl) (by kernel_rfl) (by kernel_rfl) (fun _ _ _ h => h) (Or.inl ⟨by rfl, ?_⟩) (by assumption) ?_
            rotate_left
            · ((intro w hSw; (try dsimp only at hSw); go_simp); (try with_reducible rfl))
            try simp only [Act.put, List.setIfInBounds_toArray, List.set_cons_zero, List.set_cons_succ]
            refine wpAnyH_take (i := 18) (v := ?_) rfl (by kernel_rfl) (by kernel_rfl) (by kernel_rfl) (fun _ _ _ h => h) (Or.inl ⟨by rfl, ?_⟩) (by assumption) ?_
            rotate_left
            · ((intro w hSw; (try dsimp only at hSw); go_simp); (try with_reducible rfl))
            try simp only [Act.put, List.setIfInBounds_toArray, List.set_cons_zero, List.set_cons_succ]
            refine wpAnyH_ready (rs := [19]) (by kernel_rfl) (by simp) ?_
            refine AllReadyH.cons rfl (fun K hK => ?_) ?_
            · go_simp
              refine hK.out _ _ ?_ (fun hHeld => ?_)
              · (try dsimp only)
                (first | with_reducible exact HK.out _ (Below.refl _ _) | with_reducible exact HK.out _ (bl_drew (Below.refl _ _)) | with_reducible exact HK.out _ (bl_drew (bl_alloc (Below.refl _ _) _)) | with_reducible exact HS6.out | with_reducible exact HS7.out _)
              clear hK K
              try simp only [Act.put, List.setIfInBounds_toArray, List.set_cons_zero, List.set_cons_succ]
              refine wpAnyH_done (by kernel_rfl) ?_ _
              refine NoPanic.normal ?_
              go_wp2_with fail
              go_meet
              have hbn : bn = w.heap.size := HBN.out
              have hsz2 : w.heap.size ≤ w2.heap.size := HBL.out.size
              have hbl2 : bn < w2.heap.size := HBK1.out.lt
              refine ⟨gg, cap6, fun k => F k ∨ k = gg, ?_, fun k hk hf => ?_, ?_, ?_, ?_, ?_, ?_⟩
              · have hg2 : ∀ k, k < w2.heap.size → k ≠ L → w6.heap[k]? = w2.heap[k]? := fun k hk hn => (HGR.out.block k (by simp; omega) (fun e => hn (Option.some.inj e))).trans (heap_alloc_old w2 _ hk)
                refine HS2.out.app _ ⟨?_, RdZ.nil _ _ _⟩ HRW.out hg2 (Nat.le_trans (by simp) HGR.out.size) (HAT.out.imp id (fun e => Nat.le_trans (by simp) e)) hlt
                show RdZ w2 Z 2 (.slice Aa na ca) x.at_.length (atc x.at_)
                rw [← HNA.out]
                exact HRA.out.keep (fun k hz => HBL.out.block k (H.out.ns.z k hz).2.1) (fun _ h => h)
              · rcases hf with hf | rfl
                · exact hf
                · rcases HAT.out with e | e
                  · rw [e]; exact H.out.f L (.inl (.inr (.inl rfl)))
                  · exfalso
                    simp at e
                    omega
              · have k1 : Kept w w6 (fun k => k = R ∨ k = L) := (((Kept.of_below HBL.out (fun k => k = R ∨ k = L)).alloc _).drew).then_ (Kept.grown HGR.out (fun k => k = L) (fun k e => (Option.some.inj e).symm)) (fun k _ e => .inr e)
                exact k1.set_ R 0 (fun _ => .inl rfl) _
              · exact HKB.out.far (p := ⟨R, 0, none⟩) (by have := H.out.ns.ltR; show bn ≠ R; omega) _
              · intro e
                rcases HAT.out with e2 | e2
                · have := H.out.ns.ltL; omega
                · simp at e2; omega
              · rintro (e | e)
                · exact absurd (H.out.fb bn e).2 (by omega)
                · rcases HAT.out with e2 | e2
                  · have := H.out.ns.ltL; omega
                  · simp at e2; omega
              · rcases HAT.out with e2 | e2
                · exact .inl e2
                · simp at e2; exact .inr (by omega)
            exact AllReadyH.nil
          exact AllReadyH.nil
        exact AllReadyH.nil
      exact AllReadyH.nil
    case rest =>
      obtain ⟨L1, cap1, F1, hS1, hF1, hK1, hb1, hn1, hnf1, hl1⟩ := hcut.out
      clear hcut HS2 HBL HBK1 HROW HNRL HNBL f0 f1 f2 f3 f5 lb p0 p1 p2 p3 hr2 hi0 hz0 hz1 hz2
      obtain ⟨wa, rfl⟩ : ∃ wa : World, wa = wc := ⟨_, rfl⟩
      have f5 := hb1.cell 5
      have lb := hb1.lt
      have HBND : Hid (CyL B R L uv Z F Tc D (cpS f T i p []) (.slice none 0 0) bn #[.int .i64 x.k, .string x.tag, .string x.txt, .slice Aa na ca, .int .i64 x.pa, .slice Ak nk ck] w wa) := by
        rw [cpS_nil]
        refine ⟨⟨L1, cap1, Z, _, F1, hS1, ?_, fun _ h => h, hF1, hn1, hnf1, fun g hg => by simp [Value.ownBlock] at hg, hl1⟩, World.ownsRow_nil _ _ _ _, hK1, hb1, by simp [Value.ownBlock]⟩
        rw [List.map_append, ← HTM.out, ← HX.out]; rfl
      clear hS1 hF1 hK1 hb1 hn1 hnf1 hl1
      go_wp2_with fail
      clear f5 lb
      go_loopw [9, 46] (fun v c wr => ∃ (j : Nat), j ≤ nk ∧ c = .int .i64 (j : Int) ∧ Hid (CyL B R L uv Z F Tc D (cpS f T i p (x.ki.take j)) v bn #[.int .i64 x.k, .string x.tag, .string x.txt, .slice Aa na ca, .int .i64 x.pa, .slice Ak nk ck] w wr)) (fun _ c _ => nk - (intOf c).toNat)
      case atStart => exact ⟨0, by omega, rfl, by rw [List.take_zero]; exact HBND.out⟩
      case round =>
        obtain ⟨j, hj, rfl, HL⟩ := hrel
        obtain ⟨Lr, capr, Zr, Mr, Fr, hSr, hMr, hZr, hFr, hbLr, hbFr, hvFr, hLr⟩ := HL.out.ts
        have HSr := Lib.hid hSr
        have HMr := Lib.hid hMr
        have HZr := Lib.hid hZr
        have HFr := Lib.hid hFr
        have HVF := Lib.hid hvFr
        have HBL := Lib.hid hbLr
        have HBF := Lib.hid hbFr
        have HLR := Lib.hid hLr
        have hws : w.heap.size ≤ wr.heap.size := HL.out.kept.size
        -- the plain law of what has come
        have hpl : CpW T p (cpS f T i p (x.ki.take j)).1 (cpS f T i p (x.ki.take j)).2 ∧ (cpS f T i p (x.ki.take j)).1.length = T.length + 1 + ((x.ki.take j).flatMap (und T0 f)).length := cpS_ok HWF.out HE.out (fun c hc => (HKC.out c (List.mem_of_mem_take hc)).1)
        have HPL := Lib.hid hpl.1
        have HPN := Lib.hid hpl.2
        have hksl : (cpS f T i p (x.ki.take j)).2.length = j := by rw [cpS_len, List.length_take, ← HNK.out]; omega
        obtain ⟨S, hS⟩ : ∃ S, S = (cpS f T i p (x.ki.take j)).1 := ⟨_, rfl⟩
        obtain ⟨ks, hks⟩ : ∃ ks, ks = (cpS f T i p (x.ki.take j)).2 := ⟨_, rfl⟩
        have HSS := Lib.hid hS
        have HKS := Lib.hid hks
        rw [← hS] at HPL HPN HMr
        rw [← hks] at HPL hksl
        have ho := HL.out.own
        rw [← hks] at ho
        have HO := Lib.hid ho
        have HKSL := Lib.hid hksl
        clear hSr hMr hZr hFr hbLr hbFr hvFr hpl hS hks ho hLr
        by_cases hlt : j < nk
        · have hjk : (j : Int) < (nk : Int) := by omega
          obtain ⟨c, hc⟩ : ∃ c, x.ki[j]? = some c := ⟨_, List.getElem?_eq_getElem (by rw [← HNK.out]; exact hlt)⟩
          have hts : x.ki.take (j + 1) = x.ki.take j ++ [c] := by rw [List.take_add_one, hc]; rfl
          obtain ⟨_, Ak', ck', eA, _, hcel⟩ := HRK.out
          injection eA with eA1 _ eA2
          subst eA1 eA2
          obtain ⟨g, o, rfl, hzg, hcell⟩ := hcel (by omega)
          have hzw := H.out.ns.z g hzg
          have c1 : wr.cell? ⟨g, o + j, none⟩ = some (.int .i64 (c : Int)) := by
            have h1 := hcell j _ (kic_get hc)
            rw [← h1]
            exact World.cell?_of_block (a := ⟨g, o + j, none⟩) (HL.out.kept.block g hzw.2.1 (fun e => hzw.2.2 (e.elim .inl (fun e => .inr (.inl e)))))
          have hgr : g < wr.heap.size := Nat.lt_of_lt_of_le hzw.2.1 hws
          have hkc := HKC.out c (List.mem_of_getElem? hc)
          have hsl : S.length + (und T0 f c).length ≤ 400 := by
            have h1 := HLEN.out
            have h2 := HPN.out
            have h3 : ((x.ki.take (j + 1)).flatMap (und T0 f)).length ≤ (x.ki.flatMap (und T0 f)).length := by
              conv => rhs; rw [← List.take_append_drop (j + 1) x.ki, List.flatMap_append, List.length_append]
              omega
            rw [hts, List.flatMap_append, List.length_append, List.flatMap_singleton] at h3
            omega
          have hMl : Mr.length = S.length := by rw [← HMr.out]; simp
          have HCL : Hid (Calls Tryz.prog 65 #[.pointer (some ⟨R, 0, none⟩), .int .i64 (c : Int), .int .i64 (M.length : Int)] wr (CyRet B R Lr uv Zr Fr Tc D (cpF f S c (T.length : Int)) S.length wr)) := by
            have h1 := HIH.out wr Lr capr Zr Fr Mr c (M.length : Int) HSr.out (by rw [HMr.out]; exact HE.out.trans HPL.out.ext) hkc.1 hkc.2 (by rw [HMr.out]; exact hsl) (by omega)
            rw [HMr.out, hMl, HLM.out] at h1
            rw [HLM.out]; exact h1
          have HNX : Hid (cpS f T i p (x.ki.take (j + 1)) = (cpF f S c (T.length : Int), ks ++ [S.length])) := by
            unfold Hid; rw [hts, cpS_snoc, ← HSS.out, ← HKS.out]
          have hS4 : S.length ≤ 400 := by omega
          have HEX : Hid (∀ g, u9.ownBlock = some g → g ≠ R ∧ g ≠ Lr) := fun g hg => ⟨fun e => HVF.out g hg (HSr.out.f g (.inl (.inl e))), fun e => HVF.out g hg (HSr.out.f g (.inl (.inr (.inl e))))⟩
          have hj4 : ks.length ≤ 400 := by omega
          clear hc hts hcel hcell hzg hzw hkc hsl hMl hksl
          go_wp2_with (first
            | (go_at_call 65; refine (HCL.out).mono ?_; rintro e w5 ⟨rfl, L5, cap5, Z5, M5, F5, hS5, hM5, hZ5, hF5, hK5, hL5⟩; have HS5 := Lib.hid hS5; have HM5 := Lib.hid hM5; have HZ5 := Lib.hid hZ5; have HF5 := Lib.hid hF5; have HK5 := Lib.hid hK5; have HL5 := Lib.hid hL5; have HO5 : Hid (w5.ownsRow w.heap.size 3 1 u9 ks.length (kic ks)) := hK5.own HO.out (fun k hk e => by rcases e with e | e; exact (HEX.out k hk).1 e; exact (HEX.out k hk).2 e); have hw5 : w.heap.size ≤ w5.heap.size := Nat.le_trans hws hK5.size; clear hS5 hM5 hZ5 hF5 hK5 hL5)
            | (at_builtin; refine wp_push rfl _ _ 38 rfl w.heap.size 3 Tryz.underlying38 inf_I rfl (by decide) w5 u9 ks.length (kic ks) [.int .i64 (S.length : Int)] rfl rfl rfl HO5.out rfl (by simp [Value.oneCell']) (by omega) (by omega) hw5 ?_; intro v6 w6 hpush; have HPU := Lib.hid hpush; clear hpush))
          go_roundw
          case rel =>
            refine ⟨j + 1, by omega, by go_num, ?_⟩
            unfold Hid
            rw [HNX.out]
            have hbr : bn < wr.heap.size := HL.out.bk.lt
            have hvb : ∀ g, u9.ownBlock = some g → w.heap.size ≤ g ∧ g < wr.heap.size := fun g hg => own_lt HO.out hg
            have nF5 : ∀ g, u9.ownBlock = some g → ¬ F5 g := fun g hg e => HVF.out g hg (HF5.out g (hvb g hg).2 e)
            have nb5 : ¬ F5 bn := fun e => HBF.out (HF5.out bn hbr e)
            have hS6 := HS5.out.keep (w' := w6) (fun k hk => HPU.out.grown.block k (HS5.out.fb k hk).2 (fun e => nF5 k e.symm hk)) HPU.out.size_
            refine ⟨⟨L5, cap5, Z5, M5, F5, hS6, HM5.out, fun k hk => HZ5.out k (HZr.out k hk), fun k hk hf => HFr.out k hk (HF5.out k (Nat.lt_of_lt_of_le hk hws) hf), fun e => nb5 (HS5.out.f bn (.inl (.inr (.inl e)))), nb5, fun g hg => ?_, ?_⟩, ?_, ?_, ?_, ?_⟩
            · rcases HPU.out.at_ with e | ⟨q, hq, e⟩
              · exact nF5 g (e ▸ hg)
              · rw [e] at hg; injection hg with hg; subst hg
                exact fun hf => by have := (HS5.out.fb _ hf).2; omega
            · rcases HL5.out with e | e
              · rw [e]; exact HLR.out
              · exact .inr (by omega)
            · rw [List.length_append, kic_snoc]; exact HPU.out.own
            · refine (HL.out.kept.then_ HK5.out (fun k hk e => ?_)).then_ (Kept.grown HPU.out.grown (fun k => u9.ownBlock = some k) (fun k e => e)) (fun k hk e => by have := (hvb k e).1; omega)
              rcases e with e | e
              · exact .inl e
              · rcases HLR.out with e2 | e2
                · exact .inr (by rw [e, e2])
                · omega
            · have h1 : Bk w5 bn 40 #[.int .i64 x.k, .string x.tag, .string x.txt, .slice Aa na ca, .int .i64 x.pa, .slice (some ⟨g, o, none⟩) nk ck] := HK5.out.bk HL.out.bk (fun e => by
                rcases e with e | e
                · have := H.out.ns.ltR; have := HBN.out; omega
                · exact HBL.out e)
              exact h1.grown HPU.out.grown (fun e => HL.out.sep e.symm)
            · rcases HPU.out.at_ with e | ⟨q, hq, e⟩
              · rw [e]; exact HL.out.sep
              · rw [e]; intro e2; injection e2 with e2; have := HK5.out.size; omega
          case measure => simp [intOf]; omega
        · obtain rfl : j = nk := by omega
          have hjk : ¬ (j : Int) < (j : Int) := by omega
          have htk : x.ki.take j = x.ki := by rw [HNK.out]; exact List.take_length
          rw [htk] at HSS HKS
          have hMl : Mr.length = S.length := by rw [← HMr.out]; simp
          have hlt2 : M.length < Mr.length := by have := HPL.out.lt; have := HLM.out; omega
          have hMr4 : Mr.length ≤ 400 := by
            have h1 := HPN.out
            have h2 := HLEN.out
            rw [htk] at h1
            omega
          obtain ⟨yk, hyk⟩ : ∃ yk, Mr[M.length]? = some yk := ⟨_, List.getElem?_eq_getElem hlt2⟩
          have HYK := Lib.hid hyk
          obtain ⟨g0, _⟩ := HSr.out.ns.heads
          have hr := HSr.out.ns.ltR
          have hrL := HSr.out.ns.ltL
          obtain ⟨_, _, _, a5⟩ := HSr.out.ns.cell hyk
          have f5 := HSr.out.ns.free (M.length * 6 + 5)
          obtain ⟨vk, hvk⟩ : ∃ vk, vk = yk.vk := ⟨_, rfl⟩
          have hrk := (HSr.out.ns.rd yk (List.mem_of_getElem? hyk)).2
          rw [← hvk] at a5 hrk
          obtain ⟨_, Ay, cy, rfl, _, _⟩ := hrk
          have hki : (M.length : Int) < (Mr.length : Int) := by omega
          have hk0 : 0 ≤ (M.length : Int) := by omega
          obtain ⟨_, Av, cv, rfl, _, _⟩ := RdS.of_own HO.out
          clear hyk hvk htk hMl hlt2 hksl
          go_wp2_with fail
          go_ret
          obtain ⟨P, hP⟩ : ∃ P : Nat → Prop, P = fun k => (Value.slice Av ks.length cv).ownBlock = some k := ⟨_, rfl⟩
          have hBw : B ≤ w.heap.size := by have := H.out.ns.geo.1; have := H.out.ns.ltR; omega
          have hSz := HSr.out.wideZ P (fun k hk => by
            rw [hP] at hk
            have h1 := own_lt HO.out hk
            exact ⟨by omega, h1.2, fun e => HVF.out k hk (HSr.out.f k (.inl e))⟩)
          have hSn := hSz.setN HYK.out 5 (by omega) (.slice Av ks.length cv) (setKi_cells yk (.slice Av ks.length cv) ks) ⟨(hSz.ns.rd yk (List.mem_of_getElem? HYK.out)).1, RdZ.of_own HO.out (fun g hg => .inr (by rw [hP]; exact hg))⟩
          refine ⟨rfl, Lr, capr, _, _, _, hSn, ?_, fun k hk => Or.inl (HZr.out k hk), fun k hk hf => ?_, HL.out.kept.set_ Lr _ (fun e => ?_) _, HLR.out⟩
          · rw [List.map_set, HMr.out, HLM.out, cpF_succ, ← HX.out, ← HSS.out, ← HKS.out]
            congr 1
            have : yk.x = ndA S T.length := (ndA_eq (by rw [← HMr.out, List.getElem?_map, ← HLM.out, HYK.out]; rfl)).symm
            show ({ yk.x with ki := ks } : Nod) = kiS (ndA S T.length) ks
            rw [this]; rfl
          · rcases hf with hf | hf
            · exact HFr.out k hk hf
            · rw [hP] at hf
              have := (own_lt HO.out hf).1
              omega
          · rcases HLR.out with e2 | e2
            · exact .inr e2
            · omega
end Go.Proofs.YtimlmekgapdkiaaGreatDoor

