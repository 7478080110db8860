/- seat C: the program's Tracks: its memory -/
import Derived.Test.YtdpnpjficcciiaaTkp
import Derived.Test.YtdpnpjficcciiaaTke
import Derived.Test.YtdpnpjficcciiaaSe
namespace Go.Proofs.Ytdpnpjficcciiaa
set_option linter.unusedVariables false
set_option linter.unusedSimpArgs false
open Go.RowKit Go.Cas

theorem c_heldG (n : Int) (w : World) : Calls Try.prog 28 #[.int .i64 n] w fun e w' => e = .returned (.int .i64 (hld n)) ∧ w = w' := by
  have f1 := fold_max; have f2 := fold_min
  go_enter Try.func28, Try.ntmps28
  go_wp2_with fail
  go_ret
  exact ⟨rfl, rfl⟩
theorem rd_nd {w : World} {lim n k : Nat} {A : Option Addr} {c : Nat} {L : List Nd} {x : Nd} (h : RdS w lim 3 (.slice A n c) n (L.flatMap nd)) (hx : L[k]? = some x) : ∃ g o, A = some ⟨g, o, none⟩ ∧ g < lim ∧ ∀ w', Below lim w w' → (w'.cell? ⟨g, o + k * 3, none⟩ = some (.int .i64 x.fr) ∧ w'.cell? ⟨g, o + k * 3 + 1, none⟩ = some (.int .i64 x.sp) ∧ w'.cell? ⟨g, o + k * 3 + 2, none⟩ = some (.int .i64 x.sz)) := by
  have hl : L.length = n := by have := h.1; rw [nds_len] at this; omega
  have hk := (List.getElem?_eq_some_iff.1 hx).1
  obtain ⟨_, A', c', e, _, hc⟩ := h
  injection e with e1 _ e2
  subst e1 e2
  obtain ⟨g, o, e, hg, hcell⟩ := hc (by omega)
  refine ⟨g, o, e, hg, fun w' hb => ?_⟩
  have key : ∀ j, j < 3 → ∀ u, (nd x)[j]? = some u → w'.cell? ⟨g, o + k * 3 + j, none⟩ = some u := fun j hj u hu => by
    have := hcell (k * 3 + j) u (by rw [nds_get hx hj]; exact hu)
    rw [← Nat.add_assoc] at this
    exact (hb.cell (p := ⟨g, _, none⟩) hg).trans this
  exact ⟨key 0 (by omega) _ rfl, key 1 (by omega) _ rfl, key 2 (by omega) _ rfl⟩
theorem rd_own_lt {w : World} {B lim size n : Nat} {e : TypeId} {v : Value} {xs : List Value} (h : w.ownsRow B e size v n xs) (hl : ∀ g, v.ownBlock = some g → g < lim) : RdS w lim size v n xs := by
  obtain ⟨h1, A, c, rfl, h3, h4⟩ := RdS.of_own h
  refine ⟨h1, A, c, rfl, h3, fun hn => ?_⟩
  obtain ⟨g, o, rfl, hg, hc⟩ := h4 hn
  exact ⟨g, o, rfl, hl g rfl, hc⟩
theorem trs_snoc (L : List Tr) (x : Tr) : (L ++ [x]).flatMap tr = L.flatMap tr ++ tr x := by simp
theorem nds_snoc (L : List Nd) (x : Nd) : (L ++ [x]).flatMap nd = L.flatMap nd ++ nd x := by simp
theorem trs_set {L : List Tr} {i : Nat} (h : i < L.length) (y : Tr) : ((L.flatMap tr).set (i * 2) (.int .i64 y.k)).set (i * 2 + 1) (.int .i64 y.n) = (L.set i y).flatMap tr := by
  induction L generalizing i with
  | nil => simp at h
  | cons a L ih =>
    cases i with
    | zero => rfl
    | succ i =>
      have h2 := ih (i := i) (by simpa using h)
      rw [List.set_cons_succ, List.flatMap_cons, List.flatMap_cons, ← h2]
      have hl : (tr a).length = 2 := rfl
      rw [List.set_append_right _ _ (by omega), List.set_append_right _ _ (by omega), hl]
      rw [show (i + 1) * 2 - 2 = i * 2 by omega, show (i + 1) * 2 + 1 - 2 = i * 2 + 1 by omega]
theorem trs_set1 {L : List Tr} {i : Nat} {x : Tr} (h : L[i]? = some x) (u : Int) : (L.flatMap tr).set (i * 2) (.int .i64 u) = (L.set i ⟨u, x.n⟩).flatMap tr := by
  rw [← trs_set (List.getElem?_eq_some_iff.1 h).1]
  symm
  apply List.ext_getElem?
  intro j
  by_cases e : j = i * 2 + 1
  · subst e
    have h1 : (L.flatMap tr)[i * 2 + 1]? = some (.int .i64 x.n) := flat_get tr 2 (fun _ => rfl) L i 1 x h (by omega)
    have hl := (List.getElem?_eq_some_iff.1 h1).1
    rw [List.getElem?_set_self (by simpa using hl), List.getElem?_set_ne (by omega), h1]
  · rw [List.getElem?_set_ne (Ne.symm e)]
/-- tracks and needs as they are gathered -/
structure TS (w0 : World) (lv dv : Value) (L : List Tr) (D : List Nd) (w : World) : Prop where
  own : w.ownsRow w0.heap.size 40 2 lv L.length (L.flatMap tr)
  owd : w.ownsRow w0.heap.size 46 3 dv D.length (D.flatMap nd)
  sep : Sep lv dv
  bel : Below w0.heap.size w0 w
section
variable {w0 w w' : World} {lv dv lv' dv' : Value} {L : List Tr} {D : List Nd}
theorem TS.below (h : TS w0 lv dv L D w) (hb : Below w.heap.size w w') : TS w0 lv dv L D w' :=
  ⟨(Kept.of_below hb (fun _ => False)).own h.own (fun _ _ h => h), (Kept.of_below hb (fun _ => False)).own h.owd (fun _ _ h => h), h.sep, bl_trans h.bel hb⟩
theorem TS.pushL (h : TS w0 lv dv L D w) (x : Tr) (hp : Pushed w w0.heap.size 40 2 lv L.length (L.flatMap tr) (tr x) lv' w') : TS w0 lv' dv (L ++ [x]) D w' :=
  ⟨by rw [trs_snoc, List.length_append]; exact hp.own, hp.other h.owd h.sep, hp.sep h.owd h.sep, hp.below h.bel (Nat.le_refl _) h.bel.size⟩
theorem TS.pushD (h : TS w0 lv dv L D w) (x : Nd) (hp : Pushed w w0.heap.size 46 3 dv D.length (D.flatMap nd) (nd x) dv' w') : TS w0 lv dv' L (D ++ [x]) w' :=
  ⟨hp.other h.own h.sep.symm, by rw [nds_snoc, List.length_append]; exact hp.own, (hp.sep h.own h.sep.symm).symm, hp.below h.bel (Nat.le_refl _) h.bel.size⟩
end
/-- all that is kept while sizes are found -/
structure LS (w0 : World) (lv dv fv : Value) (go Bf : Nat) (M : List Tr) (D : List Nd) (O F : List Int) (w : World) : Prop where
  own : w.ownsRow w0.heap.size 40 2 lv M.length (M.flatMap tr)
  owd : w.ownsRow w0.heap.size 46 3 dv D.length (D.flatMap nd)
  sep : Sep lv dv
  out : Bk w go 3 (O.map (Value.int .i64)).toArray
  ofv : w.ownsRow Bf 3 1 fv F.length (F.map (Value.int .i64))
  bel : Below w0.heap.size w0 w
  lgo : ∀ g, lv.ownBlock = some g → g < go
  dgo : ∀ g, dv.ownBlock = some g → g < go
  gof : go < Bf
  g0 : w0.heap.size ≤ go
  bw : Bf ≤ w.heap.size
section
variable {w0 w w' : World} {lv dv fv fv' : Value} {go Bf : Nat} {M : List Tr} {D D' : List Nd} {O O' F : List Int}
theorem LS.fvge (h : LS w0 lv dv fv go Bf M D O F w) {g : Nat} (hg : fv.ownBlock = some g) : Bf ≤ g := (own_lt h.ofv hg).1
theorem LS.below (h : LS w0 lv dv fv go Bf M D O F w) (hb : Below w.heap.size w w') : LS w0 lv dv fv go Bf M D O F w' :=
  ⟨(Kept.of_below hb (fun _ => False)).own h.own (fun _ _ h => h), (Kept.of_below hb (fun _ => False)).own h.owd (fun _ _ h => h), h.sep, h.out.below hb h.out.lt,
   (Kept.of_below hb (fun _ => False)).own h.ofv (fun _ _ h => h), bl_trans h.bel hb, h.lgo, h.dgo, h.gof, h.g0, Nat.le_trans h.bw hb.size⟩
theorem LS.fill (h : LS w0 lv dv fv go Bf M D O F w) (hk : Kept w w' (fun k => k = go)) (ho : Bk w' go 3 (O'.map (Value.int .i64)).toArray) : LS w0 lv dv fv go Bf M D O' F w' :=
  ⟨hk.own h.own (fun k hk e => by have := h.lgo k hk; omega), hk.own h.owd (fun k hk e => by have := h.dgo k hk; omega), h.sep, ho,
   hk.own h.ofv (fun k hk e => by have := h.fvge hk; have := h.gof; omega),
   h.bel.trans (hk.below (fun k hk => ⟨Nat.lt_of_lt_of_le hk h.bel.size, fun e => by have := h.g0; omega⟩)), h.lgo, h.dgo, h.gof, h.g0, Nat.le_trans h.bw hk.size⟩
theorem LS.setO (h : LS w0 lv dv fv go Bf M D O F w) (i : Nat) (u : Int) : LS w0 lv dv fv go Bf M D (O.set i u) F (w.setCell ⟨go, i, none⟩ (.int .i64 u)) :=
  h.fill ((Kept.refl w (fun k => k = go)).set_ go i (fun _ => rfl) _) (by have := h.out.set_ i (.int .i64 u); simpa [List.map_set] using this)
theorem LS.sorted (h : LS w0 lv dv fv go Bf M D O F w) (hk : Kept w w' (fun k => dv.ownBlock = some k)) (ho : w'.ownsRow w0.heap.size 46 3 dv D'.length (D'.flatMap nd)) : LS w0 lv dv fv go Bf M D' O F w' :=
  ⟨hk.own h.own (fun k hk e => h.sep k hk e), ho, h.sep, hk.bk h.out (fun e => by have := h.dgo _ e; omega),
   hk.own h.ofv (fun k hk e => by have := h.fvge hk; have := h.gof; have := h.dgo k e; omega),
   h.bel.trans (hk.below (fun k hk => ⟨Nat.lt_of_lt_of_le hk h.bel.size, fun e => by have := (own_lt h.owd e).1; omega⟩)), h.lgo, h.dgo, h.gof, h.g0, Nat.le_trans h.bw hk.size⟩
theorem LS.setT {gl cap n : Nat} (h : LS w0 (.slice (some ⟨gl, 0, none⟩) n cap) dv fv go Bf M D O F w) {i : Nat} {x : Tr} (hx : M[i]? = some x) (u : Int) : LS w0 (.slice (some ⟨gl, 0, none⟩) n cap) dv fv go Bf (M.set i ⟨u, x.n⟩) D O F (w.setCell ⟨gl, i * 2, none⟩ (.int .i64 u)) := by
  have hgl : (Value.slice (some ⟨gl, 0, none⟩) n cap).ownBlock = some gl := rfl
  have hl := own_lt h.own hgl
  have hk := (Kept.refl w (fun k => k = gl)).set_ gl (i * 2) (fun _ => rfl) (.int .i64 u)
  refine ⟨?_, hk.own h.owd (fun k hk e => h.sep k (by rw [e]; rfl) hk), h.sep, hk.bk h.out (fun e => by have := h.lgo _ hgl; omega), hk.own h.ofv (fun k hk e => by have := h.fvge hk; have := h.gof; have := h.lgo _ hgl; omega),
    h.bel.trans (hk.below (fun k hk => ⟨Nat.lt_of_lt_of_le hk h.bel.size, fun e => by omega⟩)), h.lgo, h.dgo, h.gof, h.g0, Nat.le_trans h.bw hk.size⟩
  have := own_setN h.own (i * 2) (.int .i64 u)
  rw [trs_set1 hx] at this
  rw [List.length_set]
  exact this
theorem LS.pushF (h : LS w0 lv dv fv go Bf M D O F w) (x : Int) (hp : Pushed w Bf 3 1 fv F.length (F.map (Value.int .i64)) [.int .i64 x] fv' w') : LS w0 lv dv fv' go Bf M D O (F ++ [x]) w' :=
  ⟨hp.other h.own (fun k hk e => by have := h.fvge hk; have := h.lgo k e; have := h.gof; omega), hp.other h.owd (fun k hk e => by have := h.fvge hk; have := h.dgo k e; have := h.gof; omega), h.sep, hp.bk h.out h.gof,
   by rw [List.map_append, List.length_append]; exact hp.own, hp.below h.bel (Nat.le_trans h.g0 (Nat.le_of_lt h.gof)) h.bel.size, h.lgo, h.dgo, h.gof, h.g0, Nat.le_trans h.bw hp.size_⟩
theorem LS.cellsT {A : Option Addr} {cap n : Nat} (h : LS w0 (.slice A n cap) dv fv go Bf M D O F w) {i : Nat} {x : Tr} (hx : M[i]? = some x) : ∃ gl, A = some ⟨gl, 0, none⟩ ∧ gl < w.heap.size ∧ w.frozen? ⟨gl, i * 2, none⟩ = false ∧ w.cell? ⟨gl, i * 2, none⟩ = some (.int .i64 x.k) ∧ w.cell? ⟨gl, i * 2 + 1, none⟩ = some (.int .i64 x.n) := by
  have hi := (List.getElem?_eq_some_iff.1 hx).1
  have hn : n = M.length := by
    obtain ⟨_, A', c', e, _⟩ := RdS.of_own h.own
    injection e
  obtain ⟨g, capa, e, _, hg⟩ := h.own.form (by omega)
  injection e with e1 e2 e3
  subst e1 e2 e3
  refine ⟨g, rfl, hg, own_free h.own _, ?_, ?_⟩
  · have := h.own.cells (g := g) rfl (i * 2) (.int .i64 x.k) (by have := flat_get tr 2 (fun _ => rfl) M i 0 x hx (by omega); rw [Nat.add_zero] at this; rw [this]; rfl)
    rw [add_none, Nat.zero_add] at this
    exact this
  · have := h.own.cells (g := g) rfl (i * 2 + 1) (.int .i64 x.n) (by rw [flat_get tr 2 (fun _ => rfl) M i 1 x hx (by omega)]; rfl)
    rw [add_none, Nat.zero_add] at this
    exact this
theorem LS.cellO (h : LS w0 lv dv fv go Bf M D O F w) {i : Nat} (hi : i < O.length) : w.cell? ⟨go, i, none⟩ = some (.int .i64 (szA O i)) := bk_szA h.out hi
end
/-- the library's sort at any row of needs -/
def SoRet (B : Nat) (dv : Value) (D : List Nd) (w : World) (e : Ending) (w' : World) : Prop := (∃ u, e = .returned u) ∧ w'.ownsRow B 46 3 dv (srtN D).length ((srtN D).flatMap nd) ∧ Kept w w' (fun k => dv.ownBlock = some k)
theorem c_sort {w : World} {B : Nat} {dv : Value} {D : List Nd} (h : w.ownsRow B 46 3 dv D.length (D.flatMap nd)) (hn : D.length ≤ 500) (hs : ∀ x ∈ D, 1 ≤ x.sp ∧ x.sp ≤ 20) :
    Calls Try.prog 30 #[dv, cmpV] w (SoRet B dv D w) := by
  obtain ⟨_, A, c, rfl, _, _⟩ := RdS.of_own h
  by_cases h0 : D.length = 0
  · have hD : D = [] := List.eq_nil_of_length_eq_zero h0
    subst hD
    have HOW := Lib.hid h
    have HI := Lib.hid (c_insert0 (.slice A 0 c) w 0 0 (by omega) (by omega))
    have HST : Hid (Calls Try.prog 41 #[.slice A 0 c, .int .i64 (0 : Int), cmpV] w (fun e w' => (∃ u, e = .returned u) ∧ w = w')) := by
      unfold Hid
      go_enter Try.func41, Try.ntmps41
      go_wp2_with fail
      refine wp_loop_rounds 1 ?_
      rw [rounds_succ]
      go_wp2_with fail
      refine HI.out.mono ?_
      rintro e w' ⟨⟨u, rfl⟩, rfl⟩
      go_wp2_with fail
      refine wp_loop_rounds 1 ?_
      rw [rounds_succ]
      go_wp2_with fail
      go_end0
      exact ⟨⟨_, rfl⟩, rfl⟩
    have HK := Lib.hid (Kept.refl w (fun k => (Value.slice A 0 c).ownBlock = some k))
    clear h h0
    go_enter Try.func30, Try.ntmps30
    go_wp2_with fail
    refine HST.out.mono ?_
    rintro e w' ⟨⟨u, rfl⟩, rfl⟩
    go_wp2_with fail
    go_end0
    exact ⟨⟨_, rfl⟩, HOW.out, HK.out⟩
  · obtain ⟨n, hnn⟩ : ∃ n, n = D.length := ⟨_, rfl⟩
    rw [← hnn] at h h0 hn ⊢
    obtain ⟨g, cap, e, hcap, hg⟩ := h.form (by omega)
    injection e with e1 e2 e3
    subst e1 e3
    have hso : SOk B g c n w D w := ⟨h, Kept.refl _ _⟩
    have HC := Lib.hid (c_stable hso hn (fun i x hx => hs x (List.mem_of_getElem? hx)))
    have HQ := Lib.hid (fun D' hm hs' => srt_eq (D' := D') hnn.symm hm hs' hs)
    clear h hso h0 hs hg
    have HNN := Lib.hid hnn
    clear hnn
    go_enter Try.func30, Try.ntmps30
    go_wp2_with fail
    refine HC.out.mono ?_
    rintro e w' ⟨⟨u, rfl⟩, L', ⟨hm, hs'⟩, hs2⟩
    have HE := Lib.hid (HQ.out L' hm hs')
    have HS2 := Lib.hid hs2
    clear hm hs' hs2
    go_wp2_with fail
    go_end0
    refine ⟨⟨_, rfl⟩, ?_, ?_⟩
    · rw [← HE.out, HS2.out.len]; exact HS2.out.own
    · exact HS2.out.kept.mono (fun k _ hk => by subst hk; rfl)
/-- what sizing gives -/
def TkRet (w : World) (O : List Int) (e : Ending) (w' : World) : Prop := ∃ g, e = .returned (.slice (some ⟨g, 0, none⟩) O.length O.length) ∧ w.heap.size ≤ g ∧ Bk w' g 3 (O.map (Value.int .i64)).toArray ∧ Below w.heap.size w w'
end Go.Proofs.Ytdpnpjficcciiaa
