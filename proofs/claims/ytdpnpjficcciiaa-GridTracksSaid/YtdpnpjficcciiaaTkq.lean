/- seat C: the reference's tracks: its memory -/
import Derived.Test.YtdpnpjficcciiaaTkf
import Derived.Test.YtdpnpjficcciiaaTkr
import Derived.Test.YtdpnpjficcciiaaTkd
import Derived.Test.YtdpnpjficcciiaaQa
import Derived.Test.YtdpnpjficcciiaaQc
namespace Go.Proofs.Ytdpnpjficcciiaa
set_option linter.unusedVariables false
set_option linter.unusedSimpArgs false
open Go.RowKit Go.Cas

theorem inf_TrR : (Try.prog.info? 42).map (fun i => (i.zero, i.size, i.bytes)) = some (some (agT t0), 2, 16) := by kernel_rfl
theorem inf_NdR : (Try.prog.info? 45).map (fun i => (i.zero, i.size, i.bytes)) = some (some (.agg #[.int .i64 0, .int .i64 0, .int .i64 0]), 3, 24) := by kernel_rfl
theorem pushed_lies {w w1 : World} {base n size g cap : Nat} {e : TypeId} {v : Value} {xs ys : List Value} {o : Obj} (hown : w.ownsRow base e size v n xs) (h : w1.ownsRow base e size (.slice (some ⟨g, 0, none⟩) (n + 1) cap) (n + 1) (xs ++ ys)) (hg : ((w.alloc o).drew).grownBy w1 v.ownBlock) (hat : v.ownBlock = some g ∨ g = w.heap.size + 1) : Pushed w base e size v n xs ys (.slice (some ⟨g, 0, none⟩) (n + 1) cap) w1 := by
  refine ⟨h, (World.grownBy_alloc w o v.ownBlock).trans ⟨hg.os, hg.tape, hg.output, hg.size, hg.block⟩, ?_, hown⟩
  rcases hat with hat | hat
  · exact .inl hat.symm
  · exact .inr ⟨g, by omega, rfl⟩
/-- tracks and needs as they are gathered -/
structure TSr (w0 : World) (lv dv : Value) (L : List Tr) (D : List Nd) (w : World) : Prop where
  own : w.ownsRow w0.heap.size 42 2 lv L.length (L.flatMap tr)
  owd : w.ownsRow w0.heap.size 45 3 dv D.length (D.flatMap nd)
  sep : Sep lv dv
  bel : Below w0.heap.size w0 w
section
variable {w0 w w' : World} {lv dv lv' dv' : Value} {L : List Tr} {D : List Nd}
theorem TSr.below (h : TSr w0 lv dv L D w) (hb : Below w.heap.size w w') : TSr w0 lv dv L D w' :=
  ⟨(Kept.of_below hb (fun _ => False)).own h.own (fun _ _ h => h), (Kept.of_below hb (fun _ => False)).own h.owd (fun _ _ h => h), h.sep, bl_trans h.bel hb⟩
theorem TSr.pushL (h : TSr w0 lv dv L D w) (x : Tr) (hp : Pushed w w0.heap.size 42 2 lv L.length (L.flatMap tr) (tr x) lv' w') : TSr w0 lv' dv (L ++ [x]) D w' :=
  ⟨by rw [trs_snoc, List.length_append]; exact hp.own, hp.other h.owd h.sep, hp.sep h.owd h.sep, hp.below h.bel (Nat.le_refl _) h.bel.size⟩
theorem TSr.pushD (h : TSr w0 lv dv L D w) (x : Nd) (hp : Pushed w w0.heap.size 45 3 dv D.length (D.flatMap nd) (nd x) dv' w') : TSr w0 lv dv' L (D ++ [x]) w' :=
  ⟨hp.other h.own h.sep.symm, by rw [nds_snoc, List.length_append]; exact hp.own, (hp.sep h.own h.sep.symm).symm, hp.below h.bel (Nat.le_refl _) h.bel.size⟩
end
/-- all that is kept while sizes are found -/
structure LSr (w0 : World) (lv dv fv : Value) (go Bf : Nat) (M : List Tr) (D : List Nd) (O F : List Int) (w : World) : Prop where
  own : w.ownsRow w0.heap.size 42 2 lv M.length (M.flatMap tr)
  owd : w.ownsRow w0.heap.size 45 3 dv D.length (D.flatMap nd)
  sep : Sep lv dv
  out : Bk w go 3 (O.map (Value.int .i64)).toArray
  ofv : w.ownsRow Bf 3 1 fv F.length (F.map (Value.int .i64))
  bel : Below w0.heap.size w0 w
  lgo : ∀ g, lv.ownBlock = some g → g < go
  dgo : ∀ g, dv.ownBlock = some g → g < go
  gof : go < Bf
  g0 : w0.heap.size ≤ go
  bw : Bf ≤ w.heap.size
section
variable {w0 w w' : World} {lv dv fv fv' : Value} {go Bf : Nat} {M : List Tr} {D D' : List Nd} {O O' F : List Int}
theorem LSr.fvge (h : LSr w0 lv dv fv go Bf M D O F w) {g : Nat} (hg : fv.ownBlock = some g) : Bf ≤ g := (own_lt h.ofv hg).1
theorem LSr.below (h : LSr w0 lv dv fv go Bf M D O F w) (hb : Below w.heap.size w w') : LSr w0 lv dv fv go Bf M D O F w' :=
  ⟨(Kept.of_below hb (fun _ => False)).own h.own (fun _ _ h => h), (Kept.of_below hb (fun _ => False)).own h.owd (fun _ _ h => h), h.sep, h.out.below hb h.out.lt,
   (Kept.of_below hb (fun _ => False)).own h.ofv (fun _ _ h => h), bl_trans h.bel hb, h.lgo, h.dgo, h.gof, h.g0, Nat.le_trans h.bw hb.size⟩
theorem LSr.fill (h : LSr w0 lv dv fv go Bf M D O F w) (hk : Kept w w' (fun k => k = go)) (ho : Bk w' go 3 (O'.map (Value.int .i64)).toArray) : LSr w0 lv dv fv go Bf M D O' F w' :=
  ⟨hk.own h.own (fun k hk e => by have := h.lgo k hk; omega), hk.own h.owd (fun k hk e => by have := h.dgo k hk; omega), h.sep, ho,
   hk.own h.ofv (fun k hk e => by have := h.fvge hk; have := h.gof; omega),
   h.bel.trans (hk.below (fun k hk => ⟨Nat.lt_of_lt_of_le hk h.bel.size, fun e => by have := h.g0; omega⟩)), h.lgo, h.dgo, h.gof, h.g0, Nat.le_trans h.bw hk.size⟩
theorem LSr.setO (h : LSr w0 lv dv fv go Bf M D O F w) (i : Nat) (u : Int) : LSr w0 lv dv fv go Bf M D (O.set i u) F (w.setCell ⟨go, i, none⟩ (.int .i64 u)) :=
  h.fill ((Kept.refl w (fun k => k = go)).set_ go i (fun _ => rfl) _) (by have := h.out.set_ i (.int .i64 u); simpa [List.map_set] using this)
theorem LSr.sorted (h : LSr w0 lv dv fv go Bf M D O F w) (hk : Kept w w' (fun k => dv.ownBlock = some k)) (ho : w'.ownsRow w0.heap.size 45 3 dv D'.length (D'.flatMap nd)) : LSr w0 lv dv fv go Bf M D' O F w' :=
  ⟨hk.own h.own (fun k hk e => h.sep k hk e), ho, h.sep, hk.bk h.out (fun e => by have := h.dgo _ e; omega),
   hk.own h.ofv (fun k hk e => by have := h.fvge hk; have := h.gof; have := h.dgo k e; omega),
   h.bel.trans (hk.below (fun k hk => ⟨Nat.lt_of_lt_of_le hk h.bel.size, fun e => by have := (own_lt h.owd e).1; omega⟩)), h.lgo, h.dgo, h.gof, h.g0, Nat.le_trans h.bw hk.size⟩
theorem LSr.setT {gl cap n : Nat} (h : LSr w0 (.slice (some ⟨gl, 0, none⟩) n cap) dv fv go Bf M D O F w) {i : Nat} {x : Tr} (hx : M[i]? = some x) (u : Int) : LSr w0 (.slice (some ⟨gl, 0, none⟩) n cap) dv fv go Bf (M.set i ⟨u, x.n⟩) D O F (w.setCell ⟨gl, i * 2, none⟩ (.int .i64 u)) := by
  have hgl : (Value.slice (some ⟨gl, 0, none⟩) n cap).ownBlock = some gl := rfl
  have hl := own_lt h.own hgl
  have hk := (Kept.refl w (fun k => k = gl)).set_ gl (i * 2) (fun _ => rfl) (.int .i64 u)
  refine ⟨?_, hk.own h.owd (fun k hk e => h.sep k (by rw [e]; rfl) hk), h.sep, hk.bk h.out (fun e => by have := h.lgo _ hgl; omega), hk.own h.ofv (fun k hk e => by have := h.fvge hk; have := h.gof; have := h.lgo _ hgl; omega),
    h.bel.trans (hk.below (fun k hk => ⟨Nat.lt_of_lt_of_le hk h.bel.size, fun e => by omega⟩)), h.lgo, h.dgo, h.gof, h.g0, Nat.le_trans h.bw hk.size⟩
  have := own_setN h.own (i * 2) (.int .i64 u)
  rw [trs_set1 hx] at this
  rw [List.length_set]
  exact this
theorem LSr.pushF (h : LSr w0 lv dv fv go Bf M D O F w) (x : Int) (hp : Pushed w Bf 3 1 fv F.length (F.map (Value.int .i64)) [.int .i64 x] fv' w') : LSr w0 lv dv fv' go Bf M D O (F ++ [x]) w' :=
  ⟨hp.other h.own (fun k hk e => by have := h.fvge hk; have := h.lgo k e; have := h.gof; omega), hp.other h.owd (fun k hk e => by have := h.fvge hk; have := h.dgo k e; have := h.gof; omega), h.sep, hp.bk h.out h.gof,
   by rw [List.map_append, List.length_append]; exact hp.own, hp.below h.bel (Nat.le_trans h.g0 (Nat.le_of_lt h.gof)) h.bel.size, h.lgo, h.dgo, h.gof, h.g0, Nat.le_trans h.bw hp.size_⟩
theorem LSr.cellsT {A : Option Addr} {cap n : Nat} (h : LSr w0 (.slice A n cap) dv fv go Bf M D O F w) {i : Nat} {x : Tr} (hx : M[i]? = some x) : ∃ gl, A = some ⟨gl, 0, none⟩ ∧ gl < w.heap.size ∧ w.frozen? ⟨gl, i * 2, none⟩ = false ∧ w.cell? ⟨gl, i * 2, none⟩ = some (.int .i64 x.k) ∧ w.cell? ⟨gl, i * 2 + 1, none⟩ = some (.int .i64 x.n) := by
  have hi := (List.getElem?_eq_some_iff.1 hx).1
  have hn : n = M.length := by
    obtain ⟨_, A', c', e, _⟩ := RdS.of_own h.own
    injection e
  obtain ⟨g, capa, e, _, hg⟩ := h.own.form (by omega)
  injection e with e1 e2 e3
  subst e1 e2 e3
  refine ⟨g, rfl, hg, own_free h.own _, ?_, ?_⟩
  · have := h.own.cells (g := g) rfl (i * 2) (.int .i64 x.k) (by have := flat_get tr 2 (fun _ => rfl) M i 0 x hx (by omega); rw [Nat.add_zero] at this; rw [this]; rfl)
    rw [add_none, Nat.zero_add] at this
    exact this
  · have := h.own.cells (g := g) rfl (i * 2 + 1) (.int .i64 x.n) (by rw [flat_get tr 2 (fun _ => rfl) M i 1 x hx (by omega)]; rfl)
    rw [add_none, Nat.zero_add] at this
    exact this
theorem LSr.cellO (h : LSr w0 lv dv fv go Bf M D O F w) {i : Nat} (hi : i < O.length) : w.cell? ⟨go, i, none⟩ = some (.int .i64 (szA O i)) := bk_szA h.out hi
end
theorem r_Down (a : Int) (w : World) (h : 0 ≤ a ∧ a ≤ 1000000000000000000) : Calls Try.prog 35 #[.int .i64 a, .int .i64 100000] w fun e w' => e = .returned (.int .i64 (a / 100000)) ∧ w = w' := by
  have h1 : ¬ a < a / 100000 * 100000 := by omega
  go_enter Try.func35, Try.ntmps35
  go_wp2_with fail
  go_ret
  exact ⟨rfl, rfl⟩
end Go.Proofs.Ytdpnpjficcciiaa
