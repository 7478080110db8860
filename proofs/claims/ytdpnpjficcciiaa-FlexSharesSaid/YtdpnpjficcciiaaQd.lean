/- seat C: the reference's row: its memory; what is left -/
import Derived.Test.YtdpnpjficcciiaaQb
import Derived.Test.YtdpnpjficcciiaaShb
import Derived.Test.YtdpnpjficcciiaaCd
namespace Go.Proofs.Ytdpnpjficcciiaa
set_option linter.unusedVariables false
set_option linter.unusedSimpArgs false
open Go.RowKit Go.Cas

structure RG (B g1 g2 g3 : Nat) : Prop where
  h1 : B ≤ g1
  h2 : B ≤ g2
  h3 : B ≤ g3
  n12 : g1 ≠ g2
  n13 : g1 ≠ g3
  n23 : g2 ≠ g3
/-- what the reference's Share holds: lim: below it lies what was there ahead of its own three rows -/
structure RSt (w : World) (B lim g1 g2 g3 : Nat) (A : Option Addr) (c n : Nat) (L : List FI) (sz : List Int) (st : List Bool) (fs : List Int) (wr : World) : Prop where
  items : RdS wr lim 6 (.slice A n c) n (L.flatMap fi)
  size : Bk wr g1 3 (sz.map (Value.int .i64)).toArray
  stt : Bk wr g2 4 (st.map Value.bool).toArray
  fac : Bk wr g3 3 (fs.map (Value.int .i64)).toArray
  lenL : L.length = n
  lenz : sz.length = n
  lens : st.length = n
  lenf : fs.length = n
  geo : RG lim g1 g2 g3
  limB : B ≤ lim
  bel : Below B w wr
section
variable {w wr w' : World} {B lim g1 g2 g3 c n : Nat} {A : Option Addr} {L : List FI} {sz : List Int} {st : List Bool} {fs : List Int}
theorem RSt.lt1 (h : RSt w B lim g1 g2 g3 A c n L sz st fs wr) : g1 < wr.heap.size := h.size.lt
theorem RSt.lt2 (h : RSt w B lim g1 g2 g3 A c n L sz st fs wr) : g2 < wr.heap.size := h.stt.lt
theorem RSt.lt3 (h : RSt w B lim g1 g2 g3 A c n L sz st fs wr) : g3 < wr.heap.size := h.fac.lt
theorem RSt.ltL (h : RSt w B lim g1 g2 g3 A c n L sz st fs wr) : lim < wr.heap.size := by have := h.lt1; have := h.geo.h1; omega
theorem RSt.ltB (h : RSt w B lim g1 g2 g3 A c n L sz st fs wr) : B ≤ wr.heap.size := by have := h.ltL; have := h.limB; omega
theorem RSt.below (h : RSt w B lim g1 g2 g3 A c n L sz st fs wr) (hb : Below wr.heap.size wr w') : RSt w B lim g1 g2 g3 A c n L sz st fs w' :=
  ⟨h.items.below' hb (Nat.le_of_lt h.ltL), h.size.below hb h.lt1, h.stt.below hb h.lt2, h.fac.below hb h.lt3, h.lenL, h.lenz, h.lens, h.lenf, h.geo, h.limB, h.bel.trans (hb.mono h.ltB)⟩
theorem RSt.alloc (h : RSt w B lim g1 g2 g3 A c n L sz st fs wr) (o : Obj) : RSt w B lim g1 g2 g3 A c n L sz st fs (wr.alloc o) := h.below (bl_alloc (Below.refl _ _) o)
theorem RSt.drew (h : RSt w B lim g1 g2 g3 A c n L sz st fs wr) : RSt w B lim g1 g2 g3 A c n L sz st fs wr.drew := h.below (bl_drew (Below.refl _ _))
theorem rd_set {w : World} {lim n : Nat} {v : Value} {xs : List Value} {g o : Nat} {u : Value} (h : RdS w lim 6 v n xs) (hg : lim ≤ g) : RdS (w.setCell ⟨g, o, none⟩ u) lim 6 v n xs :=
  h.keep fun b q hb => World.cell?_setCell_other w ⟨g, o, none⟩ ⟨b, q, none⟩ u (fun e => by injection e; omega)
theorem RSt.far {g : Nat} (h : RSt w B lim g1 g2 g3 A c n L sz st fs wr) (h0 : lim ≤ g) (h1 : g ≠ g1) (h2 : g ≠ g2) (h3 : g ≠ g3) (o : Nat) (u : Value) : RSt w B lim g1 g2 g3 A c n L sz st fs (wr.setCell ⟨g, o, none⟩ u) := by
  have hl := h.limB
  exact ⟨rd_set h.items h0, h.size.far (p := ⟨g, o, none⟩) (Ne.symm h1) u, h.stt.far (p := ⟨g, o, none⟩) (Ne.symm h2) u, h.fac.far (p := ⟨g, o, none⟩) (Ne.symm h3) u, h.lenL, h.lenz, h.lens, h.lenf, h.geo, h.limB, h.bel.setCell (p := ⟨g, o, none⟩) (by show B ≤ g; omega) u⟩
theorem RSt.setZ (h : RSt w B lim g1 g2 g3 A c n L sz st fs wr) (k : Nat) (u : Int) : RSt w B lim g1 g2 g3 A c n L (sz.set k u) st fs (wr.setCell ⟨g1, k, none⟩ (.int .i64 u)) := by
  have hl := h.limB
  obtain ⟨a1, a2, a3, a4, a5, a6⟩ := h.geo
  refine ⟨rd_set h.items a1, ?_, h.stt.far (p := ⟨g1, k, none⟩) (Ne.symm a4) _, h.fac.far (p := ⟨g1, k, none⟩) (Ne.symm a5) _, h.lenL, by simp [h.lenz], h.lens, h.lenf, h.geo, h.limB, h.bel.setCell (p := ⟨g1, k, none⟩) (by show B ≤ g1; omega) _⟩
  have := h.size.set_ k (.int .i64 u)
  simpa [List.map_set] using this
theorem RSt.setS (h : RSt w B lim g1 g2 g3 A c n L sz st fs wr) (k : Nat) (u : Bool) : RSt w B lim g1 g2 g3 A c n L sz (st.set k u) fs (wr.setCell ⟨g2, k, none⟩ (.bool u)) := by
  have hl := h.limB
  obtain ⟨a1, a2, a3, a4, a5, a6⟩ := h.geo
  refine ⟨rd_set h.items a2, h.size.far (p := ⟨g2, k, none⟩) a4 _, ?_, h.fac.far (p := ⟨g2, k, none⟩) (Ne.symm a6) _, h.lenL, h.lenz, by simp [h.lens], h.lenf, h.geo, h.limB, h.bel.setCell (p := ⟨g2, k, none⟩) (by show B ≤ g2; omega) _⟩
  have := h.stt.set_ k (.bool u)
  simpa [List.map_set] using this
theorem RSt.setF (h : RSt w B lim g1 g2 g3 A c n L sz st fs wr) (k : Nat) (u : Int) : RSt w B lim g1 g2 g3 A c n L sz st (fs.set k u) (wr.setCell ⟨g3, k, none⟩ (.int .i64 u)) := by
  have hl := h.limB
  obtain ⟨a1, a2, a3, a4, a5, a6⟩ := h.geo
  refine ⟨rd_set h.items a3, h.size.far (p := ⟨g3, k, none⟩) a5 _, h.stt.far (p := ⟨g3, k, none⟩) a6 _, ?_, h.lenL, h.lenz, h.lens, by simp [h.lenf], h.geo, h.limB, h.bel.setCell (p := ⟨g3, k, none⟩) (by show B ≤ g3; omega) _⟩
  have := h.fac.set_ k (.int .i64 u)
  simpa [List.map_set] using this
theorem RSt.cZ (h : RSt w B lim g1 g2 g3 A c n L sz st fs wr) {k : Nat} (hk : k < n) : wr.cell? ⟨g1, k, none⟩ = some (.int .i64 (szA sz k)) := by
  rw [h.size.cell]
  have : sz[k]? = some (szA sz k) := by rw [List.getElem?_eq_getElem (by rw [h.lenz]; exact hk), szA_eq (List.getElem?_eq_getElem (by rw [h.lenz]; exact hk))]
  simp [this]
theorem RSt.cS (h : RSt w B lim g1 g2 g3 A c n L sz st fs wr) {k : Nat} (hk : k < n) : wr.cell? ⟨g2, k, none⟩ = some (.bool (stA st k)) := by
  rw [h.stt.cell]
  have : st[k]? = some (stA st k) := by rw [List.getElem?_eq_getElem (by rw [h.lens]; exact hk), stA_eq (List.getElem?_eq_getElem (by rw [h.lens]; exact hk))]
  simp [this]
theorem RSt.cF (h : RSt w B lim g1 g2 g3 A c n L sz st fs wr) {k : Nat} (hk : k < n) : wr.cell? ⟨g3, k, none⟩ = some (.int .i64 (szA fs k)) := by
  rw [h.fac.cell]
  have : fs[k]? = some (szA fs k) := by rw [List.getElem?_eq_getElem (by rw [h.lenf]; exact hk), szA_eq (List.getElem?_eq_getElem (by rw [h.lenf]; exact hk))]
  simp [this]
theorem RSt.item (h : RSt w B lim g1 g2 g3 A c n L sz st fs wr) {k : Nat} (hk : k < n) : ∃ g o, A = some ⟨g, o, none⟩ ∧ g < lim ∧ ∀ w', Below lim wr w' →
    (w'.cell? ⟨g, o + k * 6, none⟩ = some (.int .i64 (itA L k).b) ∧ w'.cell? ⟨g, o + k * 6 + 1, none⟩ = some (.int .i64 (itA L k).mn) ∧ w'.cell? ⟨g, o + k * 6 + 2, none⟩ = some (.int .i64 (itA L k).mx) ∧ w'.cell? ⟨g, o + k * 6 + 3, none⟩ = some (.int .i64 (itA L k).ar) ∧ w'.cell? ⟨g, o + k * 6 + 4, none⟩ = some (.int .i64 (itA L k).g) ∧ w'.cell? ⟨g, o + k * 6 + 5, none⟩ = some (.int .i64 (itA L k).s)) := by
  have hx : L[k]? = some (itA L k) := by rw [List.getElem?_eq_getElem (by rw [h.lenL]; exact hk), itA_eq (List.getElem?_eq_getElem (by rw [h.lenL]; exact hk))]
  exact rd_fi h.items hk hx
end
set_option maxRecDepth 100000 in
set_option maxHeartbeats 4000000 in
theorem r_left {w wr : World} {B lim g1 g2 g3 c n : Nat} {A : Option Addr} {L : List FI} {sz : List Int} {st : List Bool} {fs : List Int} {room : Int} (h : RSt w B lim g1 g2 g3 A c n L sz st fs wr) (hn : n ≤ 200) (hv : ∀ i, i < n → 0 ≤ valI L sz st i ∧ valI L sz st i ≤ 200000000000) (hroom : -100000000000 ≤ room ∧ room ≤ 100000000000) :
    Calls Try.prog 24 #[.slice A n c, .slice (some ⟨g1, 0, none⟩) n n, .slice (some ⟨g2, 0, none⟩) n n, .int .i64 room] wr fun e w' => e = .returned (.int .i64 (freeF L sz st room n)) ∧ wr = w' := by
  have H := Lib.hid h
  have HV := Lib.hid hv
  have hs : ∀ k, k ≤ n → 0 ≤ sumTo (valI L sz st) k ∧ sumTo (valI L sz st) k ≤ 200000000000 * k := fun k hk => by
    have := sumTo_bd hv k hk
    omega
  have HS := Lib.hid hs
  clear h hv hs
  go_enter Try.func24, Try.ntmps24
  go_wp2_with fail
  go_loop [3, 9] (fun a i => ∃ (k : Nat), k ≤ n ∧ i = .int .i64 k ∧ a = .int .i64 (freeF L sz st room k)) (fun _ i => n - (intOf i).toNat)
  case atStart => exact ⟨0, by omega, rfl, by simp [freeF, sumTo]⟩
  case round =>
    obtain ⟨k, hk, rfl, rfl⟩ := hrel
    by_cases hlt : k < n
    · have hik : (k : Int) < (n : Int) := by omega
      have z1 := H.out.cZ hlt; have z2 := H.out.cS hlt
      obtain ⟨g, o, eA, hg, hc⟩ := H.out.item hlt
      subst eA
      obtain ⟨d0, d1, d2, d3, d4, d5⟩ := hc _ (Below.refl _ _)
      have hs1 := HS.out k (by omega)
      have hvk := HV.out k hlt
      have HE : Hid (freeF L sz st room (k + 1) = freeF L sz st room k - valI L sz st k) := by unfold Hid freeF; simp only [sumTo]; omega
      have hf : freeF L sz st room k = room - sumTo (valI L sz st) k := rfl
      have hfb : -100000000000 - 200000000000 * 200 ≤ freeF L sz st room k ∧ freeF L sz st room k ≤ 100000000000 := by omega
      have HVI : Hid (valI L sz st k = if stA st k = true then szA sz k else (itA L k).b) := rfl
      obtain ⟨F, hF⟩ : ∃ F, F = freeF L sz st room k := ⟨_, rfl⟩
      rw [← hF] at hfb HE ⊢
      obtain ⟨V, hV⟩ : ∃ V, V = valI L sz st k := ⟨_, rfl⟩
      rw [← hV] at hvk HE HVI
      obtain ⟨x, hx⟩ : ∃ x, x = itA L k := ⟨_, rfl⟩
      rw [← hx] at d0 d1 d2 d3 d4 d5 HVI
      obtain ⟨z, hz⟩ : ∃ z, z = szA sz k := ⟨_, rfl⟩
      rw [← hz] at z1 HVI
      obtain ⟨s, hs⟩ : ∃ s, s = stA st k := ⟨_, rfl⟩
      rw [← hs] at z2 HVI
      clear hc hf hs1 hF hV hx hz hs
      obtain ⟨xb, xmn, xmx, xar, xg, xs⟩ := x
      simp only at d0 d1 d2 d3 d4 d5
      cases s
      · have e : V = xb := HVI.out
        subst e
        have w1 : IntKind.i64.wrap (F - V) = F - V := IntWalk.i64_in _ (by omega)
        go_wp2_with fail
        go_round
        case rel => exact ⟨k + 1, by omega, by go_num, by rw [HE.out]⟩
        case measure => simp [intOf]; omega
      · have e : V = z := HVI.out
        subst e
        have w1 : IntKind.i64.wrap (F - V) = F - V := IntWalk.i64_in _ (by omega)
        go_wp2_with fail
        go_round
        case rel => exact ⟨k + 1, by omega, by go_num, by rw [HE.out]⟩
        case measure => simp [intOf]; omega
    · obtain rfl : k = n := by omega
      have hik : ¬ (k : Int) < (k : Int) := by omega
      go_wp2_with fail
      go_ret
      exact ⟨rfl, rfl⟩
end Go.Proofs.Ytdpnpjficcciiaa
