/- seat C: the sharer's memory; its factor; what is free -/
import Derived.Test.YtdpnpjficcciiaaCb
namespace Go.Proofs.Ytdpnpjficcciiaa
set_option linter.unusedVariables false
set_option linter.unusedSimpArgs false
open Go.RowKit Go.Cas

/-- where its parts lie -/
structure SG (B R g1 g2 : Nat) : Prop where
  hR : B ≤ R
  h1 : R < g1
  h2 : R < g2
  ne : g1 ≠ g2
/-- what a sharer holds -/
structure SSt (w : World) (B R g1 g2 : Nat) (A : Option Addr) (c n : Nat) (L : List FI) (sz : List Int) (st : List Bool) (gr : Bool) (room : Int) (wr : World) : Prop where
  hd : Bk wr R 53 #[.slice A n c, .slice (some ⟨g1, 0, none⟩) n n, .slice (some ⟨g2, 0, none⟩) n n, .bool gr, .int .i64 room]
  items : RdS wr R 6 (.slice A n c) n (L.flatMap fi)
  size : Bk wr g1 3 (sz.map (Value.int .i64)).toArray
  stt : Bk wr g2 4 (st.map Value.bool).toArray
  lenL : L.length = n
  lenz : sz.length = n
  lens : st.length = n
  geo : SG B R g1 g2
  bel : Below B w wr
  fb : ∀ x ∈ L, FB x
section
variable {w wr w' : World} {B R g1 g2 c n : Nat} {A : Option Addr} {L : List FI} {sz : List Int} {st : List Bool} {gr : Bool} {room : Int}
theorem SSt.lt1 (h : SSt w B R g1 g2 A c n L sz st gr room wr) : g1 < wr.heap.size := h.size.lt
theorem SSt.lt2 (h : SSt w B R g1 g2 A c n L sz st gr room wr) : g2 < wr.heap.size := h.stt.lt
theorem SSt.ltR (h : SSt w B R g1 g2 A c n L sz st gr room wr) : R < wr.heap.size := h.hd.lt
theorem SSt.ltB (h : SSt w B R g1 g2 A c n L sz st gr room wr) : B ≤ wr.heap.size := by have := h.ltR; have := h.geo.hR; omega
theorem SSt.below (h : SSt w B R g1 g2 A c n L sz st gr room wr) (hb : Below wr.heap.size wr w') : SSt w B R g1 g2 A c n L sz st gr room w' :=
  ⟨h.hd.below hb h.ltR, h.items.below' hb (Nat.le_of_lt h.ltR), h.size.below hb h.lt1, h.stt.below hb h.lt2, h.lenL, h.lenz, h.lens, h.geo, h.bel.trans (hb.mono h.ltB), h.fb⟩
theorem SSt.alloc (h : SSt w B R g1 g2 A c n L sz st gr room wr) (o : Obj) : SSt w B R g1 g2 A c n L sz st gr room (wr.alloc o) := h.below (bl_alloc (Below.refl _ _) o)
theorem SSt.drewN (h : SSt w B R g1 g2 A c n L sz st gr room wr) (k : Nat) : SSt w B R g1 g2 A c n L sz st gr room (wr.drewN k) := h.below (bl_drewN (Below.refl _ _) k)
theorem SSt.drew (h : SSt w B R g1 g2 A c n L sz st gr room wr) : SSt w B R g1 g2 A c n L sz st gr room wr.drew := h.below (bl_drew (Below.refl _ _))
theorem SSt.far {g : Nat} (h : SSt w B R g1 g2 A c n L sz st gr room wr) (h1 : R < g) (h2 : g ≠ g1) (h3 : g ≠ g2) (o : Nat) (u : Value) : SSt w B R g1 g2 A c n L sz st gr room (wr.setCell ⟨g, o, none⟩ u) := by
  have hg := h.geo.hR
  exact ⟨h.hd.far (p := ⟨g, o, none⟩) (by show R ≠ g; omega) u, h.items.keep fun b q hb => World.cell?_setCell_other wr ⟨g, o, none⟩ ⟨b, q, none⟩ u (fun e => by injection e; omega), h.size.far (p := ⟨g, o, none⟩) (Ne.symm h2) u, h.stt.far (p := ⟨g, o, none⟩) (Ne.symm h3) u, h.lenL, h.lenz, h.lens, h.geo, h.bel.setCell (p := ⟨g, o, none⟩) (by show B ≤ g; omega) u, h.fb⟩
theorem SSt.setZ (h : SSt w B R g1 g2 A c n L sz st gr room wr) (k : Nat) (u : Int) : SSt w B R g1 g2 A c n L (sz.set k u) st gr room (wr.setCell ⟨g1, k, none⟩ (.int .i64 u)) := by
  have hg := h.geo
  obtain ⟨a1, a2, a3, a4⟩ := hg
  refine ⟨h.hd.far (p := ⟨g1, k, none⟩) (by show R ≠ g1; omega) _, h.items.keep fun b q hb => World.cell?_setCell_other wr ⟨g1, k, none⟩ ⟨b, q, none⟩ _ (fun e => by injection e; omega), ?_, h.stt.far (p := ⟨g1, k, none⟩) (Ne.symm a4) _, h.lenL, by simp [h.lenz], h.lens, h.geo, h.bel.setCell (p := ⟨g1, k, none⟩) (by show B ≤ g1; omega) _, h.fb⟩
  have := h.size.set_ k (.int .i64 u)
  simpa [List.map_set] using this
theorem SSt.setS (h : SSt w B R g1 g2 A c n L sz st gr room wr) (k : Nat) (u : Bool) : SSt w B R g1 g2 A c n L sz (st.set k u) gr room (wr.setCell ⟨g2, k, none⟩ (.bool u)) := by
  have hg := h.geo
  obtain ⟨a1, a2, a3, a4⟩ := hg
  refine ⟨h.hd.far (p := ⟨g2, k, none⟩) (by show R ≠ g2; omega) _, h.items.keep fun b q hb => World.cell?_setCell_other wr ⟨g2, k, none⟩ ⟨b, q, none⟩ _ (fun e => by injection e; omega), h.size.far (p := ⟨g2, k, none⟩) a4 _, ?_, h.lenL, h.lenz, by simp [h.lens], h.geo, h.bel.setCell (p := ⟨g2, k, none⟩) (by show B ≤ g2; omega) _, h.fb⟩
  have := h.stt.set_ k (.bool u)
  simpa [List.map_set] using this
theorem SSt.setRoom (h : SSt w B R g1 g2 A c n L sz st gr room wr) (u : Int) : SSt w B R g1 g2 A c n L sz st gr u (wr.setCell ⟨R, 4, none⟩ (.int .i64 u)) := by
  have hg := h.geo
  obtain ⟨a1, a2, a3, a4⟩ := hg
  refine ⟨?_, h.items.keep fun b q hb => World.cell?_setCell_other wr ⟨R, 4, none⟩ ⟨b, q, none⟩ _ (fun e => by injection e; omega), h.size.far (p := ⟨R, 4, none⟩) (by show g1 ≠ R; omega) _, h.stt.far (p := ⟨R, 4, none⟩) (by show g2 ≠ R; omega) _, h.lenL, h.lenz, h.lens, h.geo, h.bel.setCell (p := ⟨R, 4, none⟩) a1 _, h.fb⟩
  have := h.hd.set_ 4 (.int .i64 u)
  simpa using this
theorem SSt.setGr (h : SSt w B R g1 g2 A c n L sz st gr room wr) (u : Bool) : SSt w B R g1 g2 A c n L sz st u room (wr.setCell ⟨R, 3, none⟩ (.bool u)) := by
  have hg := h.geo
  obtain ⟨a1, a2, a3, a4⟩ := hg
  refine ⟨?_, h.items.keep fun b q hb => World.cell?_setCell_other wr ⟨R, 3, none⟩ ⟨b, q, none⟩ _ (fun e => by injection e; omega), h.size.far (p := ⟨R, 3, none⟩) (by show g1 ≠ R; omega) _, h.stt.far (p := ⟨R, 3, none⟩) (by show g2 ≠ R; omega) _, h.lenL, h.lenz, h.lens, h.geo, h.bel.setCell (p := ⟨R, 3, none⟩) a1 _, h.fb⟩
  have := h.hd.set_ 3 (.bool u)
  simpa using this
theorem SSt.heads (h : SSt w B R g1 g2 A c n L sz st gr room wr) : wr.cell? ⟨R, 0, none⟩ = some (.slice A n c) ∧ wr.cell? ⟨R, 1, none⟩ = some (.slice (some ⟨g1, 0, none⟩) n n) ∧ wr.cell? ⟨R, 2, none⟩ = some (.slice (some ⟨g2, 0, none⟩) n n) ∧ wr.cell? ⟨R, 3, none⟩ = some (.bool gr) ∧ wr.cell? ⟨R, 4, none⟩ = some (.int .i64 room) := by
  have e := h.hd.cell
  exact ⟨by rw [e]; rfl, by rw [e]; rfl, by rw [e]; rfl, by rw [e]; rfl, by rw [e]; rfl⟩
theorem SSt.cZ (h : SSt w B R g1 g2 A c n L sz st gr room wr) {k : Nat} (hk : k < n) : wr.cell? ⟨g1, k, none⟩ = some (.int .i64 (szA sz k)) := by
  rw [h.size.cell]
  have : sz[k]? = some (szA sz k) := by rw [List.getElem?_eq_getElem (by rw [h.lenz]; exact hk), szA_eq (List.getElem?_eq_getElem (by rw [h.lenz]; exact hk))]
  simp [this]
theorem SSt.cS (h : SSt w B R g1 g2 A c n L sz st gr room wr) {k : Nat} (hk : k < n) : wr.cell? ⟨g2, k, none⟩ = some (.bool (stA st k)) := by
  rw [h.stt.cell]
  have : st[k]? = some (stA st k) := by rw [List.getElem?_eq_getElem (by rw [h.lens]; exact hk), stA_eq (List.getElem?_eq_getElem (by rw [h.lens]; exact hk))]
  simp [this]
theorem SSt.item (h : SSt w B R g1 g2 A c n L sz st gr room wr) {k : Nat} (hk : k < n) : ∃ g o, A = some ⟨g, o, none⟩ ∧ g < R ∧ ∀ w', Below R wr w' →
    (w'.cell? ⟨g, o + k * 6, none⟩ = some (.int .i64 (itA L k).b) ∧ w'.cell? ⟨g, o + k * 6 + 1, none⟩ = some (.int .i64 (itA L k).mn) ∧ w'.cell? ⟨g, o + k * 6 + 2, none⟩ = some (.int .i64 (itA L k).mx) ∧ w'.cell? ⟨g, o + k * 6 + 3, none⟩ = some (.int .i64 (itA L k).ar) ∧ w'.cell? ⟨g, o + k * 6 + 4, none⟩ = some (.int .i64 (itA L k).g) ∧ w'.cell? ⟨g, o + k * 6 + 5, none⟩ = some (.int .i64 (itA L k).s)) := by
  have hx : L[k]? = some (itA L k) := by rw [List.getElem?_eq_getElem (by rw [h.lenL]; exact hk), itA_eq (List.getElem?_eq_getElem (by rw [h.lenL]; exact hk))]
  exact rd_fi h.items hk hx
theorem SSt.cap (h : SSt w B R g1 g2 A c n L sz st gr room wr) : n ≤ c := by
  obtain ⟨_, A', c', e, h2, _⟩ := h.items
  injection e with _ _ e
  omega
end
set_option maxHeartbeats 2000000 in
theorem c_factor {w wr : World} {B R g1 g2 c n : Nat} {A : Option Addr} {L : List FI} {sz : List Int} {st : List Bool} {gr : Bool} {room : Int} (h : SSt w B R g1 g2 A c n L sz st gr room wr) (hn : n ≤ 200) (k : Nat) (hk : k < n) :
    Calls Try.prog 18 #[.pointer (some ⟨R, 0, none⟩), .int .i64 k] wr fun e w' => e = .returned (.int .i64 (fcI gr (itA L k))) ∧ wr = w' := by
  obtain ⟨h0, h1, h2, h3, h4⟩ := h.heads
  obtain ⟨g, o, rfl, hg, hc⟩ := h.item hk
  obtain ⟨d0, d1, d2, d3, d4, d5⟩ := hc wr (Below.refl _ _)
  have hik : (k : Int) < (n : Int) := by omega
  obtain ⟨x, hx⟩ : ∃ x, x = itA L k := ⟨_, rfl⟩
  rw [← hx] at d0 d1 d2 d3 d4 d5 ⊢
  clear hc h hx
  cases gr
  · have R1 : Hid (fcI false x = x.s) := rfl
    go_enter Try.func18, Try.ntmps18
    go_wp2_with fail
    go_ret
    exact ⟨ret_int (by rw [R1.out]), rfl⟩
  · have R1 : Hid (fcI true x = x.g) := rfl
    go_enter Try.func18, Try.ntmps18
    go_wp2_with fail
    go_ret
    exact ⟨ret_int (by rw [R1.out]), rfl⟩
set_option maxRecDepth 100000 in
set_option maxHeartbeats 4000000 in
theorem c_free {w wr : World} {B R g1 g2 c n : Nat} {A : Option Addr} {L : List FI} {sz : List Int} {st : List Bool} {gr : Bool} {room : Int} (h : SSt w B R g1 g2 A c n L sz st gr room wr) (hn : n ≤ 200) (hv : ∀ i, i < n → 0 ≤ valI L sz st i ∧ valI L sz st i ≤ 16777216) (hroom : -100000000000 ≤ room ∧ room ≤ 100000000000) :
    Calls Try.prog 19 #[.pointer (some ⟨R, 0, none⟩)] wr fun e w' => e = .returned (.int .i64 (freeF L sz st room n)) ∧ Below wr.heap.size wr w' := by
  have H := Lib.hid h
  have HV := Lib.hid hv
  have hs : ∀ k, k ≤ n → 0 ≤ sumTo (valI L sz st) k ∧ sumTo (valI L sz st) k ≤ 16777216 * k := fun k hk => by
    have := sumTo_bd hv k hk
    omega
  have HS := Lib.hid hs
  obtain ⟨h0, h1, h2, h3, h4⟩ := h.heads
  clear h hv hs
  go_enter Try.func19, Try.ntmps19
  go_wp2_with fail
  clear h0 h1 h2 h3 h4
  go_loopw [3, 15] (fun a i w2 => ∃ (k : Nat), k ≤ n ∧ i = .int .i64 k ∧ a = .int .i64 (freeF L sz st room k) ∧ Hid (Below wr.heap.size wr w2)) (fun _ i _ => n - (intOf i).toNat)
  case atStart => exact ⟨0, by omega, rfl, by simp [freeF, sumTo], Below.refl _ _⟩
  case round =>
    obtain ⟨k, hk, rfl, rfl, HB⟩ := hrel
    by_cases hlt : k < n
    · have hik : (k : Int) < (n : Int) := by omega
      have h2 := H.out.below HB.out
      obtain ⟨h0, h1, h2', h3, h4⟩ := h2.heads
      have z1 := h2.cZ hlt; have z2 := h2.cS hlt
      obtain ⟨g, o, eA, hg, hc⟩ := h2.item hlt
      subst eA
      have HA := Lib.hid (h2.alloc (.cells #[.int .i64 (itA L k).b, .int .i64 (itA L k).mn, .int .i64 (itA L k).mx, .int .i64 (itA L k).ar, .int .i64 (itA L k).g, .int .i64 (itA L k).s] 26))
      have HB2 := Lib.hid (bl_alloc HB.out (.cells #[.int .i64 (itA L k).b, .int .i64 (itA L k).mn, .int .i64 (itA L k).mx, .int .i64 (itA L k).ar, .int .i64 (itA L k).g, .int .i64 (itA L k).s] 26))
      obtain ⟨d0, d1, d2, d3, d4, d5⟩ := hc _ (Below.refl _ _)
      have hs1 := HS.out k (by omega)
      have hvk := HV.out k hlt
      have ltR := h2.ltR; have lt1 := h2.lt1; have lt2 := h2.lt2
      have HE : Hid (freeF L sz st room (k + 1) = freeF L sz st room k - valI L sz st k) := by unfold Hid freeF; simp only [sumTo]; omega
      have hf : freeF L sz st room k = room - sumTo (valI L sz st) k := rfl
      have hfb : -100000000000 - 16777216 * 200 ≤ freeF L sz st room k ∧ freeF L sz st room k ≤ 100000000000 := by omega
      have HVI : Hid (valI L sz st k = if stA st k = true then szA sz k else (itA L k).b) := rfl
      obtain ⟨F, hF⟩ : ∃ F, F = freeF L sz st room k := ⟨_, rfl⟩
      rw [← hF] at hfb HE ⊢
      obtain ⟨V, hV⟩ : ∃ V, V = valI L sz st k := ⟨_, rfl⟩
      rw [← hV] at hvk HE HVI
      obtain ⟨x, hx⟩ : ∃ x, x = itA L k := ⟨_, rfl⟩
      rw [← hx] at d0 d1 d2 d3 d4 d5 HA HVI HB2
      obtain ⟨z, hz⟩ : ∃ z, z = szA sz k := ⟨_, rfl⟩
      rw [← hz] at z1 HVI
      obtain ⟨s, hs⟩ : ∃ s, s = stA st k := ⟨_, rfl⟩
      rw [← hs] at z2 HVI
      clear h2 hc hf hs1 hF hV hx hz hs
      obtain ⟨xb, xmn, xmx, xar, xg, xs⟩ := x
      obtain ⟨a0, a1, a2, a3, a4⟩ := HA.out.heads
      cases s
      · have e : V = xb := HVI.out
        subst e
        simp only at d0 d1 d2 d3 d4 d5
        have w1 : IntKind.i64.wrap (F - V) = F - V := IntWalk.i64_in _ (by omega)
        go_wp2_with fail
        go_roundw
        case rel => exact ⟨k + 1, by omega, by go_num, by rw [HE.out], HB2.out⟩
        case measure => simp [intOf]; omega
      · have e : V = z := HVI.out
        subst e
        simp only at d0 d1 d2 d3 d4 d5
        have w1 : IntKind.i64.wrap (F - V) = F - V := IntWalk.i64_in _ (by omega)
        go_wp2_with fail
        go_roundw
        case rel => exact ⟨k + 1, by omega, by go_num, by rw [HE.out], HB2.out⟩
        case measure => simp [intOf]; omega
    · obtain rfl : k = n := by omega
      have hik : ¬ (k : Int) < (k : Int) := by omega
      go_wp2_with fail
      go_ret
      exact ⟨rfl, HB.out⟩
end Go.Proofs.Ytdpnpjficcciiaa
