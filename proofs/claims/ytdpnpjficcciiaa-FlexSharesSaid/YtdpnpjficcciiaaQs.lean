/- seat C: the program's Rows -/
import Derived.Test.YtdpnpjficcciiaaQr
import Derived.Test.YtdpnpjficcciiaaCb
import Derived.Test.YtdpnpjficcciiaaCd
namespace Go.Proofs.Ytdpnpjficcciiaa
set_option linter.unusedVariables false
set_option linter.unusedSimpArgs false
open Go.RowKit Go.Cas

def wI (L : List FI) (i : Nat) : Int := wantI (itA L i)
theorem wI_bd {L : List FI} (hf : ∀ x ∈ L, FB x) (i : Nat) : -33554432 ≤ wI L i ∧ wI L i ≤ 33554432 := by
  have h1 := bnd_bd (itA_fb hf i) (itA L i).b; have h2 := (itA_fb hf i).b; have h3 := (itA_fb hf i).ar
  unfold wI wantI; omega
def RwRet (w : World) (l : List Int) (e : Ending) (w' : World) : Prop := ∃ v, e = .returned v ∧ RdS w' w'.heap.size 1 v l.length (l.map (Value.int .i64)) ∧ Below w.heap.size w w'
set_option maxRecDepth 100000 in
set_option maxHeartbeats 8000000 in
theorem c_Rows (v : Value) (I : List FI) (lim N : Nat) (room0 gap0 : Int) (wrp : Bool) (w : World) (hr : RdS w lim 6 v N (I.flatMap fi)) (hlim : lim ≤ w.heap.size) (hN : N ≤ 1000) (n : Nat) (hn : n = min N 200) (L : List FI) (hL : L = (I.take 200).map hdI) :
    Calls Try.prog 8 #[v, .int .i64 room0, .int .i64 gap0, .bool wrp] w (RwRet w (rwF (wI L) wrp (hld room0) (hld gap0) n).1) := by
  have hn2 : n ≤ 200 := by omega
  have HAL := c_all v I lim N w hr hlim hN
  rw [← hn, ← hL] at HAL
  have hfb : ∀ x ∈ L, FB x := by rw [hL]; intro x hx; obtain ⟨y, _, rfl⟩ := List.mem_map.1 hx; exact hdI_fb y
  have HFB := Lib.hid hfb; have HALL := Lib.hid HAL
  have hgb := hld_bd gap0; have hrb := hld_bd room0
  have HRH := Lib.hid (c_heldF room0); have HGH := Lib.hid (c_heldF gap0)
  obtain ⟨gap, hgap⟩ : ∃ gap, gap = hld gap0 := ⟨_, rfl⟩
  obtain ⟨rm, hrm⟩ : ∃ rm, rm = hld room0 := ⟨_, rfl⟩
  rw [← hgap] at hgb HGH ⊢
  rw [← hrm] at hrb HRH ⊢
  clear hfb HAL hL hn hr hgap hrm
  obtain ⟨i0, hi0, hz0, hz1, hz2⟩ := info_parts inf_int
  have HWB : Hid (∀ i, i < n → -33554432 ≤ wI L i ∧ wI L i ≤ 33554432) := fun i _ => wI_bd HFB.out i
  have HSB : Hid (∀ k, k ≤ n → -13421772800 ≤ (rwF (wI L) wrp rm gap k).2 ∧ (rwF (wI L) wrp rm gap k).2 ≤ 13421772800) := fun k hk => by
    have := rwF_bd (W := wI L) (wrp := wrp) (room := rm) (gap := gap) (lo := -33554432) (hi := 33554432) (by omega) (by omega) HWB.out (by omega) k hk
    omega
  go_enter Try.func8, Try.ntmps8
  go_wp2_with (first | fail | (go_at_call 15; refine (HRH.out _).mono ?_; rintro e w' ⟨rfl, rfl⟩) | (go_at_call 15; refine (HGH.out _).mono ?_; rintro e w' ⟨rfl, rfl⟩))
  refine HALL.out.mono ?_
  rintro e w1 ⟨u, rfl, hu, hb1⟩
  have HU := Lib.hid hu
  obtain ⟨hul, A, c, rfl, hnc, _⟩ := hu
  have HLL : Hid (L.length = n) := by rw [fis_len] at hul; unfold Hid; omega
  have HB1 := Lib.hid hb1
  clear hul hb1
  have HB0 := Lib.hid (Below.refl w1.heap.size w1)
  obtain ⟨B, hB⟩ : ∃ B, B = w1.heap.size := ⟨_, rfl⟩
  rw [← hB] at HU HB0
  have HBE := Lib.hid hB
  clear hB
  go_wp2_with fail
  go_loopw [9, 10, 21] (fun l s i wr => ∃ (k : Nat), k ≤ n ∧ i = .int .i64 k ∧ s = .int .i64 (rwF (wI L) wrp rm gap k).2 ∧ Hid (wr.ownsRow B 3 1 l (rwF (wI L) wrp rm gap k).1.length ((rwF (wI L) wrp rm gap k).1.map (Value.int .i64))) ∧ Hid (Below B w1 wr) ∧ Hid (B ≤ wr.heap.size)) (fun _ _ i _ => n - (intOf i).toNat)
  case atStart => exact ⟨0, by omega, rfl, rfl, World.ownsRow_nil _ _ _ _, HB0.out, by rw [HBE.out]; exact Nat.le_refl _⟩
  case round =>
    obtain ⟨k, hk, rfl, rfl, HO, HBL, HZ⟩ := hrel
    by_cases hlt : k < n
    · have hik : (k : Int) < (n : Int) := by omega
      have hx : L[k]? = some (itA L k) := by rw [List.getElem?_eq_getElem (by rw [HLL.out]; exact hlt), itA_eq (List.getElem?_eq_getElem (by rw [HLL.out]; exact hlt))]
      obtain ⟨g, o, rfl, _, f1⟩ := rd_fi HU.out hlt hx
      obtain ⟨d0, d1, d2, d3, d4, d5⟩ := f1 wr HBL.out
      have hs1 := HSB.out k hk
      have hw1 := HWB.out k hlt
      have HW := Lib.hid (fun W => c_want (itA L k) (itA_fb HFB.out k) W)
      have HWE : Hid (wI L k = wantI (itA L k)) := rfl
      have hlen := rwF_len (W := wI L) (wrp := wrp) (room := rm) (gap := gap) k
      have HNW := Lib.hid (rwF_new (W := wI L) (wrp := wrp) (room := rm) (gap := gap) (k := k))
      have HOW := Lib.hid (rwF_old (W := wI L) (wrp := wrp) (room := rm) (gap := gap) (k := k))
      have HCN := Lib.hid (rwF_cnt (W := wI L) (wrp := wrp) (room := rm) (gap := gap) k)
      have HND : Hid (newR (wI L) wrp rm gap k ↔ k = 0 ∨ (wrp = true ∧ rm < (rwF (wI L) wrp rm gap k).2 + gap + wI L k)) := Iff.rfl
      obtain ⟨x, hx⟩ : ∃ x, x = itA L k := ⟨_, rfl⟩
      rw [← hx] at d0 d1 d2 d3 d4 d5 HW HWE
      obtain ⟨S, hS⟩ : ∃ S, S = (rwF (wI L) wrp rm gap k).2 := ⟨_, rfl⟩
      obtain ⟨l, hl⟩ : ∃ l, l = (rwF (wI L) wrp rm gap k).1 := ⟨_, rfl⟩
      obtain ⟨V, hV⟩ : ∃ V, V = wI L k := ⟨_, rfl⟩
      rw [← hS] at hs1 HOW HND ⊢
      rw [← hl] at hlen HNW HOW HCN HO
      rw [← hV] at hw1 HWE HNW HOW HND
      have HW2 : Hid (∀ W, Calls Try.prog 16 #[agF x] W fun e w' => e = .returned (.int .i64 V) ∧ Below W.heap.size W w') := fun W => by rw [HWE.out]; exact HW.out W
      clear hx hS hl hV HW HWE f1
      obtain ⟨xb, xmn, xmx, xar, xg, xs⟩ := x
      simp only at d0 d1 d2 d3 d4 d5
      have HAL6 := Lib.hid (bl_alloc (Below.refl _ wr) (.cells #[.int .i64 xb, .int .i64 xmn, .int .i64 xmx, .int .i64 xar, .int .i64 xg, .int .i64 xs] 26))
      go_wp2_with fail
      refine (HW2.out _).mono ?_
      rintro e w6 ⟨rfl, hb6⟩
      have HB6 := Lib.hid (bl_trans HAL6.out hb6)
      clear hb6 d0 d1 d2 d3 d4 d5 HAL6
      have HO6 := Lib.hid ((Kept.of_below HB6.out (fun _ => False)).own HO.out (fun _ _ h => h))
      have HBX : Hid (Below B w1 w6) := HBL.out.trans (HB6.out.mono HZ.out)
      have hBx : B ≤ w6.heap.size := Nat.le_trans HZ.out HB6.out.size
      have v1 : IntKind.i64.wrap (S + gap) = S + gap := IntWalk.i64_in _ (by omega)
      have v2 : IntKind.i64.wrap (S + gap + V) = S + gap + V := IntWalk.i64_in _ (by omega)
      have v3 : IntKind.i64.wrap (gap + V) = gap + V := IntWalk.i64_in _ (by omega)
      have v4 : IntKind.i64.wrap (S + (gap + V)) = S + (gap + V) := IntWalk.i64_in _ (by omega)
      have hl2 : l.length ≤ 200 := by omega
      by_cases hnew : newR (wI L) wrp rm gap k
      · have HN2 := Lib.hid (HNW.out hnew)
        have hnd := HND.out.1 hnew
        clear hnew
        rcases hnd with h0 | ⟨h1, h2⟩
        · subst h0
          go_wp2_with (at_builtin; refine wp_push rfl _ _ 27 rfl B 3 Try.underlying27 inf_int rfl (by decide) w6 u9 l.length (l.map (Value.int .i64)) [.int .i64 1] rfl rfl rfl HO6.out rfl (by simp [Value.oneCell']) (by omega) (by omega) hBx ?_; intro v5 w5 hpush; have HPU := Lib.hid hpush; clear hpush)
          go_roundw
          case rel =>
            refine ⟨0 + 1, by omega, rfl, by rw [HN2.out], ?_, HPU.out.below HBX.out (Nat.le_refl _) hBx, Nat.le_trans hBx HPU.out.size_⟩
            have := HPU.out.own
            rw [HN2.out]; simpa [Hid] using this
          case measure => simp [intOf]; omega
        · subst h1
          by_cases h0 : k = 0
          · subst h0
            go_wp2_with (at_builtin; refine wp_push rfl _ _ 27 rfl B 3 Try.underlying27 inf_int rfl (by decide) w6 u9 l.length (l.map (Value.int .i64)) [.int .i64 1] rfl rfl rfl HO6.out rfl (by simp [Value.oneCell']) (by omega) (by omega) hBx ?_; intro v5 w5 hpush; have HPU := Lib.hid hpush; clear hpush)
            go_roundw
            case rel =>
              refine ⟨0 + 1, by omega, rfl, by rw [HN2.out], ?_, HPU.out.below HBX.out (Nat.le_refl _) hBx, Nat.le_trans hBx HPU.out.size_⟩
              have := HPU.out.own
              rw [HN2.out]; simpa [Hid] using this
            case measure => simp [intOf]; omega
          · have hk0 : ((k : Int) == 0) = false := by simpa using h0
            go_wp2_with (at_builtin; refine wp_push rfl _ _ 27 rfl B 3 Try.underlying27 inf_int rfl (by decide) w6 u9 l.length (l.map (Value.int .i64)) [.int .i64 1] rfl rfl rfl HO6.out rfl (by simp [Value.oneCell']) (by omega) (by omega) hBx ?_; intro v5 w5 hpush; have HPU := Lib.hid hpush; clear hpush)
            go_roundw
            case rel =>
              refine ⟨k + 1, by omega, by go_num, by rw [HN2.out], ?_, HPU.out.below HBX.out (Nat.le_refl _) hBx, Nat.le_trans hBx HPU.out.size_⟩
              have := HPU.out.own
              rw [HN2.out]; simpa [Hid] using this
            case measure => simp [intOf]; omega
      · have HN2 := Lib.hid (HOW.out hnew)
        have hnd : ¬ (k = 0 ∨ (wrp = true ∧ rm < S + gap + V)) := fun h => hnew (HND.out.2 h)
        have h0 : k ≠ 0 := fun e => hnd (.inl e)
        have hk0 : ((k : Int) == 0) = false := by simpa using h0
        have hlp := hlen.2 (by omega)
        obtain ⟨m, hm⟩ : ∃ m, l.length = m + 1 := ⟨l.length - 1, by omega⟩
        have hcm := HCN.out m (by omega)
        rw [hm, Nat.add_sub_cancel] at HN2
        have hget : l[m]? = some (szA l m) := by rw [List.getElem?_eq_getElem (by omega), szA_eq (List.getElem?_eq_getElem (by omega))]
        have hO6 := HO6.out
        rw [hm] at hO6
        obtain ⟨go, cap, hue, hgo1, hgo2⟩ := hO6.form (by omega)
        subst hue
        have q1 : w6.cell? ⟨go, m, none⟩ = some (.int .i64 (szA l m)) := by
          have := hO6.cells (g := go) rfl m (.int .i64 (szA l m)) (by rw [List.getElem?_map, hget]; rfl)
          rw [add_none, Nat.zero_add] at this
          exact this
        have q2 : w6.frozen? ⟨go, m, none⟩ = false := by
          rcases hO6.2 with ⟨e, _⟩ | ⟨g', cap', cur, e, _, hh, _⟩
          · cases e
          · injection e with e1 e2 e3
            injection e1 with e1
            injection e1 with e1
            subst e1
            exact Bk.free hh m
        have v5 : IntKind.i64.wrap (szA l m + 1) = szA l m + 1 := IntWalk.i64_in _ (by omega)
        have HOS := Lib.hid (own_set hO6 m (.int .i64 (szA l m + 1)))
        have HLM := Lib.hid hm
        have v6 : IntKind.i64.wrap (((m + 1 : Nat) : Int) - 1) = (m : Int) := by rw [IntWalk.i64_in _ (by omega)]; omega
        have hm63 : m ≤ 200 := by omega
        clear hO6 hget hcm hnew hlen hm
        by_cases hwr : wrp = true
        · have h2 : ¬ rm < S + gap + V := fun h => hnd (.inr ⟨hwr, h⟩)
          subst hwr
          clear hnd
          go_wp2_with fail
          go_roundw
          case rel =>
            refine ⟨k + 1, by omega, by go_num, by rw [HN2.out], ?_, HBX.out.setCell (p := ⟨go, m, none⟩) hgo1 _, by unfold Hid; simpa [World.setCell] using hBx⟩
            have := HOS.out
            rw [HN2.out]
            simp only [List.length_set, HLM.out, List.map_set]
            exact this
          case measure => simp [intOf]; omega
        · have hwr2 : wrp = false := by simpa using hwr
          subst hwr2
          clear hnd hwr
          go_wp2_with fail
          go_roundw
          case rel =>
            refine ⟨k + 1, by omega, by go_num, by rw [HN2.out], ?_, HBX.out.setCell (p := ⟨go, m, none⟩) hgo1 _, by unfold Hid; simpa [World.setCell] using hBx⟩
            have := HOS.out
            rw [HN2.out]
            simp only [List.length_set, HLM.out, List.map_set]
            exact this
          case measure => simp [intOf]; omega
    · obtain rfl : k = n := by omega
      have hik : ¬ (k : Int) < (k : Int) := by omega
      go_wp2_with fail
      go_ret
      refine ⟨u9, rfl, RdS.of_own HO.out, ?_⟩
      have := HBL.out
      rw [HBE.out] at this
      exact HB1.out.trans (this.mono HB1.out.size)
end Go.Proofs.Ytdpnpjficcciiaa
