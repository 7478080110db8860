/- seat C: the program's fill -/
import Derived.Test.YtdpnpjficcciiaaTkb
import Derived.Test.YtdpnpjficcciiaaCd
import Derived.Test.YtdpnpjficcciiaaQr
import Derived.BigRegion
namespace Go.Proofs.Ytdpnpjficcciiaa
set_option linter.unusedVariables false
set_option linter.unusedSimpArgs false
open Go.RowKit Go.Cas

theorem trs_len (L : List Tr) : (L.flatMap tr).length = L.length * 2 := flat_len tr 2 (fun _ => rfl) L
theorem rd_tr {w : World} {lim n k : Nat} {A : Option Addr} {c : Nat} {L : List Tr} (h : RdS w lim 2 (.slice A n c) n (L.flatMap tr)) (hk : k < n) : ∃ g o, A = some ⟨g, o, none⟩ ∧ g < lim ∧ ∀ w', Below lim w w' → (w'.cell? ⟨g, o + k * 2, none⟩ = some (.int .i64 (trA L k).k) ∧ w'.cell? ⟨g, o + k * 2 + 1, none⟩ = some (.int .i64 (trA L k).n)) := by
  have hl : L.length = n := by have := h.1; rw [trs_len] at this; omega
  have hx := trA_get (l := L) (i := k) (by omega)
  obtain ⟨_, A', c', e, _, hc⟩ := h
  injection e with e1 _ e2
  subst e1 e2
  obtain ⟨g, o, e, hg, hcell⟩ := hc (by omega)
  refine ⟨g, o, e, hg, fun w' hb => ?_⟩
  have key : ∀ j, j < 2 → ∀ u, (tr (trA L k))[j]? = some u → w'.cell? ⟨g, o + k * 2 + j, none⟩ = some u := fun j hj u hu => by
    have := hcell (k * 2 + j) u (by rw [flat_get tr 2 (fun _ => rfl) L k j _ hx hj]; exact hu)
    rw [← Nat.add_assoc] at this
    exact (hb.cell (p := ⟨g, _, none⟩) hg).trans this
  exact ⟨key 0 (by omega) _ rfl, key 1 (by omega) _ rfl⟩
def FRet (w : World) (go : Nat) (out : List Int) (e : Ending) (w' : World) : Prop := (∃ u, e = .returned u) ∧ Bk w' go 3 (out.map (Value.int .i64)).toArray ∧ Kept w w' (fun k => k = go)
theorem bk_szA {w : World} {g k : Nat} {t : TypeId} {l : List Int} (h : Bk w g t (l.map (Value.int .i64)).toArray) (hk : k < l.length) : w.cell? ⟨g, k, none⟩ = some (.int .i64 (szA l k)) := by
  rw [h.cell]
  have : l[k]? = some (szA l k) := by rw [List.getElem?_eq_getElem hk, szA_eq (List.getElem?_eq_getElem hk)]
  simp [this]
set_option maxRecDepth 100000 in
set_option maxHeartbeats 16000000 in
theorem c_fill {w : World} {lim go m : Nat} {A : Option Addr} {c : Nat} {l : List Tr} {out : List Int} {x : Nd} {gap : Int} (hl : RdS w lim 2 (.slice A m c) m (l.flatMap tr)) (ho : Bk w go 3 (out.map (Value.int .i64)).toArray) (hlg : lim ≤ go) (hlen : out.length = m) (hm : m ≤ 1000) (hx : NB x m) (hob : OB out) (hg : -16777216 ≤ gap ∧ gap ≤ 16777216) :
    Calls Try.prog 32 #[.slice A m c, .slice (some ⟨go, 0, none⟩) m m, agN x, .int .i64 gap] w (FRet w go (fillT l gap out x)) := by
  have HL := Lib.hid hl; have HO := Lib.hid ho; have HOB := Lib.hid hob; have HLEN := Lib.hid hlen; have HNB := Lib.hid hx
  have hgo := ho.lt
  obtain ⟨p, hp⟩ : ∃ p, p = (x.fr - 1).toNat := ⟨_, rfl⟩
  obtain ⟨sp, hsp⟩ : ∃ sp, sp = x.sp.toNat := ⟨_, rfl⟩
  have hfit := hx.fit
  rw [← hp, ← hsp] at hfit
  have HF : Hid (fillT l gap out x = if any3 l p sp = true then out else if missT gap out x sp ≤ 0 then out else addT l out p sp (missT gap out x sp) (opT l p sp).length) := by
    unfold Hid fillT missT; rw [← hp, ← hsp]
  have HMB : Hid (∀ k, k ≤ sp → -4000000000000 ≤ missT gap out x k ∧ missT gap out x k ≤ 335544320) := fun k hk => missT_bd hg hob (by rw [hlen]; exact hx) (by rw [← hsp]; exact hk)
  have HMS : Hid (∀ k, missT gap out x (k + 1) = missT gap out x k - szA out (p + k)) := fun k => by
    unfold missT sumO; rw [← hp]; simp only [sumTo]; omega
  have HM0 : Hid (missT gap out x 0 = x.sz - gap * (x.sp - 1)) := by unfold Hid missT sumO; simp [sumTo]
  obtain ⟨GS, hGS⟩ : ∃ GS, GS = gap * (x.sp - 1) := ⟨_, rfl⟩
  have hGb : -318767104 ≤ GS ∧ GS ≤ 318767104 := by rw [hGS]; exact gap_sp hg (by have := hx.sp; omega)
  rw [← hGS] at HM0
  have hfr := hx.fr; have hss := hx.sp; have hsz := hx.sz
  obtain ⟨out', hout'⟩ : ∃ out', out' = fillT l gap out x := ⟨_, rfl⟩
  rw [← hout'] at HF ⊢
  obtain ⟨mF, hmF⟩ : ∃ mF : Nat → Int, mF = missT gap out x := ⟨_, rfl⟩
  rw [← hmF] at HF HMB HMS HM0
  clear hl ho hob hlen hx hout' hmF
  obtain ⟨xf, xs, xz⟩ := x
  simp only at hp hsp hGS hfr hss hsz HM0
  have hpi : (p : Int) = xf - 1 := by omega
  have hsi : (sp : Int) = xs := by omega
  have vg : IntKind.i64.wrap (gap * (xs - 1)) = GS := by rw [hGS]; exact IntWalk.i64_in _ (by rw [← hGS]; omega)
  have v1 : IntKind.i64.wrap (xs - 1) = xs - 1 := IntWalk.i64_in _ (by omega)
  have v2 : IntKind.i64.wrap (xz - GS) = xz - GS := IntWalk.i64_in _ (by omega)
  have v3 : IntKind.i64.wrap (xf - 1) = xf - 1 := IntWalk.i64_in _ (by omega)
  obtain ⟨R, hR⟩ : ∃ R, R = w.heap.size := ⟨_, rfl⟩
  obtain ⟨w1, hw1⟩ : ∃ w1, w1 = w.alloc (.cells #[.int .i64 xf, .int .i64 xs, .int .i64 xz] 46) := ⟨_, rfl⟩
  have HX : Hid (Bk w1 R 46 #[.int .i64 xf, .int .i64 xs, .int .i64 xz]) := by rw [hw1]; exact bk_new' _ _ _ hR
  have HB1 : Hid (Below w.heap.size w w1) := by rw [hw1]; exact bl_alloc (Below.refl _ _) _
  have HB2 := Lib.hid (Below.refl w1.heap.size w1)
  have HW1 := Lib.hid hw1; have HRR := Lib.hid hR
  have F3 : Hid (∀ w', Below w1.heap.size w1 w' → w'.cell? ⟨R, 0, none⟩ = some (.int .i64 xf) ∧ w'.cell? ⟨R, 1, none⟩ = some (.int .i64 xs) ∧ w'.cell? ⟨R, 2, none⟩ = some (.int .i64 xz)) := fun w' hb => by
    have e := (HX.out.below hb HX.out.lt).cell
    exact ⟨by rw [e]; rfl, by rw [e]; rfl, by rw [e]; rfl⟩
  clear hw1 hR hp hsp hGS
  go_enter Try.func32, Try.ntmps32
  go_upto_region 2 with fail
  rw [← HRR.out, ← HW1.out]
  obtain ⟨e0, e1, e2⟩ := F3.out _ HB2.out
  obtain ⟨i0, hi0, hz0, hz1, hz2⟩ := info_parts inf_int
  go_wp2_with fail
  clear e0 e1 e2
  go_loopw [8, 9, 10] (fun op ms i wr => ∃ k : Nat, k ≤ sp ∧ i = .int .i64 (p + k : Nat) ∧ ms = .int .i64 (mF k) ∧ Hid (wr.ownsRow w1.heap.size 3 1 op (opT l p k).length ((opT l p k).map fun (i : Nat) => Value.int .i64 (i : Int))) ∧ Hid (any3 l p k = false) ∧ Hid (Below w1.heap.size w1 wr)) (fun _ _ i _ => p + sp - (intOf i).toNat)
  case atStart => exact ⟨0, by omega, by rw [Nat.add_zero, hpi], by rw [HM0.out], World.ownsRow_nil _ _ _ _, rfl, HB2.out⟩
  case round =>
    obtain ⟨k, hk, rfl, rfl, HOP, HA3, HB⟩ := hrel
    obtain ⟨e0, e1, e2⟩ := F3.out _ HB.out
    have v4 : IntKind.i64.wrap (xf - 1 + xs) = xf - 1 + xs := IntWalk.i64_in _ (by omega)
    by_cases hlt : k < sp
    · skip
      obtain ⟨t, ht⟩ : ∃ t, t = p + k := ⟨_, rfl⟩
      have htl : (t : Int) < xf - 1 + xs := by omega
      have htm : (t : Int) < (m : Int) := by omega
      have ht0 : t < m := by omega
      have htR : t < out.length := by rw [HLEN.out]; exact ht0
      obtain ⟨g, o, rfl, hgl, hc⟩ := rd_tr HL.out ht0
      obtain ⟨d0, d1⟩ := hc wr ((HB1.out.trans (HB.out.mono HB1.out.size)).mono (by omega))
      have HOR := Lib.hid ((HO.out.below HB1.out hgo).below HB.out (Nat.lt_of_lt_of_le hgo HB1.out.size))
      have hgo1 : go < w1.heap.size := Nat.lt_of_lt_of_le hgo HB1.out.size
      have co := bk_szA ((HO.out.below HB1.out hgo).below HB.out (Nat.lt_of_lt_of_le hgo HB1.out.size)) htR
      have hco := HOB.out t htR
      have hmk := HMB.out k (by omega)
      have hmk2 := HMB.out (k + 1) (by omega)
      have HMK := Lib.hid (HMS.out k)
      have HSU := Lib.hid (opT_succ l p k)
      have HH3 := Lib.hid (fun h => any3_hit (l := l) (p := p) (k := k) (m := sp) hlt h)
      have HS3 := Lib.hid (any3_step HA3.out)
      have hol := opT_len l p k
      rw [← ht] at HMK HSU HH3 HS3 ⊢
      obtain ⟨T, hT⟩ : ∃ T, T = trA l t := ⟨_, rfl⟩
      rw [← hT] at d0 d1 HSU HH3 HS3
      obtain ⟨Z, hZ⟩ : ∃ Z, Z = szA out t := ⟨_, rfl⟩
      have HZE := Lib.hid hZ
      rw [← hZ] at co hco HMK
      obtain ⟨M, hM⟩ : ∃ M, M = mF k := ⟨_, rfl⟩
      rw [← hM] at hmk HMK ⊢
      have v5 : IntKind.i64.wrap (M - Z) = M - Z := IntWalk.i64_in _ (by omega)
      have HT1 : Hid (((t + 1 : Nat) : Int) = (t : Int) + 1) := Int.natCast_succ t
      have HTK : Hid (t + 1 = p + (k + 1)) := by unfold Hid; omega
      have htR2 : t ≤ 2000 := by omega
      have v6 : IntKind.i64.wrap ((t : Int) + 1) = (t : Int) + 1 := IntWalk.i64_in _ (by omega)
      clear hT hZ hM hc ht hmk2
      obtain ⟨tk, tn⟩ := T
      simp only at d0 d1 HSU HH3 HS3
      by_cases h3 : tk = 3
      · have HOUT : Hid (out' = out) := by unfold Hid; rw [HF.out, if_pos (HH3.out h3)]
        subst h3
        go_wp2_with fail
        (try simp only [Exit.inBlock, Exit.then])
        refine bodyPost_ret (results_none rfl _ _ _) rfl ?_
        exact ⟨⟨_, rfl⟩, by rw [HOUT.out]; exact (HO.out.below HB1.out hgo).below HB.out (Nat.lt_of_lt_of_le hgo HB1.out.size), (Kept.of_below HB1.out _).then_ (Kept.of_below HB.out _) (fun _ _ e => e)⟩
      · have h3b : (tk == 3) = false := by simpa using h3
        have HA4 := Lib.hid (HS3.out h3)
        by_cases h0 : tk = 0
        · have HSU2 := HSU.out
          rw [if_pos h0] at HSU2
          have HSU3 := Lib.hid HSU2
          subst h0
          clear HSU2
          have hw1r : w1.heap.size ≤ wr.heap.size := HB.out.size
          go_wp2_with (at_builtin; refine wp_push rfl _ _ 27 rfl w1.heap.size 3 Try.underlying27 inf_int rfl (by decide) wr u8 (opT l p k).length ((opT l p k).map fun (i : Nat) => Value.int .i64 (i : Int)) [.int .i64 (t : Int)] rfl rfl rfl HOP.out rfl (by simp [Value.oneCell']) (by omega) (by omega) hw1r ?_; intro v5 w5 hpush; have HPU := Lib.hid hpush; clear hpush; have co5 := bk_szA (HPU.out.bk HOR.out hgo1) htR; rw [← HZE.out] at co5)
          go_roundw
          case rel => exact ⟨k + 1, by omega, by rw [← HTK.out, HT1.out], by rw [HMK.out], by rw [HSU3.out]; simpa [Hid] using HPU.out.own, HA4.out, HPU.out.below HB.out (Nat.le_refl _) hw1r⟩
          case measure => first | (simp [intOf]; done) | (simp [intOf]; omega)
        · have h0b : (tk == 0) = false := by simpa using h0
          have HSU2 := HSU.out
          rw [if_neg h0] at HSU2
          have HSU3 := Lib.hid HSU2
          clear HSU2
          go_wp2_with fail
          go_roundw
          case rel => exact ⟨k + 1, by omega, by rw [← HTK.out, HT1.out], by rw [HMK.out], by rw [HSU3.out]; exact HOP.out, HA4.out, HB.out⟩
          case measure => first | (simp [intOf]; done) | (simp [intOf]; omega)
    · obtain rfl : k = sp := by omega
      have htl : ¬ ((p + k : Nat) : Int) < xf - 1 + xs := by omega
      have hmk := HMB.out k (by omega)
      have HOR := Lib.hid ((HO.out.below HB1.out hgo).below HB.out (Nat.lt_of_lt_of_le hgo HB1.out.size))
      have HKR := Lib.hid ((Kept.of_below HB1.out (fun k => k = go)).then_ (Kept.of_below HB.out _) (fun _ _ e => e))
      have HF2 := HF.out
      rw [if_neg (by rw [HA3.out]; simp)] at HF2
      have HF3 := Lib.hid HF2
      obtain ⟨M, hM⟩ : ∃ M, M = mF k := ⟨_, rfl⟩
      rw [← hM] at hmk HF3 ⊢
      obtain ⟨tt, htt⟩ : ∃ tt, tt = p + k := ⟨_, rfl⟩
      rw [← htt] at htl ⊢
      clear hM HF2 htt
      by_cases hms : M ≤ 0
      · have HOUT : Hid (out' = out) := by unfold Hid; rw [HF3.out, if_pos hms]
        go_wp2_with fail
        (try simp only [Exit.inBlock, Exit.then])
        refine bodyPost_ret (results_none rfl _ _ _) rfl ?_
        exact ⟨⟨_, rfl⟩, by rw [HOUT.out]; exact HOR.out, HKR.out⟩
      · have HOUT : Hid (out' = addT l out p k M (opT l p k).length) := by unfold Hid; rw [HF3.out, if_neg hms]
        have hol := opT_len l p k
        have hk20 : k ≤ 20 := by omega
        have HRD := Lib.hid (RdS.of_own HOP.out)
        obtain ⟨N, hN⟩ : ∃ N, N = (opT l p k).length := ⟨_, rfl⟩
        have HNE := Lib.hid hN
        rw [← hN] at HRD hol HOUT
        rw [← hN] at HOP
        obtain ⟨_, Ao, co, hue, hnc, _⟩ := HRD.out
        subst hue
        have HOR2 := Lib.hid HOR.out
        have HKR2 := Lib.hid HKR.out
        clear hN
        go_wp2_with fail
        clear e0 e1 e2
        go_loopw [60] (fun i wx => ∃ q : Nat, q ≤ N ∧ i = .int .i64 q ∧ Hid (Bk wx go 3 ((addT l out p k M q).map (Value.int .i64)).toArray) ∧ Hid (wx.ownsRow w1.heap.size 3 1 (.slice Ao N co) N ((opT l p k).map fun (i : Nat) => Value.int .i64 (i : Int))) ∧ Hid (Kept w wx (fun k => k = go))) (fun i _ => N - (intOf i).toNat)
        case atStart => exact ⟨0, by omega, rfl, HOR.out, HOP.out, HKR.out⟩
        case round =>
          obtain ⟨q, hq, rfl, HBK, HOW, HKW⟩ := hrel
          by_cases hqN : q < N
          · skip
            have hik : (q : Int) < (N : Int) := by omega
            have hqo : q < (opT l p k).length := by rw [← HNE.out]; exact hqN
            obtain ⟨g1, g2⟩ := opT_get hqo
            have g3 := opT_mem g2
            have HAS := Lib.hid (addT_succ (out := out) (miss := M) hqo)
            rw [← HNE.out] at HAS
            obtain ⟨j, hj⟩ : ∃ j, j = (opT l p k).getD q 0 := ⟨_, rfl⟩
            rw [← hj] at g1 g3 HAS
            obtain ⟨ga, capa, hue, _, hgl⟩ := HOW.out.form (by omega)
            injection hue with hAo _ hco
            subst hAo hco
            have ca : wr.cell? ⟨ga, q, none⟩ = some (.int .i64 (j : Int)) := by
              have := HOW.out.cells (g := ga) rfl q (.int .i64 (j : Int)) (by rw [List.getElem?_map, g1]; rfl)
              rw [add_none, Nat.zero_add] at this
              exact this
            have hjo : j < out.length := by rw [HLEN.out]; omega
            have hjl : j < (addT l out p k M q).length := by rw [addT_len]; exact hjo
            have cb := bk_szA HBK.out hjl
            have hnx := addT_next (out := out) (miss := M) hqo
            rw [← hj] at hnx
            rw [hnx] at cb
            have hjb := HOB.out j hjo
            have fb := HBK.out.free j; have lb := HBK.out.lt
            have hjm : (j : Int) < (m : Int) := by have := HLEN.out; omega
            have hj0 : (0 : Int) ≤ (j : Int) := by omega
            have hpr := prt_bd (miss := M) (m := N) (k := q) (by omega) hqN
            have b1 := mul_bd2 (miss := M) (k := q) (by omega) (by omega)
            have b2 := mul_bd2 (miss := M) (k := q + 1) (by omega) (by omega)
            rw [Int.natCast_succ] at b2
            have HPR : Hid (prt M N q = (M * ((q : Int) + 1)).tdiv N - (M * (q : Int)).tdiv N) := rfl
            obtain ⟨X0, hX0⟩ : ∃ X0, X0 = M * (q : Int) := ⟨_, rfl⟩
            obtain ⟨X1, hX1⟩ : ∃ X1, X1 = M * ((q : Int) + 1) := ⟨_, rfl⟩
            rw [← hX0] at b1 HPR
            rw [← hX1] at b2 HPR
            have v4 : IntKind.i64.wrap (M * ((q : Int) + 1)) = X1 := by rw [hX1]; exact IntWalk.i64_in _ (by rw [← hX1]; omega)
            have v5 : IntKind.i64.wrap (M * (q : Int)) = X0 := by rw [hX0]; exact IntWalk.i64_in _ (by rw [← hX0]; omega)
            have d1 := Int.tdiv_eq_ediv_of_nonneg (b := (N : Int)) b1.1
            have d2 := Int.tdiv_eq_ediv_of_nonneg (b := (N : Int)) b2.1
            have d3 : 0 ≤ X0 / (N : Int) ∧ X0 / (N : Int) ≤ X0 := ⟨Int.ediv_nonneg b1.1 (by omega), Int.ediv_le_self _ b1.1⟩
            have d4 : 0 ≤ X1 / (N : Int) ∧ X1 / (N : Int) ≤ X1 := ⟨Int.ediv_nonneg b2.1 (by omega), Int.ediv_le_self _ b2.1⟩
            rw [← d1] at d3
            rw [← d2] at d4
            obtain ⟨D0, hD0⟩ : ∃ D0, D0 = X0.tdiv (N : Int) := ⟨_, rfl⟩
            obtain ⟨D1, hD1⟩ : ∃ D1, D1 = X1.tdiv (N : Int) := ⟨_, rfl⟩
            rw [← hD0] at d3 HPR
            rw [← hD1] at d4 HPR
            have w1' : IntKind.i64.wrap (X0.tdiv (N : Int)) = D0 := by rw [← hD0]; exact IntWalk.i64_in _ (by omega)
            have w2' : IntKind.i64.wrap (X1.tdiv (N : Int)) = D1 := by rw [← hD1]; exact IntWalk.i64_in _ (by omega)
            have w3' : IntKind.i64.wrap (D1 - D0) = D1 - D0 := IntWalk.i64_in _ (by omega)
            obtain ⟨Z, hZ⟩ : ∃ Z, Z = szA out j := ⟨_, rfl⟩
            rw [← hZ] at cb hjb HAS
            have hp2 := HPR.out
            have w4' : IntKind.i64.wrap (Z + (D1 - D0)) = Z + (D1 - D0) := IntWalk.i64_in _ (by omega)
            have w5' : IntKind.i64.wrap ((q : Int) + 1) = (q : Int) + 1 := IntWalk.i64_in _ (by omega)
            have hN0 : ((N : Int) == 0) = false := by simp; omega
            have HNB2 : Hid (Bk (wr.setCell ⟨go, j, none⟩ (.int .i64 (Z + (D1 - D0)))) go 3 ((addT l out p k M (q + 1)).map (Value.int .i64)).toArray) := by
              have := HBK.out.set_ j (.int .i64 (Z + (D1 - D0)))
              rw [HAS.out, HPR.out]
              unfold Hid
              simpa [List.map_set] using this
            have hgne : ga ≠ go := by have := hgo; have := HB1.out.size; omega
            have HOW2 : Hid ((wr.setCell ⟨go, j, none⟩ (.int .i64 (Z + (D1 - D0)))).ownsRow w1.heap.size 3 1 (.slice (some ⟨ga, 0, none⟩) N co) N ((opT l p k).map fun (i : Nat) => Value.int .i64 (i : Int))) := (Kept.set_ (ex := fun a => a = go) (Kept.refl _ _) go j (fun _ => rfl) _).own HOW.out (fun a ha e => by
              have e3 : ga = a := by simpa [Value.ownBlock] using ha
              omega)
            have HKW2 : Hid (Kept w (wr.setCell ⟨go, j, none⟩ (.int .i64 (Z + (D1 - D0)))) (fun k => k = go)) := HKW.out.set_ go j (fun _ => rfl) _
            clear g1 g2 g3 hj hjo hjl hnx hpr b1 b2 hX0 hX1 d1 d2 d3 d4 hD0 hD1 hZ hp2 hqo
            go_wp2_with fail
            go_region
            all_goals
              go_wp2_with fail
              go_roundw
              case rel => exact ⟨q + 1, by omega, by go_num, HNB2.out, HOW2.out, HKW2.out.drew⟩
              case measure => first | (simp [intOf]; done) | (simp [intOf]; omega)
          · obtain rfl : q = N := by omega
            have hik : ¬ (q : Int) < (q : Int) := by omega
            go_wp2_with fail
            go_end0
            exact ⟨⟨_, rfl⟩, by rw [HOUT.out]; exact HBK.out, HKW.out⟩
end Go.Proofs.Ytdpnpjficcciiaa
