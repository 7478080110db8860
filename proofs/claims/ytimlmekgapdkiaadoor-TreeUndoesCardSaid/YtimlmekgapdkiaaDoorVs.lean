/- the law's sameTwigs: two looks at one tree -/
import Derived.Test.YtimlmekgapdkiaaDoorVr
import Derived.Deep.RegionHeld3
namespace Go.Proofs.YtimlmekgapdkiaaDoor
set_option linter.unusedVariables false
set_option linter.unusedSimpArgs false
open Go.RowKit Go.Cas

theorem kpi_eq (x : Nod) : kpi x = (x.ki.map (fun k => ((k : Nat) : Int)) ++ [x.pa]).map (Value.int .i64) := by
  simp [kpi, kic]
set_option maxRecDepth 100000 in
theorem c_sameIntsZ {w : World} {n lim : Nat} {v v2 : Value} {l : List Int} (h : RdS w lim 1 v n (l.map (Value.int .i64))) (h2 : RdS w lim 1 v2 n (l.map (Value.int .i64))) (hn : n ≤ 1000000000) (hlim : lim ≤ w.heap.size) :
    Calls Tryd.prog 60 #[v, v2] w fun e w' => e = .returned (.bool true) ∧ Below w.heap.size w w' := by
  have hll : l.length = n := by have := h.1; simpa using this
  obtain ⟨_, A, c, rfl, _, hc⟩ := h
  obtain ⟨_, A2, c2, rfl, _, hc2⟩ := h2
  have HL := Lib.hid hll
  have HC1 := Lib.hid hc
  have HC2 := Lib.hid hc2
  have HLIM := Lib.hid hlim
  clear hll hc hc2
  go_enter Tryd.func60, Tryd.ntmps60
  go_wp2_with fail
  go_loopw [5] (fun i wr => ∃ (k m : Nat), k ≤ n ∧ i = .int .i64 k ∧ wr = w.drewN m) (fun i _ => n - (intOf i).toNat)
  case atStart => exact ⟨0, 0, by omega, rfl, rfl⟩
  case round =>
    obtain ⟨k, m, hk, rfl, rfl⟩ := hrel
    by_cases hlt : k < n
    · have hik : (k : Int) < (n : Int) := by omega
      obtain ⟨x, hx⟩ : ∃ x, l[k]? = some x := ⟨_, List.getElem?_eq_getElem (by have := HL.out; omega)⟩
      obtain ⟨g, o, rfl, hg, hcc⟩ := HC1.out (by omega)
      obtain ⟨g2, o2, rfl, hg2, hcc2⟩ := HC2.out (by omega)
      have c1 : w.cell? ⟨g, o + k, none⟩ = some (.int .i64 x) := hcc k _ (by rw [List.getElem?_map, hx]; rfl)
      have c2 : w.cell? ⟨g2, o2 + k, none⟩ = some (.int .i64 x) := hcc2 k _ (by rw [List.getElem?_map, hx]; rfl)
      have hgs : g < w.heap.size := Nat.lt_of_lt_of_le hg hlim
      have hgs2 : g2 < w.heap.size := Nat.lt_of_lt_of_le hg2 hlim
      clear hx hcc hcc2
      go_upto_region 6 with fail
      go_quiet (fail)
      go_wp2_with fail
      go_roundw
      case rel => exact ⟨k + 1, m + nq, by omega, by go_num, rfl⟩
      case measure => simp [intOf]; omega
    · obtain rfl : k = n := by omega
      go_wp2_with fail
      go_ret
      exact ⟨rfl, bl_drewN (Below.refl _ _) m⟩
theorem rd_lk {w : World} {lim n k : Nat} {A : Option Addr} {c : Nat} {V : List LkV} {y : LkV} (h : RdS w lim 5 (.slice A n c) n (V.flatMap lkc)) (hp : V[k]? = some y) : ∃ g o, A = some ⟨g, o, none⟩ ∧ g < lim ∧ ∀ w', Below lim w w' →
    (w'.cell? ⟨g, o + k * 5, none⟩ = some (.int .i64 y.x.k) ∧ w'.cell? ⟨g, o + k * 5 + 1, none⟩ = some (.string y.x.tag) ∧ w'.cell? ⟨g, o + k * 5 + 2, none⟩ = some (.string y.x.txt) ∧ w'.cell? ⟨g, o + k * 5 + 3, none⟩ = some y.va ∧ w'.cell? ⟨g, o + k * 5 + 4, none⟩ = some y.vk) := by
  have hl : V.length = n := by have h1 := h.1; rw [lks_len] at h1; omega
  have hk := (List.getElem?_eq_some_iff.1 hp).1
  obtain ⟨_, A', c', e, _, hc⟩ := h
  injection e with e1 _ e2
  subst e1 e2
  obtain ⟨g, o, e, hg, hcell⟩ := hc (by omega)
  refine ⟨g, o, e, hg, fun w' hb => ?_⟩
  have key : ∀ j, j < 5 → ∀ u, (lkc y)[j]? = some u → w'.cell? ⟨g, o + k * 5 + j, none⟩ = some u := fun j hj u hu => by
    have := hcell (k * 5 + j) u (by rw [flat_get lkc 5 (fun _ => rfl) V k j y hp hj]; exact hu)
    rw [← Nat.add_assoc] at this
    exact (hb.cell (p := ⟨g, _, none⟩) hg).trans this
  exact ⟨key 0 (by omega) _ rfl, key 1 (by omega) _ rfl, key 2 (by omega) _ rfl, key 3 (by omega) _ rfl, key 4 (by omega) _ rfl⟩
set_option maxRecDepth 100000 in
set_option maxHeartbeats 8000000 in
theorem c_sameTwigs {w : World} {lim : Nat} {v v2 : Value} {T : List Nod} (h : LookOk w lim v T) (h2 : LookOk w lim v2 T) (hT : T.length ≤ 400) (hA : ∀ j, (ndA T j).at_.length ≤ 1000) (hK : ∀ j, (ndA T j).ki.length ≤ 400) (hlim : lim ≤ w.heap.size) :
    Calls Tryd.prog 23 #[v, v2] w fun e w' => e = .returned (.bool true) ∧ Below w.heap.size w w' := by
  obtain ⟨V, hV, hr, hd⟩ := h
  obtain ⟨V2, hV2, hr2, hd2⟩ := h2
  have HV := Lib.hid hV
  have HV2 := Lib.hid hV2
  have HR := Lib.hid hr
  have HR2 := Lib.hid hr2
  have HDD := Lib.hid hd
  have HDD2 := Lib.hid hd2
  have HA := Lib.hid hA
  have HK := Lib.hid hK
  have HLIM := Lib.hid hlim
  obtain ⟨_, A, c, rfl, _, _⟩ := hr
  obtain ⟨_, A2, c2, rfl, _, _⟩ := hr2
  clear hV hV2 hd hd2 hA hK
  go_enter Tryd.func23, Tryd.ntmps23
  go_wp2_with fail
  go_loopw [5] (fun c wr => ∃ (i : Nat), i ≤ T.length ∧ c = .int .i64 (i : Int) ∧ Hid (Below w.heap.size w wr)) (fun c _ => T.length - (intOf c).toNat)
  case atStart => exact ⟨0, by omega, rfl, Below.refl _ _⟩
  case round =>
    obtain ⟨i, hi, rfl, HB⟩ := hrel
    by_cases hlt : i < T.length
    · have hil : (i : Int) < (T.length : Int) := by omega
      obtain ⟨y, hy, hyx⟩ : ∃ y, V[i]? = some y ∧ y.x = ndA T i := by
        have h1 := ndA_get hlt
        rw [← HV.out, List.getElem?_map] at h1
        cases hv : V[i]? with
        | none => rw [hv] at h1; cases h1
        | some y => rw [hv] at h1; injection h1 with h1; exact ⟨y, rfl, by rw [h1, HV.out]⟩
      obtain ⟨z, hz, hzx⟩ : ∃ y, V2[i]? = some y ∧ y.x = ndA T i := by
        have h1 := ndA_get hlt
        rw [← HV2.out, List.getElem?_map] at h1
        cases hv : V2[i]? with
        | none => rw [hv] at h1; cases h1
        | some y => rw [hv] at h1; injection h1 with h1; exact ⟨y, rfl, by rw [h1, HV2.out]⟩
      obtain ⟨hda, hdk⟩ := HDD.out y (List.mem_of_getElem? hy)
      obtain ⟨hea, hek⟩ := HDD2.out z (List.mem_of_getElem? hz)
      obtain ⟨g, o, hA1, hg, hc⟩ := rd_lk HR.out hy
      obtain ⟨g2, o2, hA2, hg2, hc2⟩ := rd_lk HR2.out hz
      subst hA1 hA2
      rw [hyx] at hc hda hdk
      rw [hzx] at hc2 hea hek
      have hxa := HA.out i
      have hxk := HK.out i
      obtain ⟨x, hx⟩ : ∃ x, x = ndA T i := ⟨_, rfl⟩
      rw [← hx] at hc hc2 hda hdk hea hek hxa hxk
      obtain ⟨va, hva⟩ : ∃ va, va = y.va := ⟨_, rfl⟩
      obtain ⟨vk, hvk⟩ : ∃ vk, vk = y.vk := ⟨_, rfl⟩
      obtain ⟨ua, hua⟩ : ∃ ua, ua = z.va := ⟨_, rfl⟩
      obtain ⟨uk, huk⟩ : ∃ uk, uk = z.vk := ⟨_, rfl⟩
      rw [← hva, ← hvk] at hc
      rw [← hua, ← huk] at hc2
      rw [← hva] at hda
      rw [← hvk, kpi_eq] at hdk
      rw [← hua] at hea
      rw [← huk, kpi_eq] at hek
      obtain ⟨q, hq⟩ : ∃ q, q = i * 5 := ⟨_, rfl⟩
      have HSA : Hid (∀ W', Below wr.heap.size wr W' → Calls Tryd.prog 58 #[va, ua] W' fun e w' => e = .returned (.bool true) ∧ Below W'.heap.size W' w') := fun W' hb => by
        have hb2 := bl_trans HB.out hb
        exact c_sameAttrs (hda.below (hb2.mono hlim)) (hea.below (hb2.mono hlim)) (by omega) (Nat.le_trans hlim hb2.size)
      have HSI : Hid (∀ W', Below wr.heap.size wr W' → Calls Tryd.prog 60 #[vk, uk] W' fun e w' => e = .returned (.bool true) ∧ Below W'.heap.size W' w') := fun W' hb => by
        have hb2 := bl_trans HB.out hb
        exact c_sameIntsZ (hdk.below (hb2.mono hlim)) (hek.below (hb2.mono hlim)) (by omega) (Nat.le_trans hlim hb2.size)
      have HCC : Hid (∀ W', Below wr.heap.size wr W' → (W'.cell? ⟨g, o + i * 5, none⟩ = some (.int .i64 x.k) ∧ W'.cell? ⟨g, o + i * 5 + 1, none⟩ = some (.string x.tag) ∧ W'.cell? ⟨g, o + i * 5 + 2, none⟩ = some (.string x.txt) ∧ W'.cell? ⟨g, o + i * 5 + 3, none⟩ = some va ∧ W'.cell? ⟨g, o + i * 5 + 4, none⟩ = some vk) ∧ (W'.cell? ⟨g2, o2 + i * 5, none⟩ = some (.int .i64 x.k) ∧ W'.cell? ⟨g2, o2 + i * 5 + 1, none⟩ = some (.string x.tag) ∧ W'.cell? ⟨g2, o2 + i * 5 + 2, none⟩ = some (.string x.txt) ∧ W'.cell? ⟨g2, o2 + i * 5 + 3, none⟩ = some ua ∧ W'.cell? ⟨g2, o2 + i * 5 + 4, none⟩ = some uk)) := fun W' hb => by
        have hb2 := (bl_trans HB.out hb).mono hlim
        exact ⟨hc W' hb2, hc2 W' hb2⟩
      have HSa : Hid (∀ W', Below wr.heap.size wr W' → W'.cell? ⟨g, o + i * 5 + 3, none⟩ = some va ∧ W'.cell? ⟨g2, o2 + i * 5 + 3, none⟩ = some ua) := fun W' hb => ⟨(HCC.out W' hb).1.2.2.2.1, (HCC.out W' hb).2.2.2.2.1⟩
      have HSk : Hid (∀ W', Below wr.heap.size wr W' → W'.cell? ⟨g, o + i * 5 + 4, none⟩ = some vk ∧ W'.cell? ⟨g2, o2 + i * 5 + 4, none⟩ = some uk) := fun W' hb => ⟨(HCC.out W' hb).1.2.2.2.2, (HCC.out W' hb).2.2.2.2.2⟩
      obtain ⟨_, Aa, ca, rfl, _, _⟩ := hda
      obtain ⟨_, Ak, ck, rfl, _, _⟩ := hdk
      obtain ⟨_, Ba, da, rfl, _, _⟩ := hea
      obtain ⟨_, Bk', dk, rfl, _, _⟩ := hek
      have hgl : g < wr.heap.size := Nat.lt_of_lt_of_le hg (Nat.le_trans hlim HB.out.size)
      have hgl2 : g2 < wr.heap.size := Nat.lt_of_lt_of_le hg2 (Nat.le_trans hlim HB.out.size)
      obtain ⟨xk, hxk2⟩ : ∃ xk, xk = x.k := ⟨_, rfl⟩
      obtain ⟨xg, hxg⟩ : ∃ xg, xg = x.tag := ⟨_, rfl⟩
      obtain ⟨xt, hxt⟩ : ∃ xt, xt = x.txt := ⟨_, rfl⟩
      rw [← hxk2, ← hxg, ← hxt] at HCC
      clear hy hyx hz hzx hc hc2 hx hva hvk hua huk hq hxk2 hxg hxt
      go_upto_region 6 with fail
      go_cut [6] (fun v6 wx => v6 = .bool true ∧ Hid (Below wr.heap.size wr wx))
      case first =>
        obtain ⟨s0, s1⟩ := HSa.out wr (Below.refl _ _)
        go_region_held3 (fun w' => w'.cell? ⟨g, o + i * 5 + 3, none⟩ = some (.slice Aa x.at_.length ca) ∧ w'.cell? ⟨g2, o2 + i * 5 + 3, none⟩ = some (.slice Ba x.at_.length da))
          (first | with_reducible exact HSa.out _ (Below.refl _ _) | with_reducible exact HSa.out _ (bl_drew (Below.refl _ _)) | with_reducible exact HSa.out _ HBS.out)
          (first | (go_at_call 58; (with_reducible refine (HSA.out _ (bl_drew (Below.refl _ _))).mono ?_); rintro e ws ⟨rfl, hbs⟩; have HBS : Hid (Below wr.heap.size wr ws) := bl_trans (bl_drew (Below.refl _ _)) hbs; clear hbs))
        all_goals
          go_wp2_with fail
          go_meet
          exact ⟨rfl, HBS.out⟩
      case rest =>
        obtain ⟨rfl, HB6⟩ := hcut
        obtain ⟨w6, rfl⟩ : ∃ w6 : World, w6 = wc := ⟨_, rfl⟩
        have HSk6 : Hid (∀ W', Below w6.heap.size w6 W' → W'.cell? ⟨g, o + i * 5 + 4, none⟩ = some (.slice Ak (x.ki.length + 1) ck) ∧ W'.cell? ⟨g2, o2 + i * 5 + 4, none⟩ = some (.slice Bk' (x.ki.length + 1) dk)) := fun W' hb => HSk.out W' (bl_trans HB6.out hb)
        have HSI6 : Hid (∀ W', Below w6.heap.size w6 W' → Calls Tryd.prog 60 #[.slice Ak (x.ki.length + 1) ck, .slice Bk' (x.ki.length + 1) dk] W' fun e w' => e = .returned (.bool true) ∧ Below W'.heap.size W' w') := fun W' hb => HSI.out W' (bl_trans HB6.out hb)
        go_upto_region 7 with fail
        go_cut [7] (fun v7 wx => v7 = .bool true ∧ Hid (Below w6.heap.size w6 wx))
        case first =>
          obtain ⟨s0, s1⟩ := HSk6.out w6 (Below.refl _ _)
          have hgl3 : g < w6.heap.size := Nat.lt_of_lt_of_le hgl HB6.out.size
          have hgl4 : g2 < w6.heap.size := Nat.lt_of_lt_of_le hgl2 HB6.out.size
          go_region_held3 (fun w' => w'.cell? ⟨g, o + i * 5 + 4, none⟩ = some (.slice Ak (x.ki.length + 1) ck) ∧ w'.cell? ⟨g2, o2 + i * 5 + 4, none⟩ = some (.slice Bk' (x.ki.length + 1) dk))
            (first | with_reducible exact HSk6.out _ (Below.refl _ _) | with_reducible exact HSk6.out _ (bl_drew (Below.refl _ _)) | with_reducible exact HSk6.out _ HBS.out)
            (first | (go_at_call 60; (with_reducible refine (HSI6.out _ (bl_drew (Below.refl _ _))).mono ?_); rintro e ws ⟨rfl, hbs⟩; have HBS : Hid (Below w6.heap.size w6 ws) := bl_trans (bl_drew (Below.refl _ _)) hbs; clear hbs))
          all_goals
            go_wp2_with fail
            go_meet
            exact ⟨rfl, HBS.out⟩
        case rest =>
          obtain ⟨rfl, HB7⟩ := hcut
          have hb7 := bl_trans HB6.out HB7.out
          obtain ⟨⟨p0, p1, p2, _, _⟩, ⟨r0, r1, r2, _, _⟩⟩ := HCC.out wc hb7
          have HB8 : Hid (Below w.heap.size w wc) := bl_trans HB.out hb7
          have hgl3 : g < wc.heap.size := Nat.lt_of_lt_of_le hgl hb7.size
          have hgl4 : g2 < wc.heap.size := Nat.lt_of_lt_of_le hgl2 hb7.size
          clear hb7
          go_upto_region 8 with fail
          go_quiet (fail)
          go_wp2_with fail
          go_roundw
          case rel => exact ⟨i + 1, by omega, by go_num, bl_drewN HB8.out _⟩
          case measure => simp [intOf]; omega
    · obtain rfl : i = T.length := by omega
      have hil : ¬ (T.length : Int) < (T.length : Int) := by omega
      go_wp2_with fail
      go_ret
      exact ⟨rfl, HB.out⟩
end Go.Proofs.YtimlmekgapdkiaaDoor
