/- seat C: Share -/
import Derived.Test.YtdpnpjficcciiaaCe
import Derived.Deep.CutBlock
namespace Go.Proofs.Ytdpnpjficcciiaa
set_option linter.unusedVariables false
set_option linter.unusedSimpArgs false
open Go.RowKit Go.Cas

theorem inf_bool : (Try.prog.info? 4).map (fun i => (i.zero, i.size, i.bytes)) = some (some (.bool false), 1, 1) := by kernel_rfl
theorem mk_I (n : Nat) (hn : n ≤ 1000000) (w : World) : (Instr.makeSlice 27 (.int .i64 (n : Int)) (.int .i64 (n : Int))).run Try.prog w = .ok (.slice (some ⟨w.heap.size, 0, none⟩) n n) (w.alloc (.cells (rowV n (fun _ => .int .i64 0)) 3)) := by
  obtain ⟨w1, h1, h2⟩ := make_I w n hn
  rw [h1, h2.out]
theorem mk_B (n : Nat) (hn : n ≤ 1000000) (w : World) : (Instr.makeSlice 51 (.int .i64 (n : Int)) (.int .i64 (n : Int))).run Try.prog w = .ok (.slice (some ⟨w.heap.size, 0, none⟩) n n) (w.alloc (.cells (rowV n (fun _ => .bool false)) 4)) := by
  obtain ⟨i, hi, hz, h3, h4⟩ := info_parts inf_bool
  have h := run_make (P := Try.prog) w 51 4 i (.bool false) Try.underlying51 hi hz .i64 .i64 n n (by omega) (Int.le_refl _) (by rw [h4]; omega) (by omega)
  simp only [Int.toNat_natCast] at h
  rw [h3, made_row _ rfl] at h
  exact h
/-- the run of all steps -/
inductive ShRun (L : List FI) (gr : Bool) (n : Nat) (room start : Int) : List Int → List Bool → List Int → Prop
  | done {sz : List Int} {st : List Bool} : opn st n = [] → ShRun L gr n room start sz st sz
  | step {sz r : List Int} {st : List Bool} : opn st n ≠ [] → ShRun L gr n room start (Stp.szT ⟨L, gr, n, sz, st, aF start (freeF L sz st room n) (facs gr L st n)⟩ (Stp.m ⟨L, gr, n, sz, st, aF start (freeF L sz st room n) (facs gr L st n)⟩)) (Stp.stT ⟨L, gr, n, sz, st, aF start (freeF L sz st room n) (facs gr L st n)⟩ (Stp.m ⟨L, gr, n, sz, st, aF start (freeF L sz st room n) (facs gr L st n)⟩)) r → ShRun L gr n room start sz st r
theorem opc_pos {st : List Bool} {n : Nat} (h : opn st n ≠ []) : 0 < (opn st n).length := List.length_pos_iff.2 h
theorem shRun_ex (L : List FI) (gr : Bool) (n : Nat) (room start : Int) (m : Nat) : ∀ sz st, st.length = n → opc st n ≤ m → ∃ r, ShRun L gr n room start sz st r := by
  induction m with
  | zero => intro sz st _ h; exact ⟨sz, .done (List.eq_nil_of_length_eq_zero (by unfold opc at h; omega))⟩
  | succ m ih =>
    intro sz st hl h
    by_cases ho : opn st n = []
    · exact ⟨sz, .done ho⟩
    · have hless := Stp.less (P := ⟨L, gr, n, sz, st, aF start (freeF L sz st room n) (facs gr L st n)⟩) hl (opc_pos ho)
      obtain ⟨r, hr⟩ := ih _ _ (by rw [Stp.stT_len]; exact hl) (Nat.le_of_lt_succ (Nat.lt_of_lt_of_le hless h))
      exact ⟨r, .step ho hr⟩
/-- who is settled at first, and with what -/
def iniB (gr : Bool) (x : FI) : Bool := decide (fcI gr x = 0 ∨ (gr = true ∧ bnd x x.b < x.b) ∨ (gr = false ∧ x.b < bnd x x.b))
def iniT (gr : Bool) (L : List FI) (n k : Nat) : List Bool := (List.range n).map fun i => if i < k then iniB gr (itA L i) else false
def iniZ (gr : Bool) (L : List FI) (n k : Nat) : List Int := (List.range n).map fun i => if i < k ∧ iniB gr (itA L i) = true then bnd (itA L i) (itA L i).b else 0
theorem iniT_len (gr : Bool) (L : List FI) (n k : Nat) : (iniT gr L n k).length = n := by simp [iniT]
theorem iniZ_len (gr : Bool) (L : List FI) (n k : Nat) : (iniZ gr L n k).length = n := by simp [iniZ]
theorem iniT_next {gr : Bool} {L : List FI} {n k : Nat} (hk : k < n) : iniT gr L n (k + 1) = (iniT gr L n k).set k (iniB gr (itA L k)) := by
  apply List.ext_getElem (by simp [iniT])
  intro i h1 h2
  rw [List.getElem_set]
  simp only [iniT, List.getElem_map, List.getElem_range]
  by_cases e : k = i
  · subst e; simp
  · rw [if_neg e]
    by_cases h : i < k
    · rw [if_pos h, if_pos (by omega)]
    · rw [if_neg h, if_neg (by omega)]
theorem iniT_keep {gr : Bool} {L : List FI} {n k : Nat} (h : iniB gr (itA L k) = false) : iniT gr L n (k + 1) = iniT gr L n k := by
  apply List.ext_getElem (by simp [iniT])
  intro i h1 h2
  simp only [iniT, List.getElem_map, List.getElem_range]
  by_cases e : k = i
  · subst e; simp [h]
  · by_cases h3 : i < k
    · rw [if_pos h3, if_pos (by omega)]
    · rw [if_neg h3, if_neg (by omega)]
theorem iniZ_next {gr : Bool} {L : List FI} {n k : Nat} (h : iniB gr (itA L k) = true) : iniZ gr L n (k + 1) = (iniZ gr L n k).set k (bnd (itA L k) (itA L k).b) := by
  apply List.ext_getElem (by simp [iniZ])
  intro i h1 h2
  rw [List.getElem_set]
  simp only [iniZ, List.getElem_map, List.getElem_range]
  by_cases e : k = i
  · subst e; simp [h]
  · rw [if_neg e]
    by_cases h3 : i < k
    · by_cases h4 : iniB gr (itA L i) = true
      · rw [if_pos ⟨by omega, h4⟩, if_pos ⟨h3, h4⟩]
      · rw [if_neg (fun h => h4 h.2), if_neg (fun h => h4 h.2)]
    · rw [if_neg (fun h => by omega), if_neg (fun h => h3 h.1)]
theorem iniZ_keep {gr : Bool} {L : List FI} {n k : Nat} (h : iniB gr (itA L k) = false) : iniZ gr L n (k + 1) = iniZ gr L n k := by
  apply List.ext_getElem (by simp [iniZ])
  intro i h1 h2
  simp only [iniZ, List.getElem_map, List.getElem_range]
  by_cases e : k = i
  · subst e; simp [h]
  · by_cases h3 : i < k
    · by_cases h4 : iniB gr (itA L i) = true
      · rw [if_pos ⟨by omega, h4⟩, if_pos ⟨h3, h4⟩]
      · rw [if_neg (fun h => h4 h.2), if_neg (fun h => h4 h.2)]
    · rw [if_neg (fun h => by omega), if_neg (fun h => h3 h.1)]
theorem ini_bd {gr : Bool} {L : List FI} (hf : ∀ x ∈ L, FB x) (n : Nat) : ∀ i, i < n → stA (iniT gr L n n) i = true → 0 ≤ szA (iniZ gr L n n) i ∧ szA (iniZ gr L n n) i ≤ 16777216 := by
  intro i hi hs
  have e1 : stA (iniT gr L n n) i = iniB gr (itA L i) := stA_eq (by rw [List.getElem?_eq_getElem (by rw [iniT_len]; exact hi)]; simp [iniT, hi])
  rw [e1] at hs
  have e2 : szA (iniZ gr L n n) i = bnd (itA L i) (itA L i).b := szA_eq (by rw [List.getElem?_eq_getElem (by rw [iniZ_len]; exact hi)]; simp [iniZ, hi, hs])
  rw [e2]
  have h1 := bnd_bd (itA_fb hf i) (itA L i).b
  have h2 := (itA_fb hf i).b
  omega
theorem ini_val {gr : Bool} {L : List FI} (hf : ∀ x ∈ L, FB x) (n : Nat) : ∀ i, i < n → 0 ≤ valI L (iniZ gr L n n) (iniT gr L n n) i ∧ valI L (iniZ gr L n n) (iniT gr L n n) i ≤ 16777216 := by
  intro i hi
  unfold valI
  split
  · rename_i h; exact ini_bd hf n i hi h
  · exact (itA_fb hf i).b
theorem ini_good {gr : Bool} {L : List FI} (hf : ∀ x ∈ L, FB x) (n : Nat) : Go.Cas.Good n (iniZ gr L n n) (iniT gr L n n) := by
  right
  intro i hi h
  have e1 : stA (iniT gr L n n) i = iniB gr (itA L i) := stA_eq (by rw [List.getElem?_eq_getElem (by rw [iniT_len]; exact hi)]; simp [iniT, hi])
  rw [e1] at h
  have e2 : szA (iniZ gr L n n) i = bnd (itA L i) (itA L i).b := szA_eq (by rw [List.getElem?_eq_getElem (by rw [iniZ_len]; exact hi)]; simp [iniZ, hi, h])
  rw [e2]
  have h1 := bnd_bd (itA_fb hf i) (itA L i).b
  have h2 := (itA_fb hf i).b
  omega
theorem ini0 (gr : Bool) (L : List FI) (n : Nat) : ((iniZ gr L n 0).map (Value.int .i64)).toArray = rowV n (fun _ => .int .i64 0) ∧ ((iniT gr L n 0).map Value.bool).toArray = rowV n (fun _ => .bool false) := by
  constructor
  · unfold rowV iniZ; congr 1; rw [List.map_map]; apply List.map_congr_left; intro i _; simp
  · unfold rowV iniT; congr 1; rw [List.map_map]; apply List.map_congr_left; intro i _; simp
theorem setCell_size (w : World) (p : Addr) (u : Value) : (w.setCell p u).heap.size = w.heap.size := by simp [World.setCell]
theorem sst_mk {w w2 : World} {R c n : Nat} {A : Option Addr} {L : List FI} (gr : Bool) (hx : Bk w2 R 53 #[.slice A n c, .slice none 0 0, .slice none 0 0, .bool false, .int .i64 0]) (hu : RdS w2 R 6 (.slice A n c) n (L.flatMap fi)) (hb : Below w.heap.size w w2) (hwR : w.heap.size ≤ R) (hL : L.length = n) (hfb : ∀ x ∈ L, FB x) :
    SSt w w.heap.size R w2.heap.size (w2.heap.size + 1) A c n L (iniZ gr L n 0) (iniT gr L n 0) false 0 ((((w2.setCell ⟨R, 1, none⟩ (.slice (some ⟨w2.heap.size, 0, none⟩) n n)).setCell ⟨R, 2, none⟩ (.slice (some ⟨w2.heap.size + 1, 0, none⟩) n n)).alloc (.cells (rowV n fun _ => .int .i64 0) 3)).alloc (.cells (rowV n fun _ => .bool false) 4)).drew ∧
    SSt w w.heap.size R (w2.heap.size + 1) w2.heap.size A c n L (iniZ gr L n 0) (iniT gr L n 0) false 0 ((((w2.setCell ⟨R, 1, none⟩ (.slice (some ⟨w2.heap.size + 1, 0, none⟩) n n)).setCell ⟨R, 2, none⟩ (.slice (some ⟨w2.heap.size, 0, none⟩) n n)).alloc (.cells (rowV n fun _ => .bool false) 4)).alloc (.cells (rowV n fun _ => .int .i64 0) 3)).drew := by
  have hR := hx.lt
  obtain ⟨e1, e2⟩ := ini0 gr L n
  have key : ∀ (s1 s2 : Value) (W : World), W = (w2.setCell ⟨R, 1, none⟩ s1).setCell ⟨R, 2, none⟩ s2 → Bk W R 53 #[.slice A n c, s1, s2, .bool false, .int .i64 0] ∧ RdS W R 6 (.slice A n c) n (L.flatMap fi) ∧ Below w.heap.size w W ∧ W.heap.size = w2.heap.size := by
    rintro s1 s2 W rfl
    refine ⟨by simpa using (hx.set_ 1 s1).set_ 2 s2, (hu.keep fun b q hb => World.cell?_setCell_other w2 ⟨R, 1, none⟩ ⟨b, q, none⟩ s1 (fun e => by injection e; omega)).keep fun b q hb => World.cell?_setCell_other _ ⟨R, 2, none⟩ ⟨b, q, none⟩ s2 (fun e => by injection e; omega), (hb.setCell (p := ⟨R, 1, none⟩) hwR _).setCell (p := ⟨R, 2, none⟩) hwR _, by rw [setCell_size, setCell_size]⟩
  constructor
  · obtain ⟨k1, k2, k3, k4⟩ := key _ _ _ rfl
    refine ⟨Bk.drew ((k1.alloc _).alloc _), ?_, ?_, ?_, hL, iniZ_len _ _ _ _, iniT_len _ _ _ _, ⟨hwR, by omega, by omega, by omega⟩, ?_, hfb⟩
    · exact (k2.below' (bl_drew (bl_alloc (bl_alloc (Below.refl _ _) _) _)) (by rw [k4]; omega))
    · rw [e1]; exact Bk.drew ((bk_new' _ _ _ k4.symm).alloc _)
    · rw [e2]; exact Bk.drew (bk_new' _ _ _ (by simp [k4]))
    · exact k3.trans ((bl_drew (bl_alloc (bl_alloc (Below.refl _ _) _) _)).mono (by rw [k4]; omega))
  · obtain ⟨k1, k2, k3, k4⟩ := key _ _ _ rfl
    refine ⟨Bk.drew ((k1.alloc _).alloc _), ?_, ?_, ?_, hL, iniZ_len _ _ _ _, iniT_len _ _ _ _, ⟨hwR, by omega, by omega, by omega⟩, ?_, hfb⟩
    · exact (k2.below' (bl_drew (bl_alloc (bl_alloc (Below.refl _ _) _) _)) (by rw [k4]; omega))
    · rw [e1]; exact Bk.drew (bk_new' _ _ _ (by simp [k4]))
    · rw [e2]; exact Bk.drew ((bk_new' _ _ _ k4.symm).alloc _)
    · exact k3.trans ((bl_drew (bl_alloc (bl_alloc (Below.refl _ _) _) _)).mono (by rw [k4]; omega))
theorem gap_bd {g : Int} {n : Nat} (hg : -16777216 ≤ g ∧ g ≤ 16777216) (hn : n ≤ 200) : -3355443200 ≤ g * (n : Int) ∧ g * (n : Int) ≤ 3355443200 := by
  have a := Int.mul_le_mul_of_nonneg_right hg.1 (show (0 : Int) ≤ (n : Int) by omega)
  have b := Int.mul_le_mul_of_nonneg_right hg.2 (show (0 : Int) ≤ (n : Int) by omega)
  omega
def wantS (L : List FI) (gp : Int) (n k : Nat) : Int := gp * max 0 ((n : Int) - 1) + sumTo (fun i => wantI (itA L i)) k
def roomS (L : List FI) (rm gp : Int) (n k : Nat) : Int := rm - gp * max 0 ((n : Int) - 1) - sumTo (fun i => (itA L i).ar) k
def ShaRet (w : World) (n : Nat) (r : List Int) (e : Ending) (w' : World) : Prop := ∃ g, e = .returned (.slice (some ⟨g, 0, none⟩) n n) ∧ Bk w' g 3 (r.map (Value.int .i64)).toArray ∧ r.length = n ∧ w.heap.size ≤ g ∧ Below w.heap.size w w'
set_option maxRecDepth 100000 in
set_option maxHeartbeats 16000000 in
theorem c_Share (v : Value) (I : List FI) (lim N : Nat) (room0 gap : Int) (w : World) (hr : RdS w lim 6 v N (I.flatMap fi)) (hlim : lim ≤ w.heap.size) (hN : N ≤ 1000) (n : Nat) (hn : n = min N 200) (L : List FI) (hL : L = (I.take 200).map hdI) (gr : Bool) (hgr : gr = decide (wantS L (hld gap) n n < hld room0)) (room start : Int) (hroom : room = roomS L (hld room0) (hld gap) n n) (hstart : start = freeF L (iniZ gr L n n) (iniT gr L n n) room n) (r : List Int) (hrun : ShRun L gr n room start (iniZ gr L n n) (iniT gr L n n) r) :
    Calls Try.prog 6 #[v, .int .i64 room0, .int .i64 gap] w (ShaRet w n r) := by
  have hn2 : n ≤ 200 := by omega
  have HAL := c_all v I lim N w hr hlim hN
  rw [← hn, ← hL] at HAL
  have hfb : ∀ x ∈ L, FB x := by rw [hL]; intro x hx; obtain ⟨y, _, rfl⟩ := List.mem_map.1 hx; exact hdI_fb y
  have HFB := Lib.hid hfb; have HALL := Lib.hid HAL; have HGR := Lib.hid hgr; have HRM := Lib.hid hroom; have HST := Lib.hid hstart; have HRUN := Lib.hid hrun
  have HI := Lib.hid (mk_I n (by omega)); have HBm := Lib.hid (mk_B n (by omega))
  have hgb := hld_bd gap; have hrb := hld_bd room0
  clear hfb HAL hgr hroom hstart hrun hL hn hr
  go_enter Try.func6, Try.ntmps6
  go_wp2_with fail
  refine HALL.out.mono ?_
  rintro e w1 ⟨u, rfl, hu, hb1⟩
  have HU := Lib.hid hu
  obtain ⟨hul, A, c, rfl, hnc, _⟩ := hu
  have HLL : Hid (L.length = n) := by rw [fis_len] at hul; unfold Hid; omega
  have HB1 := Lib.hid hb1
  clear hul hb1
  obtain ⟨R, hR⟩ : ∃ R, R = w1.heap.size := ⟨_, rfl⟩
  have HRR := Lib.hid hR
  obtain ⟨w2, hw2⟩ : ∃ w2, w2 = w1.alloc (.cells #[.slice A n c, .slice none 0 0, .slice none 0 0, .bool false, .int .i64 0] 53) := ⟨_, rfl⟩
  have HX2 : Hid (Bk w2 R 53 #[.slice A n c, .slice none 0 0, .slice none 0 0, .bool false, .int .i64 0]) := by rw [hw2]; exact bk_new' _ _ _ hR
  have HU2 : Hid (RdS w2 R 6 (.slice A n c) n (L.flatMap fi)) := by rw [hw2, hR]; exact HU.out.below (bl_alloc (Below.refl _ _) _)
  have HB2 : Hid (Below w.heap.size w w2) := by rw [hw2]; exact HB1.out.alloc HB1.out.size _
  have HW2 := Lib.hid hw2
  have hwR : w.heap.size ≤ R := by rw [hR]; exact HB1.out.size
  clear hR hw2
  go_upto_region 2 with fail
  rw [← HRR.out, ← HW2.out]
  have q1 := HX2.out.cell; have q2 := HX2.out.free; have q3 := HX2.out.lt
  go_upto_region 3 with fail
  have kI := HI.out; have kB := HBm.out
  go_cut [28] (fun _ wx => ∃ g1 g2, Hid (SSt w w.heap.size R g1 g2 A c n L (iniZ gr L n 0) (iniT gr L n 0) false 0 wx))
  case first =>
    have HMK := sst_mk gr HX2.out HU2.out HB2.out hwR HLL.out HFB.out
    have HM1 := Lib.hid HMK.1; have HM2 := Lib.hid HMK.2
    clear HMK
    go_region
    all_goals
      go_wp2_with fail
      go_meet
      case rel => first | exact ⟨_, _, HM1.out⟩ | exact ⟨_, _, HM2.out⟩
  case rest =>
    obtain ⟨g1, g2, HS⟩ := hcut
    clear q1 q2 q3 kI kB
    obtain ⟨h0, h1, h2, h3, h4⟩ := HS.out.heads
    have hlR := HS.out.ltR; have hfR := HS.out.hd.free; have f1 := fold_max
    have hmx : max 0 ((n : Int) - 1) = ((n - 1 : Nat) : Int) := by omega
    obtain ⟨GM, hGM⟩ : ∃ GM, GM = hld gap * ((n - 1 : Nat) : Int) := ⟨_, rfl⟩
    have hGb : -3355443200 ≤ GM ∧ GM ≤ 3355443200 := by rw [hGM]; exact gap_bd hgb (by omega)
    have HGM := Lib.hid hGM
    have hGb2 := hGb
    rw [hGM] at hGb2
    have HWS : Hid (∀ k, wantS L (hld gap) n k = GM + sumTo (fun i => wantI (itA L i)) k) := fun k => by unfold wantS; rw [hmx, ← hGM]
    have HRS : Hid (∀ k, roomS L (hld room0) (hld gap) n k = hld room0 - GM - sumTo (fun i => (itA L i).ar) k) := fun k => by unfold roomS; rw [hmx, ← hGM]
    have HSR : Hid (SSt w w.heap.size R g1 g2 A c n L (iniZ gr L n 0) (iniT gr L n 0) false (hld room0 - GM) (wc.setCell ⟨R, 4, none⟩ (.int .i64 (hld room0 - GM)))) := HS.out.setRoom _
    have HWB : Hid (∀ k, k ≤ n → -16777216 * 200 ≤ sumTo (fun i => wantI (itA L i)) k ∧ sumTo (fun i => wantI (itA L i)) k ≤ 33554432 * 200) := fun k hk => by
      have := sumTo_bd (f := fun i => wantI (itA L i)) (lo := -16777216) (hi := 33554432) (n := n) (fun i _ => by
        have h1 := bnd_bd (itA_fb HFB.out i) (itA L i).b; have h2 := (itA_fb HFB.out i).b; have h3 := (itA_fb HFB.out i).ar; unfold wantI; omega) k hk
      omega
    have HAB : Hid (∀ k, k ≤ n → -16777216 * 200 ≤ sumTo (fun i => (itA L i).ar) k ∧ sumTo (fun i => (itA L i).ar) k ≤ 16777216 * 200) := fun k hk => by
      have := sumTo_bd (f := fun i => (itA L i).ar) (lo := -16777216) (hi := 16777216) (n := n) (fun i _ => (itA_fb HFB.out i).ar) k hk
      omega
    clear hGM
    go_wp2_with (first | (go_at_call 15; refine (c_heldF _ _).mono ?_; rintro e w' ⟨rfl, rfl⟩))
    rw [← HGM.out]
    clear h0 h1 h2 h3 h4 hlR hfR hmx hGb2
    go_loopw [9, 53] (fun wa i wr => ∃ (k : Nat), k ≤ n ∧ i = .int .i64 k ∧ wa = .int .i64 (GM + sumTo (fun i => wantI (itA L i)) k) ∧ Hid (SSt w w.heap.size R g1 g2 A c n L (iniZ gr L n 0) (iniT gr L n 0) false (hld room0 - GM - sumTo (fun i => (itA L i).ar) k) wr)) (fun _ i _ => n - (intOf i).toNat)
    case atStart => exact ⟨0, by omega, rfl, by simp [sumTo], by simpa [sumTo, Hid] using HSR.out⟩
    case round =>
      obtain ⟨k, hk, rfl, rfl, HSk⟩ := hrel
      by_cases hlt : k < n
      · skip
        have hik : (k : Int) < (n : Int) := by omega
        obtain ⟨g, o, eA, hg, hc⟩ := HSk.out.item hlt
        obtain ⟨h0, h1, h2, h3, h4⟩ := HSk.out.heads
        subst eA
        obtain ⟨d0, d1, d2, d3, d4, d5⟩ := hc _ (Below.refl _ _)
        have hwb := HWB.out k (by omega); have hwb2 := HWB.out (k + 1) (by omega)
        have hab := HAB.out k (by omega); have hab2 := HAB.out (k + 1) (by omega)
        have HS1 : Hid (sumTo (fun i => wantI (itA L i)) (k + 1) = sumTo (fun i => wantI (itA L i)) k + wantI (itA L k)) := rfl
        have HA1 : Hid (sumTo (fun i => (itA L i).ar) (k + 1) = sumTo (fun i => (itA L i).ar) k + (itA L k).ar) := rfl
        have hW := fun W => c_want (itA L k) (itA_fb HFB.out k) W
        obtain ⟨x, hx⟩ : ∃ x, x = itA L k := ⟨_, rfl⟩
        have har := (itA_fb HFB.out k).ar
        rw [← hx] at d0 d1 d2 d3 d4 d5 hW HS1 HA1 har
        obtain ⟨V, hV⟩ : ∃ V, V = wantI x := ⟨_, rfl⟩
        obtain ⟨SW, hSW⟩ : ∃ SW, SW = sumTo (fun i => wantI (itA L i)) k := ⟨_, rfl⟩
        obtain ⟨SW2, hSW2⟩ : ∃ SW2, SW2 = sumTo (fun i => wantI (itA L i)) (k + 1) := ⟨_, rfl⟩
        obtain ⟨SA, hSA⟩ : ∃ SA, SA = sumTo (fun i => (itA L i).ar) k := ⟨_, rfl⟩
        obtain ⟨SA2, hSA2⟩ : ∃ SA2, SA2 = sumTo (fun i => (itA L i).ar) (k + 1) := ⟨_, rfl⟩
        rw [← hV, ← hSW, ← hSW2] at HS1
        rw [← hSA, ← hSA2] at HA1
        rw [← hSW] at hwb
        rw [← hSW2] at hwb2
        rw [← hSA] at hab h4 HSk
        rw [← hSA2] at hab2
        rw [← hV] at hW
        rw [← hSW]
        have HW := Lib.hid hW; have HSW2 := Lib.hid hSW2; have HSA2 := Lib.hid hSA2
        obtain ⟨R2, hR2⟩ : ∃ R2, R2 = wr.heap.size := ⟨_, rfl⟩
        have hRR2 : R < R2 := by rw [hR2]; exact HSk.out.ltR
        have hg1R : g1 < R2 := by rw [hR2]; exact HSk.out.lt1
        have hg2R : g2 < R2 := by rw [hR2]; exact HSk.out.lt2
        have HR2 := Lib.hid hR2
        clear hc hx hV hSW hSW2 hSA hSA2 hW
        obtain ⟨xb, xmn, xmx, xar, xg, xs⟩ := x
        simp only at d0 d1 d2 d3 d4 d5 HA1 har
        have HX := bk_new' wr 26 #[.int .i64 xb, .int .i64 xmn, .int .i64 xmx, .int .i64 xar, .int .i64 xg, .int .i64 xs] hR2
        have HSA3 := Lib.hid (HSk.out.alloc (.cells #[.int .i64 xb, .int .i64 xmn, .int .i64 xmx, .int .i64 xar, .int .i64 xg, .int .i64 xs] 26))
        have HXX := Lib.hid HX
        clear HX hR2
        go_wp2_with fail
        refine (HW.out _).mono ?_
        rintro e w6 ⟨rfl, hb6⟩
        have HS6 := Lib.hid (HSA3.out.below hb6)
        have HX6 := Lib.hid (HXX.out.below hb6 HXX.out.lt)
        rw [← HR2.out]
        clear hb6 d0 d1 d2 d3 d4 d5 h0 h1 h2 h3 h4
        obtain ⟨h0, h1, h2, h3, h4⟩ := HS6.out.heads
        have q1 := HX6.out.cell; have q3 := HX6.out.lt; have hlR := HS6.out.ltR; have hfR := HS6.out.hd.free
        have c3 : w6.cell? ⟨R2, 3, none⟩ = some (.int .i64 xar) := by rw [q1]; rfl
        clear q1
        have v3 : IntKind.i64.wrap (hld room0 - GM - SA - xar) = hld room0 - GM - SA2 := by rw [HA1.out, show hld room0 - GM - (SA + xar) = hld room0 - GM - SA - xar by omega]; exact IntWalk.i64_in _ (by have := HA1.out; omega)
        have v4 : IntKind.i64.wrap (GM + SW + V) = GM + SW2 := by rw [HS1.out, show GM + (SW + V) = GM + SW + V by omega]; exact IntWalk.i64_in _ (by have := HS1.out; omega)
        go_wp2_with fail
        go_region
        all_goals
          go_wp2_with fail
          go_roundw
          case rel => exact ⟨k + 1, by omega, by go_num, by rw [HSW2.out], by rw [← HSA2.out]; exact (HS6.out.setRoom _).drew⟩
          case measure => simp [intOf]; omega
      · obtain rfl : k = n := by omega
        have hik : ¬ (k : Int) < (k : Int) := by omega
        obtain ⟨h0, h1, h2, h3, h4⟩ := HSk.out.heads
        have hlR := HSk.out.ltR; have hfR := HSk.out.hd.free
        have HGE : Hid (decide (GM + sumTo (fun i => wantI (itA L i)) k < hld room0) = gr) := by unfold Hid; rw [HGR.out, HWS.out]
        have HS2 : Hid (SSt w w.heap.size R g1 g2 A c k L (iniZ gr L k 0) (iniT gr L k 0) gr room (wr.setCell ⟨R, 3, none⟩ (.bool gr))) := by
          have := HSk.out.setGr gr
          rw [← HRS.out, ← HRM.out] at this
          exact this
        go_wp2_with (first | (go_at_call 15; refine (c_heldF _ _).mono ?_; rintro e w' ⟨rfl, rfl⟩))
        rw [HGE.out]
        clear h0 h1 h2 h3 h4 hlR hfR hlt
        go_loopw [83] (fun i wr => ∃ (q : Nat), q ≤ k ∧ i = .int .i64 q ∧ Hid (SSt w w.heap.size R g1 g2 A c k L (iniZ gr L k q) (iniT gr L k q) gr room wr)) (fun i _ => k - (intOf i).toNat)
        case atStart => exact ⟨0, by omega, rfl, HS2.out⟩
        case round =>
          obtain ⟨q, hq, rfl, HSq⟩ := hrel
          by_cases hqn : q < k
          · skip
            have hik2 : (q : Int) < (k : Int) := by omega
            obtain ⟨g, o, eA, hg, hc⟩ := HSq.out.item hqn
            obtain ⟨h0, h1, h2, h3, h4⟩ := HSq.out.heads
            subst eA
            obtain ⟨d0, d1, d2, d3, d4, d5⟩ := hc _ (Below.refl _ _)
            have HIBD : Hid (iniB gr (itA L q) = decide (fcI gr (itA L q) = 0 ∨ (gr = true ∧ bnd (itA L q) (itA L q).b < (itA L q).b) ∨ (gr = false ∧ (itA L q).b < bnd (itA L q) (itA L q).b))) := rfl
            have hW := fun W => c_bounded (itA L q) (itA L q).b W
            have HCF : Hid (∀ W, SSt w w.heap.size R g1 g2 (some ⟨g, o, none⟩) c k L (iniZ gr L k q) (iniT gr L k q) gr room W → Calls Try.prog 18 #[.pointer (some ⟨R, 0, none⟩), .int .i64 q] W fun e w' => e = .returned (.int .i64 (fcI gr (itA L q))) ∧ W = w') := fun W hs => c_factor hs hn2 q hqn
            obtain ⟨x, hx⟩ : ∃ x, x = itA L q := ⟨_, rfl⟩
            have HXQ := Lib.hid hx
            rw [← hx] at d0 d1 d2 d3 d4 d5 hW HCF HIBD
            obtain ⟨BB, hBB⟩ : ∃ BB, BB = bnd x x.b := ⟨_, rfl⟩
            obtain ⟨F, hF⟩ : ∃ F, F = fcI gr x := ⟨_, rfl⟩
            rw [← hBB] at hW HIBD
            rw [← hF] at HCF HIBD
            have HW := Lib.hid hW
            have HXE : Hid (BB = bnd (itA L q) (itA L q).b) := by rw [← hx]; exact hBB
            obtain ⟨R2, hR2⟩ : ∃ R2, R2 = wr.heap.size := ⟨_, rfl⟩
            have hRR2 : R < R2 := by rw [hR2]; exact HSq.out.ltR
            have HR2 := Lib.hid hR2
            rw [hx] at HIBD
            clear hc hBB hF hW
            obtain ⟨xb, xmn, xmx, xar, xg, xs⟩ := x
            have hxb : (itA L q).b = xb := by rw [← hx]
            rw [hxb] at HIBD
            clear hx hxb
            simp only at d0 d1 d2 d3 d4 d5 HW
            have HXX := Lib.hid (bk_new' wr 26 #[.int .i64 xb, .int .i64 xmn, .int .i64 xmx, .int .i64 xar, .int .i64 xg, .int .i64 xs] hR2)
            have HSA3 := Lib.hid (HSq.out.alloc (.cells #[.int .i64 xb, .int .i64 xmn, .int .i64 xmx, .int .i64 xar, .int .i64 xg, .int .i64 xs] 26))
            clear hR2
            go_wp2_with fail
            refine (HW.out _).mono ?_
            rintro e w6 ⟨rfl, hb6⟩
            have HS7 := Lib.hid (HSA3.out.below hb6)
            have HX6 := Lib.hid (HXX.out.below hb6 HXX.out.lt)
            rw [← HR2.out]
            clear hb6 d0 d1 d2 d3 d4 d5 h0 h1 h2 h3 h4
            obtain ⟨h0, h1, h2, h3, h4⟩ := HS7.out.heads
            have hlR := HS7.out.ltR
            have q1 := HX6.out.cell; have q3 := HX6.out.lt
            have c0 : w6.cell? ⟨R2, 0, none⟩ = some (.int .i64 xb) := by rw [q1]; rfl
            have cz := HS7.out.cZ hqn; have cs := HS7.out.cS hqn
            have fz := HS7.out.size.free q; have fs := HS7.out.stt.free q
            have l1 := HS7.out.lt1; have l2 := HS7.out.lt2; have hne := HS7.out.geo.ne
            clear q1
            go_wp2_with fail
            refine (HCF.out _ HS7.out).mono ?_
            rintro e w' ⟨rfl, rfl⟩
            by_cases hF0 : F = 0
            · have HIB : Hid (iniB gr (itA L q) = true) := by unfold Hid; rw [HIBD.out]; exact decide_eq_true (.inl hF0)
              subst hF0
              go_wp2_with fail
              go_region
              all_goals
                go_wp2_with fail
                go_roundw
                case rel =>
                  refine ⟨q + 1, by omega, by go_num, ?_⟩
                  rw [iniT_next hqn, iniZ_next HIB.out, HIB.out, ← HXE.out]
                  first | exact ((HS7.out.setZ q BB).setS q true).drew | exact ((HS7.out.setS q true).setZ q BB).drew
                case measure => simp [intOf]; omega
            · have b1 : (F == 0) = false := by simpa using hF0
              cases gr
              · by_cases hc1 : xb < BB
                · have HIB : Hid (iniB false (itA L q) = true) := by unfold Hid; rw [HIBD.out]; exact decide_eq_true (.inr (.inr ⟨rfl, hc1⟩))
                  go_wp2_with fail
                  go_region
                  all_goals
                    go_wp2_with fail
                    go_roundw
                    case rel =>
                      refine ⟨q + 1, by omega, by go_num, ?_⟩
                      rw [iniT_next hqn, iniZ_next HIB.out, HIB.out, ← HXE.out]
                      first | exact ((HS7.out.setZ q BB).setS q true).drew | exact ((HS7.out.setS q true).setZ q BB).drew
                    case measure => simp [intOf]; omega
                · have HIB : Hid (iniB false (itA L q) = false) := by unfold Hid; rw [HIBD.out]; exact decide_eq_false (fun h => by rcases h with h | h | h; exact hF0 h; cases h.1; exact hc1 h.2)
                  go_wp2_with fail
                  go_roundw
                  case rel => exact ⟨q + 1, by omega, by go_num, by rw [iniT_keep HIB.out, iniZ_keep HIB.out]; exact HS7.out⟩
                  case measure => simp [intOf]; omega
              · by_cases hc1 : BB < xb
                · have HIB : Hid (iniB true (itA L q) = true) := by unfold Hid; rw [HIBD.out]; exact decide_eq_true (.inr (.inl ⟨rfl, hc1⟩))
                  go_wp2_with fail
                  go_region
                  all_goals
                    go_wp2_with fail
                    go_roundw
                    case rel =>
                      refine ⟨q + 1, by omega, by go_num, ?_⟩
                      rw [iniT_next hqn, iniZ_next HIB.out, HIB.out, ← HXE.out]
                      first | exact ((HS7.out.setZ q BB).setS q true).drew | exact ((HS7.out.setS q true).setZ q BB).drew
                    case measure => simp [intOf]; omega
                · have HIB : Hid (iniB true (itA L q) = false) := by unfold Hid; rw [HIBD.out]; exact decide_eq_false (fun h => by rcases h with h | h | h; exact hF0 h; exact hc1 h.2; cases h.1)
                  go_wp2_with fail
                  go_roundw
                  case rel => exact ⟨q + 1, by omega, by go_num, by rw [iniT_keep HIB.out, iniZ_keep HIB.out]; exact HS7.out⟩
                  case measure => simp [intOf]; omega
          · obtain rfl : q = k := by omega
            have hik2 : ¬ (q : Int) < (q : Int) := by omega
            have hv := ini_val (gr := gr) HFB.out q
            have hab := HAB.out q (Nat.le_refl _)
            have hrm : room = hld room0 - GM - sumTo (fun i => (itA L i).ar) q := by rw [HRM.out, HRS.out]
            have hroomb : -100000000000 ≤ room ∧ room ≤ 100000000000 := by omega
            have hsm := sumTo_bd hv q (Nat.le_refl _)
            have hstb : -100000000000 ≤ start ∧ start ≤ 100000000000 := by rw [HST.out]; unfold freeF; omega
            have HFR := Lib.hid (c_free HSq.out hn2 hv hroomb)
            rw [← HST.out] at HFR
            clear hv hab hrm hsm
            go_wp2_with fail
            refine HFR.out.mono ?_
            rintro e w6 ⟨rfl, hb6⟩
            have HS6 := Lib.hid (HSq.out.below hb6)
            clear hb6
            go_wp2_with fail
            go_loopg [] (opc (iniT gr L q q) q) (fun gk wr => ∃ (sz : List Int) (st : List Bool), Hid (gk = opc st q) ∧ Hid (SSt w w.heap.size R g1 g2 A c q L sz st gr room wr) ∧ Hid (Go.Cas.Good q sz st) ∧ Hid (ShRun L gr q room start sz st r))
            case atStart => exact ⟨_, _, rfl, HS6.out, ini_good HFB.out q, HRUN.out⟩
            case round =>
              obtain ⟨sz, st, HGK, HSs, HGd, HRn⟩ := hrel
              have HCS := Lib.hid (c_step HSs.out hn2 HGd.out hroomb start hstb)
              go_wp2_with fail
              refine HCS.out.mono ?_
              rintro e w7 ⟨bv, rfl, hs1, hs2⟩
              have HC1 := Lib.hid hs1; have HC2 := Lib.hid hs2
              clear hs1 hs2
              by_cases ho : opn st q = []
              · obtain ⟨rfl, hs7⟩ := HC1.out ho
                have HS7 := Lib.hid hs7
                have hfin : sz = r := by
                  have hrr := HRn.out
                  cases hrr with
                  | done _ => rfl
                  | step hno _ => exact absurd ho hno
                have HFN := Lib.hid hfin
                obtain ⟨h0, h1, h2, h3, h4⟩ := hs7.heads
                clear hs7 hfin ho
                go_wp2_with fail
                go_ret
                have hg := HS7.out.geo
                exact ⟨g1, rfl, by rw [← HFN.out]; exact HS7.out.size, by rw [← HFN.out]; exact HS7.out.lenz, by have := hg.hR; have := hg.h1; omega, HS7.out.bel⟩
              · obtain ⟨rfl, hs7⟩ := HC2.out ho
                have HS7 := Lib.hid hs7
                have HRn2 : Hid (ShRun L gr q room start (Stp.szT ⟨L, gr, q, sz, st, aF start (freeF L sz st room q) (facs gr L st q)⟩ (Stp.m ⟨L, gr, q, sz, st, aF start (freeF L sz st room q) (facs gr L st q)⟩)) (Stp.stT ⟨L, gr, q, sz, st, aF start (freeF L sz st room q) (facs gr L st q)⟩ (Stp.m ⟨L, gr, q, sz, st, aF start (freeF L sz st room q) (facs gr L st q)⟩)) r) := by
                  have hrr := HRn.out
                  cases hrr with
                  | done hno => exact absurd hno ho
                  | step _ hnext => exact hnext
                have HLS := Lib.hid (Stp.less (P := ⟨L, gr, q, sz, st, aF start (freeF L sz st room q) (facs gr L st q)⟩) HSs.out.lens (opc_pos ho))
                have HGG := Lib.hid (Stp.good (P := ⟨L, gr, q, sz, st, aF start (freeF L sz st room q) (facs gr L st q)⟩) HSs.out.fb HSs.out.lenz HSs.out.lens HGd.out (opc_pos ho))
                clear hs7 ho
                go_wp2_with fail
                go_roundg (opc (Stp.stT ⟨L, gr, q, sz, st, aF start (freeF L sz st room q) (facs gr L st q)⟩ (Stp.m ⟨L, gr, q, sz, st, aF start (freeF L sz st room q) (facs gr L st q)⟩)) q)
                case measure => rw [HGK.out]; exact HLS.out
                case rel => exact ⟨_, _, rfl, HS7.out, HGG.out, HRn2.out⟩
end Go.Proofs.Ytdpnpjficcciiaa
