/- the tree: Unset -/
import Derived.Test.YtimlmekgapdkiaaGreatDoorVc
namespace Go.Proofs.YtimlmekgapdkiaaGreatDoor
set_option linter.unusedVariables false
set_option linter.unusedSimpArgs false
open Go.RowKit Go.Cas

def atN (x : Nod) (l : List (ByteArray × ByteArray)) : Nod := { x with at_ := l }
theorem c_Unset_no {w : World} {B R : Nat} {F : Nat → Prop} {T : List Nod} {D : List (Value × List Nod)} {a : Int} {p : Nat → Addr} (h : TS B R T D F w) (hG : GE w B p) (hT : T.length ≤ 400) (ha : a < 0 ∨ (T.length : Int) ≤ a) (nm : ByteArray) :
    Calls Tryz.prog 32 #[.pointer (some ⟨R, 0, none⟩), .int .i64 a, .string nm] w (ErrB p 4 w) := by
  have HE := Lib.hid (c_element_no h hG hT ha)
  unfold ErrR errV at HE
  clear h hG hT ha
  go_enter Tryz.func32, Tryz.ntmps32
  go_wp2_with (go_at_call 60; refine (HE.out).mono ?_; rintro e w' ⟨rfl, rfl⟩)
  go_ret
  exact ⟨rfl, Below.refl _ _⟩
theorem c_Unset_kind {w : World} {B R i : Nat} {F : Nat → Prop} {T : List Nod} {D : List (Value × List Nod)} {x : Nod} {p : Nat → Addr} (h : TS B R T D F w) (hG : GE w B p) (hT : T.length ≤ 400) (hx : T[i]? = some x) (hk : x.k ≠ 2) (nm : ByteArray) :
    Calls Tryz.prog 32 #[.pointer (some ⟨R, 0, none⟩), .int .i64 (i : Int), .string nm] w (ErrB p 5 w) := by
  have HE := Lib.hid (c_element_kind h hG hT hx hk)
  unfold ErrR errV at HE
  clear h hG hT hx hk
  go_enter Tryz.func32, Tryz.ntmps32
  go_wp2_with (go_at_call 60; refine (HE.out).mono ?_; rintro e w' ⟨rfl, rfl⟩)
  go_ret
  exact ⟨rfl, Below.refl _ _⟩
theorem c_Unset_name {w : World} {B R i : Nat} {F : Nat → Prop} {T : List Nod} {D : List (Value × List Nod)} {x : Nod} {p : Nat → Addr} (h : TS B R T D F w) (hG : GE w B p) (hT : T.length ≤ 400) (hx : T[i]? = some x) (hk : x.k = 2) (hlen : x.at_.length ≤ 100000000) (nm : ByteArray) (hf : fnd x.at_ nm = -1) :
    Calls Tryz.prog 32 #[.pointer (some ⟨R, 0, none⟩), .int .i64 (i : Int), .string nm] w (ErrB p 3 w) := by
  have HE := Lib.hid (c_element h hT hx hk)
  obtain ⟨L, cap, uv, Z, M, h1, hM, hZF⟩ := h.ns
  obtain ⟨y, hy, rfl⟩ := nv_get hM hx
  have hl : M.length ≤ 400 := by rw [← hM] at hT; simpa using hT
  have hi := (List.getElem?_eq_some_iff.1 hy).1
  have hii : (i : Int) < (M.length : Int) := by omega
  have h0i : 0 ≤ (i : Int) := by omega
  obtain ⟨g0, _⟩ := h1.heads
  have hr := h1.ltR
  have hrL := h1.ltL
  obtain ⟨_, a3, _, _⟩ := h1.cell hy
  have hrd := (h1.rd y (List.mem_of_getElem? hy)).1.toS (fun k hz => (h1.z k hz).2.1)
  have HFD := Lib.hid (c_find (s := nm) hrd (by omega) (Nat.le_refl _))
  rw [hf] at HFD
  have HG := Lib.hid hG
  obtain ⟨va, hva⟩ : ∃ va, va = y.va := ⟨_, rfl⟩
  rw [← hva] at a3 HFD hrd
  obtain ⟨_, A2, c2, rfl, _, _⟩ := hrd
  clear h h1 hM hx hy hk hva hZF hT hlen hG hf
  go_enter Tryz.func32, Tryz.ntmps32
  go_upto_region 5 with (first | (go_at_call 60; refine (HE.out).mono ?_; rintro e w' ⟨rfl, rfl⟩) | ((go_at_call 61; refine (HFD.out).mono ?_; rintro e w2 ⟨rfl, hb2⟩; have HB2 := Lib.hid hb2; clear hb2)))
  have hg2 := HG.out.below (HB2.out.mono HG.out.lt.2)
  have z1 := hg2.name_
  have z2 : 0 < w2.heap.size := by have := hg2.lt; omega
  clear hg2
  go_wp2_with fail
  go_ret
  exact ⟨rfl, HB2.out⟩
set_option maxRecDepth 100000 in
set_option maxHeartbeats 8000000 in
theorem c_Unset {w : World} {B R i k : Nat} {F : Nat → Prop} {T : List Nod} {D : List (Value × List Nod)} {x : Nod} (h : TS B R T D F w) (hD : D.length ≤ 1000000000000) (hT : T.length ≤ 400) (hx : T[i]? = some x) (hk : x.k = 2) (hlen : x.at_.length ≤ 100000000)
    (nm : ByteArray) (hf : fnd x.at_ nm = (k : Int)) (hkl : k < x.at_.length) :
    Calls Tryz.prog 32 #[.pointer (some ⟨R, 0, none⟩), .int .i64 (i : Int), .string nm] w (StRet B R (T.set i (atN x (x.at_.eraseIdx k))) T D F w) := by
  have HE := Lib.hid (c_element h hT hx hk)
  have HTS := Lib.hid h
  have HX := Lib.hid hx
  have HD := Lib.hid hD
  have HT := Lib.hid hT
  obtain ⟨L, cap, uv, Z, M, h1, hM, hZF⟩ := h.ns
  obtain ⟨y, hy, rfl⟩ := nv_get hM hx
  have hl : M.length ≤ 400 := by rw [← hM] at hT; simpa using hT
  have hi := (List.getElem?_eq_some_iff.1 hy).1
  have hii : (i : Int) < (M.length : Int) := by omega
  have h0i : 0 ≤ (i : Int) := by omega
  obtain ⟨g0, _⟩ := h1.heads
  have hr := h1.ltR
  have hrL := h1.ltL
  obtain ⟨_, a3, _, _⟩ := h1.cell hy
  have hrd := (h1.rd y (List.mem_of_getElem? hy)).1.toS (fun k hz => (h1.z k hz).2.1)
  have HFD := Lib.hid (c_find (s := nm) hrd (by omega) (Nat.le_refl _))
  rw [hf] at HFD
  have HRD := Lib.hid hrd
  obtain ⟨va, hva⟩ : ∃ va, va = y.va := ⟨_, rfl⟩
  rw [← hva] at a3 HFD hrd HRD
  obtain ⟨_, A2, c2, rfl, _, _⟩ := hrd
  have HLEN := Lib.hid hlen
  have hBw : B ≤ w.heap.size := Nat.le_trans h1.geo.1 (Nat.le_of_lt hr)
  have HBW := Lib.hid hBw
  obtain ⟨ats, hats⟩ : ∃ ats, ats = y.x.at_ := ⟨_, rfl⟩
  have HATS := Lib.hid hats
  rw [← hats] at HFD HLEN HRD hkl a3
  have hCell : Hid (∀ W', Below w.heap.size w W' → W'.cell? ⟨R, 0, none⟩ = some (.slice (some ⟨L, 0, none⟩) M.length cap) ∧ R < W'.heap.size ∧ L < W'.heap.size ∧ W'.cell? ⟨L, i * 6 + 3, none⟩ = some (.slice A2 ats.length c2)) := fun W' hb => by
    have n1 := h1.below hb
    have := (n1.cell hy).2.1
    rw [← hva, ← hats] at this
    exact ⟨n1.heads.1, n1.ltR, n1.ltL, this⟩
  obtain ⟨m, hm⟩ : ∃ m, ats.length = m + 1 := ⟨ats.length - 1, by omega⟩
  have hkm : k ≤ m := by omega
  have HM := Lib.hid hm
  rw [hm] at a3 hCell HFD HRD HLEN
  have hk0 : ¬ (k : Int) < 0 := by omega
  have hmb : m ≤ 100000000 := by have := HLEN.out; omega
  have hki : (k : Int) ≤ 100000000 := by omega
  clear h h1 hM hx hy hk hva hZF hD hT hlen hBw hf hats hm hkl
  go_enter Tryz.func32, Tryz.ntmps32
  go_upto_region 5 with (first | (go_at_call 60; refine (HE.out).mono ?_; rintro e w' ⟨rfl, rfl⟩) | ((go_at_call 61; refine (HFD.out).mono ?_; rintro e w2 ⟨rfl, hb2⟩; have HB2 := Lib.hid hb2; clear hb2)))
  obtain ⟨d0, d1, d2, d3⟩ := hCell.out w2 HB2.out
  have HCL := Lib.hid (c_CloneA (HRD.out.below HB2.out) (one_atc _) (by omega) HB2.out.size)
  clear g0 hr hrL a3
  go_upto_region 7 with fail
  go_cut [43] (fun v43 wx => Hid (StRet B R (T.set i (atN y.x (y.x.at_.eraseIdx k))) T D F w (.returned .nilIface) wx))
  case first =>
    go_wp2_with (first
      | (go_at_call 46; refine (HCL.out).mono ?_; rintro e w3 ⟨v1, rfl, ho1, hb1⟩; obtain ⟨g1, c1, rfl, hg1, hg1l⟩ := ho1.form (by omega); have HO1 := Lib.hid ho1; have HB3 := Lib.hid (bl_trans HB2.out hb1); have HDL := Lib.hid (c_Delete ho1 hkm (by omega)); clear ho1 hb1)
      | (go_at_call 63; refine (HDL.out).mono ?_; rintro e w4 ⟨rfl, ho4, hk4⟩; have HO4 := Lib.hid ho4; have HGW : Hid (w.heap.size ≤ g1) := Nat.le_trans HB2.out.size hg1; have HB4 : Hid (Below w.heap.size w w4) := (HB3.out.trans (hk4.below (fun j hj => ⟨Nat.lt_of_lt_of_le hj HB3.out.size, fun e => by have := HGW.out; omega⟩))); have HT4 : Hid (TS B R T D F w4) := ((HTS.out.below HB3.out).kept hk4 (fun j e => by rw [e]; exact HTS.out.new_ HGW.out)); have hel : (ats.eraseIdx k).length = m := (by rw [List.length_eraseIdx_of_lt (by rw [HM.out]; omega), HM.out]; omega); have HAT := Lib.hid (c_attrs (l' := ats.eraseIdx k) HT4.out HD.out HT.out HX.out (by rw [hel]; exact own_mono ho4 (Nat.le_trans HBW.out HB2.out.size)) (fun j hj => HTS.out.new_ (by injection hj with hj; have hj2 : g1 = j := hj; rw [← hj2]; exact HGW.out))); clear ho4 hk4 hel)
      | (go_at_call 62; refine (HAT.out).mono ?_; rintro e w6 hst; have HST := Lib.hid (hst.st HB4.out (fun j hj => by injection hj with hj; have hj2 : g1 = j := hj; rw [← hj2]; exact HGW.out)); clear hst; obtain ⟨⟨u, rfl⟩, _⟩ := HST.out))
    go_meet
    refine ⟨rfl, ?_⟩
    rw [← HATS.out]
    exact HST.out.2
  case rest =>
    have hst := hcut
    clear hcut
    go_wp2_with fail
    go_ret
    exact hst.out
end Go.Proofs.YtimlmekgapdkiaaGreatDoor
