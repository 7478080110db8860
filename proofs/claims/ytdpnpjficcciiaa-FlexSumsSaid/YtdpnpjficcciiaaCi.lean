/- FlexSums: what the law's numbers are -/
import Derived.Test.YtdpnpjficcciiaaCg
namespace Go.Proofs.Ytdpnpjficcciiaa
set_option linter.unusedVariables false
set_option linter.unusedSimpArgs false
open Go.RowKit Go.Cas
def mkI2 (x : FI) : FI := ⟨x.b, 0, -1, x.ar, x.g, x.s⟩
def OkI2 (x : FI) : Prop := 0 ≤ x.b ∧ x.b ≤ 100000 ∧ 0 ≤ x.ar ∧ x.ar ≤ 100000 ∧ 1000 ≤ x.g ∧ x.g ≤ 1000000000
theorem mkI2_wide {x : FI} (h : OkI2 x) : Wide (hdI (mkI2 x)) ∧ (hdI (mkI2 x)).b = x.b ∧ (hdI (mkI2 x)).ar = x.ar := by
  obtain ⟨h1, h2, h3, h4, h5, h6⟩ := h
  refine ⟨⟨hdI_fb _, ?_, ?_, ?_⟩, ?_, ?_⟩ <;> simp only [hdI, mkI2, hld, fac] <;> omega
/-- all that the law asks of a row that is not full -/
theorem fs_plain {I : List FI} {n : Nat} (hl : I.length = n) (hn : 0 < n) (hn60 : n ≤ 60) {room gap : Int} (hr : 0 ≤ room ∧ room ≤ 16777216) (hg : 0 ≤ gap ∧ gap ≤ 1000) (hok : ∀ i, i < n → OkI2 (itA I i)) {L : List FI} (hL : L = ((I.map mkI2).take 200).map hdI) :
    wantS L (hld gap) n n = gap * ((n : Int) - 1) + sumTo (fun i => (itA I i).b + (itA I i).ar) n ∧
    ∀ r, gap * ((n : Int) - 1) + sumTo (fun i => (itA I i).b + (itA I i).ar) n < room → ShRun L true n (roomS L (hld room) (hld gap) n n) (freeF L (iniZ true L n n) (iniT true L n n) (roomS L (hld room) (hld gap) n n) n) (iniZ true L n n) (iniT true L n n) r →
      (∀ i, i < n → (itA I i).b ≤ szA r i) ∧ gap * ((n : Int) - 1) + sumTo (fun i => szA r i + (itA I i).ar) n = room := by
  have hL2 : L = I.map (fun x => hdI (mkI2 x)) := by rw [hL, List.take_of_length_le (by simp; omega), List.map_map]; rfl
  have hLl : L.length = n := by rw [hL2, List.length_map, hl]
  have hit : ∀ i, i < n → itA L i = hdI (mkI2 (itA I i)) := fun i hi => by
    have e : I[i]? = some (itA I i) := by rw [List.getElem?_eq_getElem (by omega), itA_eq (List.getElem?_eq_getElem (by omega))]
    exact itA_eq (by rw [hL2, List.getElem?_map, e]; rfl)
  have hwd : ∀ x ∈ L, Wide x := fun x hx => by
    rw [hL2] at hx
    obtain ⟨y, hy, rfl⟩ := List.mem_map.1 hx
    obtain ⟨i, hi⟩ := List.getElem?_of_mem hy
    have hil := (List.getElem?_eq_some_iff.1 hi).1
    have := mkI2_wide (hok i (by omega))
    rw [itA_eq hi] at this
    exact this.1
  have hgap : hld gap = gap := by unfold hld; omega
  have hroom : hld room = room := by unfold hld; omega
  have hmx : max 0 ((n : Int) - 1) = (n : Int) - 1 := by omega
  have hb : ∀ i, i < n → (itA L i).b = (itA I i).b ∧ (itA L i).ar = (itA I i).ar ∧ wantI (itA L i) = (itA I i).b + (itA I i).ar := fun i hi => by
    have h := mkI2_wide (hok i hi)
    have hw := h.1
    rw [← hit i hi] at h hw
    refine ⟨h.2.1, h.2.2, ?_⟩
    unfold wantI bnd
    rw [if_neg (by have := hw.mx; omega), hw.mn, h.2.1, h.2.2]
    have := (hok i hi).1
    omega
  have hW : wantS L (hld gap) n n = gap * ((n : Int) - 1) + sumTo (fun i => (itA I i).b + (itA I i).ar) n := by
    unfold wantS
    rw [hgap, hmx, sumTo_congr (fun i hi => (hb i hi).2.2)]
  refine ⟨hW, fun r hlt hrun => ?_⟩
  have hv : ∀ i, i < n → valI L (iniZ true L n n) (iniT true L n n) i = (itA I i).b := fun i hi => by
    have hst : stA (iniT true L n n) i = false := by
      refine stA_eq ?_
      rw [List.getElem?_eq_getElem (by rw [iniT_len]; exact hi)]
      have hbf : iniB true (itA L i) = false := by
        unfold iniB
        refine decide_eq_false (fun hh => ?_)
        have hw : Wide (itA L i) := by rw [itA_eq (List.getElem?_eq_getElem (by omega))]; exact hwd _ (List.getElem_mem (by omega))
        have hbd : bnd (itA L i) (itA L i).b = (itA L i).b := by unfold bnd; rw [if_neg (by have := hw.mx; omega), hw.mn]; have := hw.fb.b; omega
        rw [hbd] at hh
        rcases hh with hh | hh | hh
        · have := hw.g; unfold fcI at hh; simp at hh; omega
        · omega
        · cases hh.1
      simp [iniT, hbf]
    unfold valI
    rw [hst]
    simpa using (hb i hi).1
  have hfree : freeF L (iniZ true L n n) (iniT true L n n) (roomS L (hld room) (hld gap) n n) n = room - (gap * ((n : Int) - 1) + sumTo (fun i => (itA I i).b + (itA I i).ar) n) := by
    unfold freeF roomS
    rw [hgap, hroom, hmx, sumTo_congr hv, sumTo_congr (fun i hi => (hb i hi).2.1), sumTo_add]
    omega
  obtain ⟨s1, s2⟩ := sums hLl hwd hn rfl (by rw [hfree]; omega) hrun
  refine ⟨fun i hi => by have := s1 i hi; rw [(hb i hi).1] at this; exact this, ?_⟩
  rw [hfree, sumTo_congr (fun i hi => (hb i hi).1), sumTo_add] at s2
  rw [sumTo_add]
  have : sumTo (fun i => szA r i) n = sumTo (szA r) n := rfl
  omega
end Go.Proofs.Ytdpnpjficcciiaa
