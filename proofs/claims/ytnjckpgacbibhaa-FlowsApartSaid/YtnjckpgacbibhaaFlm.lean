/- floats never overlap: the plain law, and the program's room alone -/
import Derived.Test.YtnjckpgacbibhaaFli
namespace Go.Proofs.Ytnjckpgacbibhaa
set_option linter.unusedVariables false
set_option linter.unusedSimpArgs false
open Go.RowKit Go.Cas

def ApF (a b : Flo) : Prop := a.x + a.w ≤ b.x ∨ b.x + b.w ≤ a.x ∨ a.y + a.h ≤ b.y ∨ b.y + b.h ≤ a.y
def OkF (wd : Int) (f : Flo) (p : PutC) : Prop := 0 ≤ f.x ∧ f.x + f.w ≤ wd ∧ p.fr ≤ f.y ∧ f.w = p.w ∧ f.h = p.h
structure Apt (wd : Int) (L : List Flo) (P : List PutC) : Prop where
  ok : ∀ (i : Nat) f p, L[i]? = some f → P[i]? = some p → OkF wd f p
  ap : ∀ (i k : Nat) f g, k < i → L[i]? = some f → L[k]? = some g → ApF f g ∧ g.y ≤ f.y
theorem Apt.nil (wd : Int) (P : List PutC) : Apt wd [] P := ⟨by simp, by simp⟩
theorem Apt.snoc {wd : Int} {L : List Flo} {P : List PutC} (a : Apt wd L P) {rt : Bool} {x y w h fr : Int} {p : PutC} (hp : P[L.length]? = some p) (hw : 0 ≤ w) (hww : w ≤ wd) (hh : 0 ≤ h) (hf : IsFit L 0 wd w h (frF L fr) y) (hx : x = xF L 0 wd w h y rt) (hpf : p.fr ≤ fr) (hpw : w = p.w) (hph : h = p.h) : Apt wd (L ++ [⟨rt, x, y, w, h⟩]) P := by
  have hfit := hf.fit
  rw [fitB_iff] at hfit
  have hl := edL_ge y h L 0
  have hr := edR_le y h L wd
  have hfr := frF_ge L fr
  have hge := hf.ge
  have hx0 : 0 ≤ x ∧ x + w ≤ wd := by
    rw [hx]; unfold xF
    rcases hfit with hs | hs
    · rw [edL_none hs, edR_none hs]; split <;> omega
    · split <;> omega
  have hap : ∀ g ∈ L, ApF ⟨rt, x, y, w, h⟩ g := by
    intro g hg
    unfold ApF
    show x + w ≤ g.x ∨ g.x + g.w ≤ x ∨ y + h ≤ g.y ∨ g.y + g.h ≤ y
    rcases hh' : hitF g y h
    · have : ¬ (g.y < y + max h 1 ∧ y < g.y + max g.h 1) := fun e => by rw [(hitF_iff g y h).2 e] at hh'; cases hh'
      by_cases h1 : g.y < y + max h 1
      · have h2 : ¬ y < g.y + max g.h 1 := fun e => this ⟨h1, e⟩
        omega
      · omega
    · have hs : w ≤ edR y h L wd - edL y h L 0 := by
        rcases hfit with hs | hs
        · rw [edS_mem hg hs] at hh'; cases hh'
        · exact hs
      rcases hgr : g.r
      · have := edL_mem (y := y) (h := h) 0 hg hh' hgr
        rw [hx]; unfold xF
        split <;> omega
      · have := edR_mem (y := y) (h := h) wd hg hh' hgr
        rw [hx]; unfold xF
        split <;> omega
  constructor
  · intro i f q hi hq
    rcases Nat.lt_or_ge i L.length with hlt | hge2
    · rw [List.getElem?_append_left hlt] at hi; exact a.ok i f q hi hq
    · have hi' := (List.getElem?_eq_some_iff.1 hi).1
      simp at hi'
      obtain rfl : i = L.length := by omega
      rw [List.getElem?_append_right (Nat.le_refl _)] at hi
      simp at hi
      subst hi
      rw [hp] at hq; injection hq with hq; subst hq
      refine ⟨hx0.1, hx0.2, ?_, hpw, hph⟩
      show p.fr ≤ y
      omega
  · intro i k f g hk hi hg
    rcases Nat.lt_or_ge i L.length with hlt | hge2
    · rw [List.getElem?_append_left hlt] at hi
      rw [List.getElem?_append_left (by omega)] at hg
      exact a.ap i k f g hk hi hg
    · have hi' := (List.getElem?_eq_some_iff.1 hi).1
      simp at hi'
      obtain rfl : i = L.length := by omega
      rw [List.getElem?_append_right (Nat.le_refl _)] at hi
      simp at hi
      subst hi
      rw [List.getElem?_append_left hk] at hg
      have hm := List.mem_of_getElem? hg
      refine ⟨hap g hm, ?_⟩
      have := hfr.2 g hm
      show g.y ≤ y
      omega

/-- The program's room alone: B the list's cell, B + 1 the room. -/
structure GSt (w wr : World) (W : Int) (v : Value) (L : List Flo) (n : Nat) : Prop where
  hf : Bk wr (w.heap.size + 1) 115 #[.int .i64 0, .int .i64 W, .pointer (some ⟨w.heap.size, 0, none⟩)]
  hl : Bk wr w.heap.size 74 #[v]
  ov : wr.ownsRow (w.heap.size + 2) 77 5 v n (fcs L)
  bel : Below w.heap.size w wr
  sz : w.heap.size + 2 ≤ wr.heap.size
  good : GoodF L
  len : L.length = n
  nil : n = 0 → v = .slice none 0 0
section
variable {w wr w' : World} {W : Int} {v : Value} {L : List Flo} {n : Nat}
theorem GSt.below (S : GSt w wr W v L n) (hb : Below wr.heap.size wr w') : GSt w w' W v L n :=
  { S with
    hf := S.hf.below hb S.hf.lt
    hl := S.hl.below hb S.hl.lt
    ov := (Kept.of_below hb (fun _ => False)).own S.ov (fun _ _ h => h)
    bel := bl_trans S.bel hb
    sz := Nat.le_trans S.sz hb.size }
theorem GSt.drew (S : GSt w wr W v L n) : GSt w wr.drew W v L n := S.below (bl_drew (Below.refl _ _))
theorem GSt.vne (S : GSt w wr W v L n) {k : Nat} (hk : k < w.heap.size + 2) : v.ownBlock ≠ some k := fun e => by have := (own_lt S.ov e).1; omega
theorem g_Add (S : GSt w wr W v L n) (hW : 0 ≤ W ∧ W ≤ 16777216) (hn : n < 200) (rt : Bool) (wd h fr : Int) :
    Calls Try.prog 42 #[.pointer (some ⟨w.heap.size + 1, 0, none⟩), .bool rt, .int .i64 wd, .int .i64 h, .int .i64 fr] wr fun e w' => ∃ x y v', e = .returned (.tuple #[.int .i64 x, .int .i64 y]) ∧ Hid (IsFit L 0 W (zH wd) (zH h) (frF L (hld fr)) y ∧ x = xF L 0 W (zH wd) (zH h) y rt) ∧ GSt w w' W v' (L ++ [⟨rt, x, y, zH wd, zH h⟩]) (n + 1) := by
  refine (c_Add (w.heap.size + 1) w.heap.size (w.heap.size + 2) n v L 0 W wd h fr rt wr S.hf S.hl S.ov S.sz (by omega) (S.vne (by omega)) (S.vne (by omega)) (fun f hf => goodF_fb2 S.good f hf) hn (by omega) (by omega)).mono ?_
  rintro e w2 ⟨x, y, v', rfl, h1, h2, h3, h4, h5, h6⟩
  refine ⟨x, y, v', rfl, ⟨h1, h2⟩, ?_⟩
  have hlen := S.len
  exact
    { hf := h6.bk S.hf (fun he => by rcases he with he | he; · omega
                                     · exact S.vne (by omega) he)
      hl := h3
      ov := h4
      bel := S.bel.trans (h6.below (fun k hk => ⟨by have := S.sz; omega, fun he => by rcases he with he | he; · omega
                                                                                      · exact S.vne (by omega) he⟩))
      sz := Nat.le_trans S.sz h6.size
      good := by
        rw [h2]
        have z1 := zH_bd wd; have z2 := zH_bd h; have z3 := hld_bd fr
        exact S.good.snoc (by omega) rt (by omega) (by omega) (by omega) (by omega) z1.1 z1.2 z2.1 z2.2 z3.1 z3.2 h1
      len := by simp [hlen]
      nil := fun h => by omega }
theorem GSt.n200 (S : GSt w wr W v L n) : n ≤ 200 := by rw [← S.len]; exact S.good.len
theorem g_All (S : GSt w wr W v L n) :
    Calls Try.prog 43 #[.pointer (some ⟨w.heap.size + 1, 0, none⟩)] wr fun e w' => ∃ a, e = .returned a ∧ RdS w' w'.heap.size 5 a n (fcs L) ∧ Below wr.heap.size wr w' :=
  c_All (w.heap.size + 1) w.heap.size n v L 0 W wr S.hf S.hl (RdS.of_own S.ov) S.nil (by have := S.n200; omega)
end
abbrev agR (x y w h : Int) : Value := .agg #[.int .i64 x, .int .i64 y, .int .i64 w, .int .i64 h]
set_option maxHeartbeats 2000000 in
theorem c_apart (a b : Flo) (W : World) (ha : FB a) (hb : FB b) (h : ApF a b) : Calls Try.prog 44 #[agR a.x a.y a.w a.h, agR b.x b.y b.w b.h] W fun e w' => e = .returned (.bool true) ∧ Below W.heap.size W w' := by
  obtain ⟨ra, xa, ya, wa, qa⟩ := a
  obtain ⟨rb, xb, yb, wb, qb⟩ := b
  obtain ⟨a1, a2, a3, a4, a5, a6, a7, a8⟩ := ha
  obtain ⟨b1, b2, b3, b4, b5, b6, b7, b8⟩ := hb
  unfold ApF at h
  simp only at *
  by_cases h1 : xa + wa ≤ xb
  · clear h
    go_enter Try.func44, Try.ntmps44
    go_wp2_with fail
    go_ret
    exact ⟨rfl, by repeat (first | with_reducible refine bl_drewN ?_ _ | with_reducible refine bl_alloc ?_ _ | exact Below.refl _ _)⟩
  · by_cases h2 : xb + wb ≤ xa
    · clear h
      go_enter Try.func44, Try.ntmps44
      go_wp2_with fail
      go_ret
      exact ⟨rfl, by repeat (first | with_reducible refine bl_drewN ?_ _ | with_reducible refine bl_alloc ?_ _ | exact Below.refl _ _)⟩
    · by_cases h3 : ya + qa ≤ yb
      · clear h
        go_enter Try.func44, Try.ntmps44
        go_wp2_with fail
        go_ret
        exact ⟨rfl, by repeat (first | with_reducible refine bl_drewN ?_ _ | with_reducible refine bl_alloc ?_ _ | exact Below.refl _ _)⟩
      · have h4 : yb + qb ≤ ya := by omega
        clear h
        go_enter Try.func44, Try.ntmps44
        go_wp2_with fail
        go_ret
        exact ⟨rfl, by repeat (first | with_reducible refine bl_drewN ?_ _ | with_reducible refine bl_alloc ?_ _ | exact Below.refl _ _)⟩
end Go.Proofs.Ytnjckpgacbibhaa
