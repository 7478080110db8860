/- floats: the two rooms side by side -/
import Derived.Test.YtnjckpgacbibhaaFlh
import Derived.Test.Ytnjckpgacbibhaaopen2
namespace Go.Proofs.Ytnjckpgacbibhaa
set_option linter.unusedVariables false
set_option linter.unusedSimpArgs false
open Go.RowKit Go.Cas

/-- The program's room and the reference's, behind the call's own blocks B (the list's cell), B + 1 (the room), B + 2 (the reference's). -/
structure FSt (w wr : World) (W : Int) (v u : Value) (L M : List Flo) (n m : Nat) (lo hi : Int) : Prop where
  hf : Bk wr (w.heap.size + 1) 115 #[.int .i64 0, .int .i64 W, .pointer (some ⟨w.heap.size, 0, none⟩)]
  hl : Bk wr w.heap.size 74 #[v]
  hr : Bk wr (w.heap.size + 2) 83 #[.int .i64 lo, .int .i64 hi, u]
  ov : wr.ownsRow (w.heap.size + 3) 77 5 v n (fcs L)
  ou : wr.ownsRow (w.heap.size + 3) 88 5 u m (fcs M)
  sep : Sep v u
  bel : Below w.heap.size w wr
  sz : w.heap.size + 3 ≤ wr.heap.size
  good : GoodF L
  goodR : GoodF M
  len : L.length = n
  lenR : M.length = m
  nil : n = 0 → v = .slice none 0 0
theorem goodF_fb2 {L : List Flo} (g : GoodF L) (f : Flo) (h : f ∈ L) : FB2 f := by
  have := g.each f h
  have := g.len
  unfold FB2 FB; omega
section
variable {w wr w' : World} {W lo hi : Int} {v u : Value} {L M : List Flo} {n m : Nat}
theorem FSt.below (S : FSt w wr W v u L M n m lo hi) (hb : Below wr.heap.size wr w') : FSt w w' W v u L M n m lo hi :=
  { S with
    hf := S.hf.below hb S.hf.lt
    hl := S.hl.below hb S.hl.lt
    hr := S.hr.below hb S.hr.lt
    ov := (Kept.of_below hb (fun _ => False)).own S.ov (fun _ _ h => h)
    ou := (Kept.of_below hb (fun _ => False)).own S.ou (fun _ _ h => h)
    bel := bl_trans S.bel hb
    sz := Nat.le_trans S.sz hb.size }
theorem FSt.vne (S : FSt w wr W v u L M n m lo hi) {k : Nat} (hk : k < w.heap.size + 3) : v.ownBlock ≠ some k := fun e => by have := (own_lt S.ov e).1; omega
theorem FSt.une (S : FSt w wr W v u L M n m lo hi) {k : Nat} (hk : k < w.heap.size + 3) : u.ownBlock ≠ some k := fun e => by have := (own_lt S.ou e).1; omega
theorem FSt.setR (S : FSt w wr W v u L M n m lo hi) (o : Nat) (x : Value) {lo' hi' : Int} (hx : #[Value.int .i64 lo, .int .i64 hi, u].setIfInBounds o x = #[.int .i64 lo', .int .i64 hi', u]) : FSt w (wr.setCell ⟨w.heap.size + 2, o, none⟩ x) W v u L M n m lo' hi' :=
  { S with
    hf := S.hf.far (by simp) _
    hl := S.hl.far (by simp) _
    hr := by have := S.hr.set_ o x; rw [hx] at this; exact this
    ov := (Kept.set_ (ex := fun k => k = w.heap.size + 2) (Kept.refl _ _) _ o (fun _ => rfl) x).own S.ov (fun k hk he => S.vne (k := k) (by omega) hk)
    ou := (Kept.set_ (ex := fun k => k = w.heap.size + 2) (Kept.refl _ _) _ o (fun _ => rfl) x).own S.ou (fun k hk he => S.une (k := k) (by omega) hk)
    bel := bl_set S.bel _ _ (by omega) _
    sz := by have := S.sz; simpa [World.setCell] using this }
theorem FSt.setLow (S : FSt w wr W v u L M n m lo hi) (a : Int) : FSt w (wr.setCell ⟨w.heap.size + 2, 0, none⟩ (.int .i64 a)) W v u L M n m a hi := S.setR 0 _ (by simp)
theorem FSt.setHigh (S : FSt w wr W v u L M n m lo hi) (a : Int) : FSt w (wr.setCell ⟨w.heap.size + 2, 1, none⟩ (.int .i64 a)) W v u L M n m lo a := S.setR 1 _ (by simp)
theorem FSt.alloc (S : FSt w wr W v u L M n m lo hi) (o : Obj) : FSt w (wr.alloc o) W v u L M n m lo hi := S.below (bl_alloc (Below.refl _ _) o)
theorem FSt.drewN (S : FSt w wr W v u L M n m lo hi) (k : Nat) : FSt w (wr.drewN k) W v u L M n m lo hi := S.below (bl_drewN (Below.refl _ _) k)
theorem FSt.drew (S : FSt w wr W v u L M n m lo hi) : FSt w wr.drew W v u L M n m lo hi := S.below (bl_drew (Below.refl _ _))
/-- what a walk wants to know of the memory -/
theorem FSt.facts (S : FSt w wr W v u L M n m lo hi) : (∀ i, wr.cell? ⟨w.heap.size + 2, i, none⟩ = #[Value.int .i64 lo, .int .i64 hi, u][i]?) ∧ (∀ i, wr.frozen? ⟨w.heap.size + 2, i, none⟩ = false) ∧ w.heap.size + 3 ≤ wr.heap.size := ⟨S.hr.cell, S.hr.free, S.sz⟩

theorem s_Add (S : FSt w wr W v u L M n m lo hi) {gp : Nat} {lo' hi' : Int} (kg : Bk wr gp 115 #[.int .i64 lo', .int .i64 hi', .pointer (some ⟨w.heap.size, 0, none⟩)]) (hgv : v.ownBlock ≠ some gp) (hgl : gp ≠ w.heap.size) (hlo : -16777216 ≤ lo' ∧ lo' ≤ 16777216) (hhi : -16777216 ≤ hi' ∧ hi' ≤ 16777216) (hn : n < 200) (rt : Bool) (wd h fr : Int) :
    Calls Try.prog 42 #[.pointer (some ⟨gp, 0, none⟩), .bool rt, .int .i64 wd, .int .i64 h, .int .i64 fr] wr fun e w' => ∃ x y v', e = .returned (.tuple #[.int .i64 x, .int .i64 y]) ∧ Hid (IsFit L lo' hi' (zH wd) (zH h) (frF L (hld fr)) y) ∧ Hid (x = xF L lo' hi' (zH wd) (zH h) y rt) ∧ FSt w w' W v' u (L ++ [⟨rt, x, y, zH wd, zH h⟩]) M (n + 1) m lo hi := by
  refine (c_Add gp w.heap.size (w.heap.size + 3) n v L lo' hi' wd h fr rt wr kg S.hl S.ov S.sz hgl hgv (S.vne (by omega)) (fun f hf => goodF_fb2 S.good f hf) hn hlo hhi).mono ?_
  rintro e w2 ⟨x, y, v', rfl, h1, h2, h3, h4, h5, h6⟩
  refine ⟨x, y, v', rfl, h1, h2, ?_⟩
  have hlen := S.len
  exact
    { hf := h6.bk S.hf (fun he => by rcases he with he | he; · omega
                                     · exact S.vne (by omega) he)
      hl := h3
      hr := h6.bk S.hr (fun he => by rcases he with he | he; · omega
                                     · exact S.vne (by omega) he)
      ov := h4
      ou := h6.own S.ou (fun k hk he => by
        rcases he with he | he
        · exact S.une (k := k) (by omega) hk
        · exact S.sep k he hk)
      sep := fun k hk hu => by
        have hb := (own_lt S.ou hu).2
        rcases h5 with h5 | ⟨j, hj, h5⟩
        · exact S.sep k (h5 ▸ hk) hu
        · rw [h5] at hk; injection hk with hk; omega
      bel := S.bel.trans (h6.below (fun k hk => ⟨by have := S.sz; omega, fun he => by rcases he with he | he; · omega
                                                                                      · exact S.vne (by omega) he⟩))
      sz := Nat.le_trans S.sz h6.size
      good := by
        rw [h2]
        have z1 := zH_bd wd; have z2 := zH_bd h; have z3 := hld_bd fr
        exact S.good.snoc (by omega) rt hlo.1 hlo.2 hhi.1 hhi.2 z1.1 z1.2 z2.1 z2.2 z3.1 z3.2 h1
      goodR := S.goodR
      len := by simp [hlen]
      lenR := S.lenR
      nil := fun h => by omega }
theorem s_AddR (S : FSt w wr W v u L M n m lo hi) (hlo : -16777216 ≤ lo ∧ lo ≤ 16777216) (hhi : -16777216 ≤ hi ∧ hi ≤ 16777216) (hm : m < 200) (rt : Bool) (wd h fr : Int) :
    Calls Try.prog 48 #[.pointer (some ⟨w.heap.size + 2, 0, none⟩), .bool rt, .int .i64 wd, .int .i64 h, .int .i64 fr] wr fun e w' => ∃ x y u', e = .returned (.tuple #[.int .i64 x, .int .i64 y]) ∧ Hid (IsFit M lo hi (zH wd) (zH h) (frF M (hld fr)) y) ∧ Hid (x = xF M lo hi (zH wd) (zH h) y rt) ∧ FSt w w' W v u' L (M ++ [⟨rt, x, y, zH wd, zH h⟩]) n (m + 1) lo hi := by
  refine (c_AddR (w.heap.size + 2) (w.heap.size + 3) m u M lo hi wd h fr rt wr S.hr S.ou S.sz (S.une (by omega)) (fun f hf => goodF_fb2 S.goodR f hf) hm hlo hhi).mono ?_
  rintro e w2 ⟨x, y, v', rfl, h1, h2, h3, h4, h5, h6⟩
  refine ⟨x, y, v', rfl, h1, h2, ?_⟩
  have hlen := S.lenR
  exact
    { hf := h6.bk S.hf (fun he => by rcases he with he | he; · omega
                                     · exact S.une (by omega) he)
      hl := h6.bk S.hl (fun he => by rcases he with he | he; · omega
                                     · exact S.une (by omega) he)
      hr := h3
      ov := h6.own S.ov (fun k hk he => by
        rcases he with he | he
        · exact S.vne (k := k) (by omega) hk
        · exact S.sep k hk he)
      ou := h4
      sep := fun k hk hu => by
        have hb := (own_lt S.ov hk).2
        rcases h5 with h5 | ⟨j, hj, h5⟩
        · exact S.sep k hk (h5 ▸ hu)
        · rw [h5] at hu; injection hu with hu; omega
      bel := S.bel.trans (h6.below (fun k hk => ⟨by have := S.sz; omega, fun he => by rcases he with he | he; · omega
                                                                                      · exact S.une (by omega) he⟩))
      sz := Nat.le_trans S.sz h6.size
      good := S.good
      goodR := by
        rw [h2]
        have z1 := zH_bd wd; have z2 := zH_bd h; have z3 := hld_bd fr
        exact S.goodR.snoc (by omega) rt hlo.1 hlo.2 hhi.1 hhi.2 z1.1 z1.2 z2.1 z2.2 z3.1 z3.2 h1
      len := S.len
      lenR := by simp [hlen]
      nil := S.nil }
theorem s_AddFull (S : FSt w wr W v u L M 200 m lo hi) {gp : Nat} {lo' hi' : Int} (kg : Bk wr gp 115 #[.int .i64 lo', .int .i64 hi', .pointer (some ⟨w.heap.size, 0, none⟩)]) (rt : Bool) (wd h fr : Int) :
    Calls Try.prog 42 #[.pointer (some ⟨gp, 0, none⟩), .bool rt, .int .i64 wd, .int .i64 h, .int .i64 fr] wr fun e w' => e = .returned (.tuple #[.int .i64 0, .int .i64 0]) ∧ wr = w' := by
  obtain ⟨_, A, c, rfl, _⟩ := RdS.of_own S.ov
  exact c_AddFull gp w.heap.size A c lo' hi' wd h fr rt wr kg S.hl
theorem s_AddRFull (S : FSt w wr W v u L M n 200 lo hi) (rt : Bool) (wd h fr : Int) :
    Calls Try.prog 48 #[.pointer (some ⟨w.heap.size + 2, 0, none⟩), .bool rt, .int .i64 wd, .int .i64 h, .int .i64 fr] wr fun e w' => e = .returned (.tuple #[.int .i64 0, .int .i64 0]) ∧ wr = w' := by
  obtain ⟨_, A, c, rfl, _⟩ := RdS.of_own S.ou
  exact c_AddRFull (w.heap.size + 2) A c lo hi wd h fr rt wr S.hr
theorem FSt.n200 (S : FSt w wr W v u L M n m lo hi) : n ≤ 200 := by rw [← S.len]; exact S.good.len
theorem FSt.m200 (S : FSt w wr W v u L M n m lo hi) : m ≤ 200 := by rw [← S.lenR]; exact S.goodR.len
theorem s_Edges (S : FSt w wr W v u L M n m lo hi) {gp : Nat} {lo' hi' : Int} (kg : Bk wr gp 115 #[.int .i64 lo', .int .i64 hi', .pointer (some ⟨w.heap.size, 0, none⟩)]) (y h : Int) :
    Calls Try.prog 45 #[.pointer (some ⟨gp, 0, none⟩), .int .i64 y, .int .i64 h] wr fun e w' => e = .returned (.tuple #[.int .i64 (edL (hld y) (hld h) L lo'), .int .i64 (edR (hld y) (hld h) L hi')]) ∧ Below wr.heap.size wr w' :=
  c_EdgesX gp w.heap.size _ n v L lo' hi' y h wr kg S.hl (RdS.of_own S.ov) (Nat.le_refl _) (fun f hf => goodF_fb S.good f hf) (by have := S.n200; omega)
theorem s_EdgesR (S : FSt w wr W v u L M n m lo hi) (y h : Int) :
    Calls Try.prog 47 #[.pointer (some ⟨w.heap.size + 2, 0, none⟩), .int .i64 (hld y), .int .i64 (hld h)] wr fun e w' => ∃ s, e = .returned (.tuple #[.int .i64 (edL (hld y) (hld h) M lo), .int .i64 (edR (hld y) (hld h) M hi), .bool s]) ∧ Below wr.heap.size wr w' :=
  (c_EdgesR (w.heap.size + 2) _ m u M lo hi (hld y) (hld h) wr S.hr (RdS.of_own S.ou) (Nat.le_refl _) (fun f hf => goodF_fb S.goodR f hf) (by have := S.m200; omega) (by have := hld_bd y; omega) (hld_bd h)).mono fun _ _ ⟨h1, h2⟩ => ⟨_, h1, h2⟩
theorem s_ClearF (S : FSt w wr W v u L M n m lo hi) (a b : Bool) :
    Calls Try.prog 49 #[.pointer (some ⟨w.heap.size + 1, 0, none⟩), .bool a, .bool b] wr fun e w' => e = .returned (.int .i64 (clE a b L 0 false)) ∧ Below wr.heap.size wr w' :=
  c_ClearF (w.heap.size + 1) w.heap.size _ n v L 0 W a b wr S.hf S.hl (RdS.of_own S.ov) (Nat.le_refl _) (fun f hf => goodF_fb S.good f hf) (by have := S.n200; omega)
theorem s_ClearR (S : FSt w wr W v u L M n m lo hi) (a b : Bool) :
    Calls Try.prog 50 #[.pointer (some ⟨w.heap.size + 2, 0, none⟩), .bool a, .bool b] wr fun e w' => e = .returned (.int .i64 (clE a b M 0 false)) ∧ Below wr.heap.size wr w' :=
  c_ClearR (w.heap.size + 2) _ m u M lo hi a b wr S.hr (RdS.of_own S.ou) (Nat.le_refl _) (fun f hf => goodF_fb S.goodR f hf) (by have := S.m200; omega)
theorem s_All (S : FSt w wr W v u L M n m lo hi) :
    Calls Try.prog 43 #[.pointer (some ⟨w.heap.size + 1, 0, none⟩)] wr fun e w' => ∃ a, e = .returned a ∧ RdS w' w'.heap.size 5 a n (fcs L) ∧ Below wr.heap.size wr w' :=
  c_All (w.heap.size + 1) w.heap.size n v L 0 W wr S.hf S.hl (RdS.of_own S.ov) S.nil (by have := S.n200; omega)
end

/-- what one more float does -/
def AddSpec (L : List Flo) (n : Nat) (lo hi wd h fr : Int) (rt : Bool) (x y : Int) (L' : List Flo) (n' : Nat) : Prop :=
  (n < 200 ∧ IsFit L lo hi (zH wd) (zH h) (frF L (hld fr)) y ∧ x = xF L lo hi (zH wd) (zH h) y rt ∧ L' = L ++ [⟨rt, x, y, zH wd, zH h⟩] ∧ n' = n + 1) ∨ (n = 200 ∧ x = 0 ∧ y = 0 ∧ L' = L ∧ n' = n)
theorem AddSpec.uniq {L : List Flo} {n : Nat} {lo hi wd h fr : Int} {rt : Bool} {x y x2 y2 : Int} {L1 L2 : List Flo} {n1 n2 : Nat} (a : AddSpec L n lo hi wd h fr rt x y L1 n1) (b : AddSpec L n lo hi wd h fr rt x2 y2 L2 n2) : x2 = x ∧ y2 = y ∧ L2 = L1 ∧ n2 = n1 := by
  rcases a with ⟨h1, h2, h3, h4, h5⟩ | ⟨h1, h2, h3, h4, h5⟩
  · rcases b with ⟨g1, g2, g3, g4, g5⟩ | ⟨g1, g2, g3, g4, g5⟩
    · have e := h2.uniq g2
      subst e
      have e2 : x2 = x := by rw [g3, h3]
      subst e2
      exact ⟨rfl, rfl, by rw [g4, h4], by rw [g5, h5]⟩
    · omega
  · rcases b with ⟨g1, g2, g3, g4, g5⟩ | ⟨g1, g2, g3, g4, g5⟩
    · omega
    · exact ⟨by rw [g2, h2], by rw [g3, h3], by rw [g4, h4], by rw [g5, h5]⟩
section
variable {w wr w' : World} {W lo hi : Int} {v u : Value} {L M : List Flo} {n m : Nat}
theorem s_AddAny (S : FSt w wr W v u L M n m lo hi) {gp : Nat} {lo' hi' : Int} (kg : Bk wr gp 115 #[.int .i64 lo', .int .i64 hi', .pointer (some ⟨w.heap.size, 0, none⟩)]) (hgv : v.ownBlock ≠ some gp) (hgl : gp ≠ w.heap.size) (hlo : -16777216 ≤ lo' ∧ lo' ≤ 16777216) (hhi : -16777216 ≤ hi' ∧ hi' ≤ 16777216) (rt : Bool) (wd h fr : Int) :
    Calls Try.prog 42 #[.pointer (some ⟨gp, 0, none⟩), .bool rt, .int .i64 wd, .int .i64 h, .int .i64 fr] wr fun e w' => ∃ x y v' L' n', e = .returned (.tuple #[.int .i64 x, .int .i64 y]) ∧ Hid (AddSpec L n lo' hi' wd h fr rt x y L' n') ∧ FSt w w' W v' u L' M n' m lo hi := by
  by_cases hn : n < 200
  · refine (s_Add S kg hgv hgl hlo hhi hn rt wd h fr).mono ?_
    rintro e w' ⟨x, y, v', rfl, h1, h2, h3⟩
    exact ⟨x, y, v', _, _, rfl, .inl ⟨hn, h1.out, h2.out, rfl, rfl⟩, h3⟩
  · obtain rfl : n = 200 := by have := S.n200; omega
    refine (s_AddFull S kg rt wd h fr).mono ?_
    rintro e w' ⟨rfl, rfl⟩
    exact ⟨0, 0, v, L, 200, rfl, .inr ⟨rfl, rfl, rfl, rfl, rfl⟩, S⟩
theorem s_AddRAny (S : FSt w wr W v u L M n m lo hi) (hlo : -16777216 ≤ lo ∧ lo ≤ 16777216) (hhi : -16777216 ≤ hi ∧ hi ≤ 16777216) (rt : Bool) (wd h fr : Int) :
    Calls Try.prog 48 #[.pointer (some ⟨w.heap.size + 2, 0, none⟩), .bool rt, .int .i64 wd, .int .i64 h, .int .i64 fr] wr fun e w' => ∃ x y u' M' m', e = .returned (.tuple #[.int .i64 x, .int .i64 y]) ∧ Hid (AddSpec M m lo hi wd h fr rt x y M' m') ∧ FSt w w' W v u' L M' n m' lo hi := by
  by_cases hn : m < 200
  · refine (s_AddR S hlo hhi hn rt wd h fr).mono ?_
    rintro e w' ⟨x, y, v', rfl, h1, h2, h3⟩
    exact ⟨x, y, v', _, _, rfl, .inl ⟨hn, h1.out, h2.out, rfl, rfl⟩, h3⟩
  · obtain rfl : m = 200 := by have := S.m200; omega
    refine (s_AddRFull S rt wd h fr).mono ?_
    rintro e w' ⟨rfl, rfl⟩
    exact ⟨0, 0, u, M, 200, rfl, .inr ⟨rfl, rfl, rfl, rfl, rfl⟩, S⟩
theorem s_In (S : FSt w wr W v u L M n m lo hi) (a b : Int) :
    Calls Try.prog 46 #[.pointer (some ⟨w.heap.size + 1, 0, none⟩), .int .i64 a, .int .i64 b] wr fun e w' => ∃ gp, e = .returned (.pointer (some ⟨gp, 0, none⟩)) ∧ Hid (Bk w' gp 115 #[.int .i64 (hld a), .int .i64 (max (hld a) (hld b)), .pointer (some ⟨w.heap.size, 0, none⟩)] ∧ v.ownBlock ≠ some gp ∧ gp ≠ w.heap.size ∧ gp ≠ w.heap.size + 2 ∧ FSt w w' W v u L M n m lo hi) := by
  refine (c_In (w.heap.size + 1) w.heap.size 0 W a b wr S.hf).mono ?_
  rintro e w' ⟨rfl, rfl⟩
  exact ⟨wr.heap.size, rfl, Bk.new _ _ _, fun e => by have := (own_lt S.ov e).2; omega, by have := S.sz; omega, by have := S.sz; omega, S.alloc _⟩
end
/-- and a second header of the program's room -/
structure FG (w wr : World) (W : Int) (v u : Value) (L M : List Flo) (n m : Nat) (lo hi : Int) (gp : Nat) (lo' hi' : Int) : Prop where
  st : FSt w wr W v u L M n m lo hi
  kg : Bk wr gp 115 #[.int .i64 lo', .int .i64 hi', .pointer (some ⟨w.heap.size, 0, none⟩)]
  vn : v.ownBlock ≠ some gp
  gl : gp ≠ w.heap.size
  gr : gp ≠ w.heap.size + 2
section
variable {w wr w' : World} {W lo hi lo' hi' : Int} {v u : Value} {L M : List Flo} {n m gp : Nat}
theorem FG.below (G : FG w wr W v u L M n m lo hi gp lo' hi') (hb : Below wr.heap.size wr w') : FG w w' W v u L M n m lo hi gp lo' hi' := ⟨G.st.below hb, G.kg.below hb G.kg.lt, G.vn, G.gl, G.gr⟩
theorem FG.drew (G : FG w wr W v u L M n m lo hi gp lo' hi') : FG w wr.drew W v u L M n m lo hi gp lo' hi' := G.below (bl_drew (Below.refl _ _))
theorem FG.drewN (G : FG w wr W v u L M n m lo hi gp lo' hi') (k : Nat) : FG w (wr.drewN k) W v u L M n m lo hi gp lo' hi' := G.below (bl_drewN (Below.refl _ _) k)
theorem FG.setLow (G : FG w wr W v u L M n m lo hi gp lo' hi') (a : Int) : FG w (wr.setCell ⟨w.heap.size + 2, 0, none⟩ (.int .i64 a)) W v u L M n m a hi gp lo' hi' := ⟨G.st.setLow a, G.kg.far (by simpa using G.gr) _, G.vn, G.gl, G.gr⟩
theorem FG.setHigh (G : FG w wr W v u L M n m lo hi gp lo' hi') (a : Int) : FG w (wr.setCell ⟨w.heap.size + 2, 1, none⟩ (.int .i64 a)) W v u L M n m lo a gp lo' hi' := ⟨G.st.setHigh a, G.kg.far (by simpa using G.gr) _, G.vn, G.gl, G.gr⟩
end

/-- a float that is to be added -/
structure PutC where
  r : Bool
  i : Bool
  w : Int
  h : Int
  fr : Int
  lo : Int
  hi : Int
def pc (p : PutC) : List Value := [.bool p.r, .bool p.i, .int .i64 p.w, .int .i64 p.h, .int .i64 p.fr, .int .i64 p.lo, .int .i64 p.hi]
theorem pc_cells {w : World} {g o : Nat} {L : List PutC} {k : Nat} {f : PutC} (hc : ∀ j u, (L.flatMap pc)[j]? = some u → w.cell? ⟨g, o + j, none⟩ = some u) (hk : L[k]? = some f) :
    w.cell? ⟨g, o + k * 7, none⟩ = some (.bool f.r) ∧ w.cell? ⟨g, o + k * 7 + 1, none⟩ = some (.bool f.i) ∧ w.cell? ⟨g, o + k * 7 + 2, none⟩ = some (.int .i64 f.w) ∧ w.cell? ⟨g, o + k * 7 + 3, none⟩ = some (.int .i64 f.h) ∧ w.cell? ⟨g, o + k * 7 + 4, none⟩ = some (.int .i64 f.fr) ∧ w.cell? ⟨g, o + k * 7 + 5, none⟩ = some (.int .i64 f.lo) ∧ w.cell? ⟨g, o + k * 7 + 6, none⟩ = some (.int .i64 f.hi) := by
  have h : ∀ j, j < 7 → ∀ u, (pc f)[j]? = some u → w.cell? ⟨g, o + k * 7 + j, none⟩ = some u := fun j hj u hu => by
    have := hc (k * 7 + j) u (by rw [flat_get pc 7 (fun _ => rfl) L k j f hk hj]; exact hu)
    rwa [← Nat.add_assoc] at this
  exact ⟨h 0 (by omega) _ rfl, h 1 (by omega) _ rfl, h 2 (by omega) _ rfl, h 3 (by omega) _ rfl, h 4 (by omega) _ rfl, h 5 (by omega) _ rfl, h 6 (by omega) _ rfl⟩
end Go.Proofs.Ytnjckpgacbibhaa
