/- plainly: the order of two nodes is that of their places in what lies in the root; the document's order of two nodes -/
import Derived.Test.YtimlmekgapdkiaaGreatDoortree0
import Derived.Test.YtimlmekgapdkiaaGreatDoorWk
namespace Go.Proofs.YtimlmekgapdkiaaGreatDoor
set_option linter.unusedVariables false
set_option linter.unusedSimpArgs false
open Go.RowKit Go.Cas

theorem idx_ne {c a : Nat} {l : List Nat} (h : c ≠ a) : (c :: l).idxOf a = l.idxOf a + 1 := by
  have hb : (c == a) = false := beq_eq_false_iff_ne.2 h
  simp [List.idxOf_cons, hb]
theorem nd_part {g : Nat → List Nat} {k : Nat} : ∀ (ks : List Nat), (ks.flatMap g).Nodup → k ∈ ks → (g k).Nodup := by
  intro ks
  induction ks with
  | nil => intro _ h; cases h
  | cons c cs ih =>
    intro hn hk
    rw [List.flatMap_cons] at hn
    obtain ⟨h1, h2, _⟩ := List.nodup_append.1 hn
    rcases List.mem_cons.1 hk with rfl | hk
    · exact h1
    · exact ih h2 hk
def ahd (l : List Nat) (a b : Nat) : Prop := l.idxOf a < l.idxOf b
theorem ahd_app {l r : List Nat} {a b : Nat} (ha : a ∈ l) (hb : b ∉ l) : ahd (l ++ r) a b := by
  unfold ahd
  rw [List.idxOf_append, List.idxOf_append, if_pos ha, if_neg hb]
  have := List.idxOf_lt_length_of_mem ha
  omega
theorem ahd_left {l r : List Nat} {a b : Nat} (ha : a ∈ l) (hb : b ∈ l) (h : ahd l a b) : ahd (l ++ r) a b := by
  unfold ahd at *
  rw [List.idxOf_append, List.idxOf_append, if_pos ha, if_pos hb]
  exact h
theorem ahd_right {l r : List Nat} {a b : Nat} (ha : a ∉ l) (hb : b ∉ l) (h : ahd r a b) : ahd (l ++ r) a b := by
  unfold ahd at *
  rw [List.idxOf_append, List.idxOf_append, if_neg ha, if_neg hb]
  omega
theorem ahd_in {g : Nat → List Nat} {k a b : Nat} : ∀ (ks : List Nat), (ks.flatMap g).Nodup → k ∈ ks → a ∈ g k → b ∈ g k → ahd (g k) a b → ahd (ks.flatMap g) a b := by
  intro ks
  induction ks with
  | nil => intro _ h; cases h
  | cons c cs ih =>
    intro hn hk ha hb h
    rw [List.flatMap_cons] at hn ⊢
    obtain ⟨_, h2, h3⟩ := List.nodup_append.1 hn
    by_cases e : k = c
    · subst e; exact ahd_left ha hb h
    · have hk2 : k ∈ cs := by
        rcases List.mem_cons.1 hk with e2 | e2
        · exact absurd e2 e
        · exact e2
      have ma : a ∈ cs.flatMap g := List.mem_flatMap.2 ⟨k, hk2, ha⟩
      have mb : b ∈ cs.flatMap g := List.mem_flatMap.2 ⟨k, hk2, hb⟩
      exact ahd_right (fun h => h3 a h a ma rfl) (fun h => h3 b h b mb rfl) (ih h2 hk2 ha hb h)
theorem ahd_of {g : Nat → List Nat} {k1 k2 a b : Nat} : ∀ (ks : List Nat), (ks.flatMap g).Nodup → k1 ∈ ks → k2 ∈ ks → ks.idxOf k1 < ks.idxOf k2 → a ∈ g k1 → b ∈ g k2 → ahd (ks.flatMap g) a b := by
  intro ks
  induction ks with
  | nil => intro _ h; cases h
  | cons c cs ih =>
    intro hn hk1 hk2 hlt ha hb
    rw [List.flatMap_cons] at hn ⊢
    obtain ⟨_, h2, h3⟩ := List.nodup_append.1 hn
    have hc2 : k2 ≠ c := fun e => by
      rw [e, List.idxOf_cons_self] at hlt
      omega
    have hk2' : k2 ∈ cs := by
      rcases List.mem_cons.1 hk2 with e2 | e2
      · exact absurd e2 hc2
      · exact e2
    have mb : b ∈ cs.flatMap g := List.mem_flatMap.2 ⟨k2, hk2', hb⟩
    by_cases e : k1 = c
    · subst e
      exact ahd_app ha (fun h => h3 b h b mb rfl)
    · have hk1' : k1 ∈ cs := by
        rcases List.mem_cons.1 hk1 with e2 | e2
        · exact absurd e2 e
        · exact e2
      have ma : a ∈ cs.flatMap g := List.mem_flatMap.2 ⟨k1, hk1', ha⟩
      refine ahd_right (fun h => h3 a h a ma rfl) (fun h => h3 b h b mb rfl) (ih h2 hk1' hk2' ?_ ha hb)
      rw [idx_ne (Ne.symm e), idx_ne (Ne.symm hc2)] at hlt
      omega
/-- where a way down ends -/
def lst : Nat → List Nat → Nat
  | p, [] => p
  | _, x :: xs => lst x xs
theorem und_self (T : List Nod) (f p : Nat) : p ∈ und T f p := by cases f <;> simp [und]
theorem lst_und {T : List Nod} : ∀ (xs : List Nat) (p f : Nat), Chn T p xs → xs.length ≤ f → lst p xs ∈ und T f p := by
  intro xs
  induction xs with
  | nil => intro p f _ _; exact und_self T f p
  | cons x xs ih =>
    intro p f h hf
    cases f with
    | zero => simp at hf
    | succ f =>
      unfold und
      exact List.mem_cons_of_mem _ (List.mem_flatMap.2 ⟨x, h.1, ih x f h.2 (by simpa using hf)⟩)
theorem ord_und {T : List Nod} : ∀ (xs ys : List Nat) (p f : Nat), Chn T p xs → Chn T p ys → xs.length ≤ f → ys.length ≤ f → (und T f p).Nodup → cmpW T p xs ys = -1 → ahd (und T f p) (lst p xs) (lst p ys) := by
  intro xs
  induction xs with
  | nil =>
    intro ys p f _ h2 _ hf hn hc
    cases ys with
    | nil => cases hc
    | cons y ys =>
      cases f with
      | zero => simp at hf
      | succ f =>
        unfold und at hn ⊢
        have hm : lst y ys ∈ (ndA T p).ki.flatMap (und T f) := List.mem_flatMap.2 ⟨y, h2.1, lst_und ys y f h2.2 (by simpa using hf)⟩
        have hp : lst y ys ≠ p := fun e => (List.nodup_cons.1 hn).1 (e ▸ hm)
        unfold ahd
        show List.idxOf p (p :: _) < List.idxOf (lst y ys) (p :: _)
        rw [List.idxOf_cons_self, idx_ne (Ne.symm hp)]
        omega
  | cons x xs ih =>
    intro ys p f h1 h2 hf1 hf2 hn hc
    cases ys with
    | nil => cases hc
    | cons y ys =>
      cases f with
      | zero => simp at hf1
      | succ f =>
        unfold und at hn ⊢
        obtain ⟨hp, hn2⟩ := List.nodup_cons.1 hn
        have ma := lst_und xs x f h1.2 (by simpa using hf1)
        have mb := lst_und ys y f h2.2 (by simpa using hf2)
        have key : ahd ((ndA T p).ki.flatMap (und T f)) (lst x xs) (lst y ys) := by
          unfold cmpW at hc
          by_cases e : x = y
          · subst e
            rw [if_pos rfl] at hc
            have hnx : (und T f x).Nodup := nd_part _ hn2 h1.1
            exact ahd_in _ hn2 h1.1 ma mb (ih ys x f h1.2 h2.2 (by simpa using hf1) (by simpa using hf2) hnx hc)
          · rw [if_neg e] at hc
            by_cases e2 : ixOf (ndA T p).ki x < ixOf (ndA T p).ki y
            · exact ahd_of _ hn2 h1.1 h2.1 e2 ma mb
            · rw [if_neg e2] at hc; cases hc
        have m1 : lst x xs ∈ (ndA T p).ki.flatMap (und T f) := List.mem_flatMap.2 ⟨x, h1.1, ma⟩
        have m2 : lst y ys ∈ (ndA T p).ki.flatMap (und T f) := List.mem_flatMap.2 ⟨y, h2.1, mb⟩
        unfold ahd at key ⊢
        show List.idxOf (lst x xs) (p :: _) < List.idxOf (lst y ys) (p :: _)
        rw [idx_ne (fun e : p = lst x xs => hp (e.symm ▸ m1)), idx_ne (fun e : p = lst y ys => hp (e.symm ▸ m2))]
        omega
theorem cmpL_range : ∀ (a b : List Nat), cmpL a b = -1 ∨ cmpL a b = 0 ∨ cmpL a b = 1 := by
  intro a
  induction a with
  | nil => intro b; cases b <;> simp [cmpL]
  | cons x xs ih =>
    intro b
    cases b with
    | nil => simp [cmpL]
    | cons y ys =>
      unfold cmpL
      split
      · simp
      · split
        · simp
        · exact ih ys
/-- what the places of two nodes tell -/
def plc (l : List Nat) (a b : Nat) : Int := if l.idxOf a < l.idxOf b then -1 else if l.idxOf b < l.idxOf a then 1 else 0
theorem ord_plc {T : List Nod} {xs ys : List Nat} {p f : Nat} (h1 : Chn T p xs) (h2 : Chn T p ys) (hf1 : xs.length ≤ f) (hf2 : ys.length ≤ f) (hn : (und T f p).Nodup) : cmpW T p xs ys = plc (und T f p) (lst p xs) (lst p ys) := by
  have he := cmp_eq xs ys p h1 h2
  have he2 := cmp_eq ys xs p h2 h1
  rcases cmpL_range (pos T p xs) (pos T p ys) with h | h | h
  · have := ord_und xs ys p f h1 h2 hf1 hf2 hn (he.trans h)
    unfold ahd at this
    unfold plc
    rw [he, h, if_pos this]
  · have := pos_inj xs ys p h1 h2 ((cmpL_zero _ _).1 h)
    subst this
    rw [he, h]
    unfold plc
    rw [if_neg (by omega), if_neg (by omega)]
  · have h3 : cmpL (pos T p ys) (pos T p xs) = -1 := by rw [cmpL_anti, h]
    have := ord_und ys xs p f h2 h1 hf2 hf1 hn (he2.trans h3)
    unfold ahd at this
    unfold plc
    rw [he, h, if_neg (by omega), if_pos this]
end Go.Proofs.YtimlmekgapdkiaaGreatDoor
namespace Go.Proofs.YtimlmekgapdkiaaGreatDoor
set_option linter.unusedVariables false
set_option linter.unusedSimpArgs false
open Go.RowKit Go.Cas

theorem le_sumW : ∀ (l : List Nat) (x : Nat), x ∈ l → x ≤ l.sum := by
  intro l
  induction l with
  | nil => intro x h; simp at h
  | cons a l ih =>
    intro x h
    rw [List.sum_cons]
    rcases List.mem_cons.1 h with rfl | h
    · omega
    · have := ih x h; omega
theorem lst_last : ∀ (xs : List Nat) (p : Nat), lst p xs = (p :: xs).getLast (by simp) := by
  intro xs
  induction xs with
  | nil => intro p; rfl
  | cons x xs ih => intro p; rw [List.getLast_cons (by simp)]; exact ih x
set_option maxRecDepth 100000 in
set_option maxHeartbeats 8000000 in
theorem c_rRoot {w : World} {B R n i r : Nat} {τ : Nat → Nat} {T : List Nod} {d : Nat → Nat} {xs : List Nat} (h : RS B R T n τ w) (hW : WF T d) (hT : T.length ≤ 400) (hi : i < T.length) (hX : Go.Cas.Way T i (r :: xs)) :
    Calls Tryz.prog 69 #[.pointer (some ⟨R, 0, none⟩), .int .i64 (i : Int)] w fun e w' => e = .returned (.int .i64 (r : Int)) ∧ w = w' := by
  obtain ⟨L, cap, tv, vs, M, h1, hM⟩ := h
  have hl : M.length = T.length := by rw [← hM]; simp
  obtain ⟨g0, _⟩ := h1.heads
  have hr := h1.ltR
  have hrL := h1.ltL
  have H1 := Lib.hid h1
  have HM := Lib.hid hM
  have HW := Lib.hid hW
  have HLL := Lib.hid hl
  have HX := Lib.hid hX
  have HI := Lib.hid hi
  have hl4 : M.length ≤ 400 := by omega
  clear h1 hM hW hl hT hi hX
  go_enter Tryz.func69, Tryz.ntmps69
  go_wp2_with fail
  go_loop [1] (fun c => ∃ (q : Nat), c = .int .i64 (q : Int) ∧ Hid (q < T.length ∧ ∃ Y Z, Go.Cas.Way T q Y ∧ r :: xs = Y ++ Z)) (fun c => wm d (intOf c))
  case atStart => exact ⟨i, rfl, HI.out, r :: xs, [], HX.out, by simp⟩
  case round =>
    obtain ⟨q, rfl, HR⟩ := hrel
    have hq := HR.out.1
    obtain ⟨y, hy, hyx⟩ := nv_get HM.out (ndA_get hq)
    have HYX := Lib.hid hyx
    obtain ⟨_, _, a4, _⟩ := H1.out.cell hy
    have hqi : (q : Int) < (M.length : Int) := by have := HLL.out; omega
    have h0q : 0 ≤ (q : Int) := by omega
    obtain ⟨pa, hpa⟩ : ∃ pa, pa = y.x.pa := ⟨_, rfl⟩
    rw [← hpa] at a4
    have HPA : Hid (pa = (ndA T q).pa) := by unfold Hid; rw [hpa, hyx]
    clear hy hyx hpa
    by_cases hp0 : 0 ≤ pa
    · obtain ⟨p, rfl⟩ := Int.eq_ofNat_of_zero_le hp0
      have hN : Hid (p < T.length ∧ ∃ Y Z, Go.Cas.Way T p Y ∧ r :: xs = Y ++ Z) := by
        obtain ⟨_, Y, Z, hw, he⟩ := HR.out
        have hpl : p < T.length := by
          rcases HW.out.pa q hq with e | ⟨_, e⟩
          · have := HPA.out; omega
          · rw [← HPA.out] at e; simpa using e
        refine ⟨hpl, ?_⟩
        cases hw with
        | root h => have := HPA.out; omega
        | @step _ p' Y' e hw' =>
          have : p' = p := by have := HPA.out; omega
          subst this
          exact ⟨Y', [q] ++ Z, hw', by rw [he]; simp⟩
      have hms : wm d (p : Int) < wm d (q : Int) := by
        have := HW.out.ac q hq (by rw [← HPA.out]; omega)
        rw [← HPA.out] at this
        unfold wm
        rw [if_neg (by omega), if_neg (by omega)]
        have e1 : ((p : Int)).toNat = p := rfl
        have e2 : ((q : Int)).toNat = q := rfl
        rw [e1] at this ⊢
        rw [e2]
        omega
      have HMS := Lib.hid hms
      clear hms hq
      go_wp2_with fail
      go_round
      case rel => exact ⟨p, rfl, hN.out⟩
      case measure => exact HMS.out
    · have HE : Hid ((q : Int) = (r : Int)) := by
        obtain ⟨_, Y, Z, hw, he⟩ := HR.out
        cases hw with
        | root h => simp at he; unfold Hid; rw [he.1]
        | step e _ => have := HPA.out; omega
      go_wp2_with fail
      go_ret
      exact ⟨by rw [← HE.out]; rfl, rfl⟩
def ix0 (u : List Nat) (a n : Nat) : Int := if u.idxOf a < n then (u.idxOf a : Int) else 0
theorem ix0_hit {u : List Nat} {a n : Nat} (hu : u.Nodup) (h : u[n]? = some a) : ix0 u a (n + 1) = (n : Int) := by
  obtain ⟨hn, e⟩ := List.getElem?_eq_some_iff.1 h
  have : u.idxOf a = n := by rw [← e]; exact hu.idxOf_getElem n hn
  unfold ix0
  rw [this, if_pos (by omega)]
theorem ix0_miss {u : List Nat} {a b n : Nat} (h : u[n]? = some b) (hne : b ≠ a) : ix0 u a (n + 1) = ix0 u a n := by
  obtain ⟨hn, e⟩ := List.getElem?_eq_some_iff.1 h
  have : u.idxOf a ≠ n := fun e2 => by
    have h1 : u.idxOf a < u.length := by omega
    have := List.getElem_idxOf h1
    exact hne (by rw [← e, ← this]; congr 1; exact e2.symm)
  unfold ix0
  by_cases h2 : u.idxOf a < n
  · rw [if_pos h2, if_pos (by omega)]
  · rw [if_neg h2, if_neg (by omega)]
set_option maxRecDepth 100000 in
set_option maxHeartbeats 8000000 in
theorem c_rOrder {w : World} {B R n i j : Nat} {τ : Nat → Nat} {T : List Nod} {d : Nat → Nat} {X Y : List Nat} (h : RS B R T n τ w) (hW : WF T d) (hT : T.length ≤ 400) (hi : i < T.length) (hj : j < T.length) (hX : Go.Cas.Way T i X) (hY : Go.Cas.Way T j Y) :
    Calls Tryz.prog 41 #[.pointer (some ⟨R, 0, none⟩), .int .i64 (i : Int), .int .i64 (j : Int)] w (OrRet w (ordW T X Y)) := by
  have HH1 := Lib.hid (c_rHas h i hi hT)
  have HH2 := Lib.hid (c_rHas h j hj hT)
  obtain ⟨r, xs, rfl, hcx⟩ := hX.cons hW hi
  obtain ⟨s, ys, rfl, hcy⟩ := hY.cons hW hj
  have HR1 := Lib.hid (c_rRoot h hW hT hi hX)
  have HR2 := Lib.hid (c_rRoot h hW hT hj hY)
  by_cases hrs : r = s
  case neg =>
    have hne : ((r : Int) != (s : Int)) = true := by rw [bne_iff_ne]; omega
    have HO : Hid (ordW T (r :: xs) (s :: ys) = (0, false)) := by unfold Hid ordW; simp [hrs]
    clear h hW hX hY hcx hcy hrs hi hj
    go_enter Tryz.func41, Tryz.ntmps41
    go_wp2_with (first
      | (go_at_call 43; first | ((with_reducible refine (HH1.out).mono ?_); rintro e w' ⟨rfl, rfl⟩) | ((with_reducible refine (HH2.out).mono ?_); rintro e w' ⟨rfl, rfl⟩))
      | (go_at_call 69; first | ((with_reducible refine (HR1.out).mono ?_); rintro e w' ⟨rfl, rfl⟩) | ((with_reducible refine (HR2.out).mono ?_); rintro e w' ⟨rfl, rfl⟩)))
    go_ret2
    exact ⟨by rw [HO.out]; rfl, Below.refl _ _⟩
  subst hrs
  have hne : ((r : Int) != (r : Int)) = false := by simp
  obtain ⟨Dm, hD⟩ : ∃ Dm, ∀ k, k < T.length → d k ≤ Dm := ⟨((List.range T.length).map d).sum, fun k hk => by
    have : d k ∈ (List.range T.length).map d := List.mem_map_of_mem (List.mem_range.2 hk)
    exact le_sumW _ _ this⟩
  have hrl : r < T.length := hX.lt hW hi r (by simp)
  obtain ⟨f, hf⟩ : ∃ f, f = Dm + T.length + 1 := ⟨_, rfl⟩
  have hsx := hX.short hW hi
  have hsy := hY.short hW hj
  simp only [List.length_cons] at hsx hsy
  have hnd := und_nodup hW f r hrl
  have hop := ord_plc (f := f) hcx hcy (by omega) (by omega) hnd
  have e1 : lst r xs = i := by rw [lst_last]; exact hX.last
  have e2 : lst r ys = j := by rw [lst_last]; exact hY.last
  have mi := lst_und xs r f hcx (by omega)
  have mj := lst_und ys r f hcy (by omega)
  rw [e1] at mi
  rw [e2] at mj
  rw [e1, e2] at hop
  have hul := und_len hW f r hrl
  have HU := Lib.hid (c_rUnderF hW hD hT f w r h hrl (by omega))
  obtain ⟨u, hu⟩ : ∃ u, u = und T f r := ⟨_, rfl⟩
  rw [← hu] at hnd hop mi mj hul HU
  have HO : Hid (ordW T (r :: xs) (r :: ys) = (plc u i j, true)) := by unfold Hid ordW; simp [hop]
  have HND := Lib.hid hnd
  have HMI := Lib.hid (List.idxOf_lt_length_of_mem mi)
  have HMJ := Lib.hid (List.idxOf_lt_length_of_mem mj)
  obtain ⟨N, hN⟩ : ∃ N, N = u.length := ⟨_, rfl⟩
  have HN := Lib.hid hN
  have hN4 : N ≤ 400 := by omega
  clear h hW hX hY hcx hcy hi hj hD hrl hf hsx hsy hnd hop e1 e2 mi mj hul hu hN
  go_enter Tryz.func41, Tryz.ntmps41
  go_wp2_with (first
    | (go_at_call 43; first | ((with_reducible refine (HH1.out).mono ?_); rintro e w' ⟨rfl, rfl⟩) | ((with_reducible refine (HH2.out).mono ?_); rintro e w' ⟨rfl, rfl⟩))
    | (go_at_call 69; first | ((with_reducible refine (HR1.out).mono ?_); rintro e w' ⟨rfl, rfl⟩) | ((with_reducible refine (HR2.out).mono ?_); rintro e w' ⟨rfl, rfl⟩))
    | (go_at_call 19; refine (HU.out).mono ?_; rintro e w1 ⟨v, rfl, ho, hb⟩; have HO1 := Lib.hid ho; have HB1 := Lib.hid hb; obtain ⟨_, A, c, e1, _, _⟩ := RdS.of_own ho; rw [← HN.out] at e1; obtain rfl := e1; clear ho hb))
  go_loopw [12, 13, 14] (fun a b c wr => ∃ (k : Nat), k ≤ N ∧ c = .int .i64 (k : Int) ∧ a = .int .i64 (ix0 u i k) ∧ b = .int .i64 (ix0 u j k) ∧ wr = w1) (fun _ _ c _ => N - (intOf c).toNat)
  case atStart => exact ⟨0, Nat.zero_le _, rfl, by simp [ix0], by simp [ix0], rfl⟩
  case round =>
    obtain ⟨k, hk, rfl, rfl, rfl, rfl⟩ := hrel
    by_cases hkn : k < N
    · have hik : (k : Int) < (N : Int) := by omega
      obtain ⟨x, hx⟩ : ∃ x, u[k]? = some x := ⟨_, List.getElem?_eq_getElem (by rw [← HN.out]; exact hkn)⟩
      obtain ⟨g, o, rfl, hg, c1⟩ := rdI_at (RdS.of_own (by have := HO1.out; rw [← HN.out] at this; exact this)) hx
      have HA : Hid (ix0 u i (k + 1) = if x = i then (k : Int) else ix0 u i k) := by
        unfold Hid
        by_cases e : x = i
        · subst e; rw [if_pos rfl]; exact ix0_hit HND.out hx
        · rw [if_neg e]; exact ix0_miss hx e
      have HB : Hid (ix0 u j (k + 1) = if x = j then (k : Int) else ix0 u j k) := by
        unfold Hid
        by_cases e : x = j
        · subst e; rw [if_pos rfl]; exact ix0_hit HND.out hx
        · rw [if_neg e]; exact ix0_miss hx e
      clear hx
      by_cases e1 : x = i
      · have b1 : ((x : Int) == (i : Int)) = true := by rw [e1]; simp
        have HA2 : Hid (ix0 u i (k + 1) = (k : Int)) := by unfold Hid; rw [HA.out, if_pos e1]
        by_cases e2 : x = j
        · have b2 : ((x : Int) == (j : Int)) = true := by rw [e2]; simp
          have HB2 : Hid (ix0 u j (k + 1) = (k : Int)) := by unfold Hid; rw [HB.out, if_pos e2]
          clear e1 e2
          go_wp2_with fail
          go_roundw
          case rel => exact ⟨k + 1, by omega, by go_num, by rw [HA2.out], by rw [HB2.out], trivial⟩
          case measure => simp [intOf]; omega
        · have b2 : ((x : Int) == (j : Int)) = false := by rw [beq_eq_false_iff_ne]; omega
          have HB2 : Hid (ix0 u j (k + 1) = ix0 u j k) := by unfold Hid; rw [HB.out, if_neg e2]
          clear e1 e2
          go_wp2_with fail
          go_roundw
          case rel => exact ⟨k + 1, by omega, by go_num, by rw [HA2.out], by rw [HB2.out], trivial⟩
          case measure => simp [intOf]; omega
      · have b1 : ((x : Int) == (i : Int)) = false := by rw [beq_eq_false_iff_ne]; omega
        have HA2 : Hid (ix0 u i (k + 1) = ix0 u i k) := by unfold Hid; rw [HA.out, if_neg e1]
        by_cases e2 : x = j
        · have b2 : ((x : Int) == (j : Int)) = true := by rw [e2]; simp
          have HB2 : Hid (ix0 u j (k + 1) = (k : Int)) := by unfold Hid; rw [HB.out, if_pos e2]
          clear e1 e2
          go_wp2_with fail
          go_roundw
          case rel => exact ⟨k + 1, by omega, by go_num, by rw [HA2.out], by rw [HB2.out], trivial⟩
          case measure => simp [intOf]; omega
        · have b2 : ((x : Int) == (j : Int)) = false := by rw [beq_eq_false_iff_ne]; omega
          have HB2 : Hid (ix0 u j (k + 1) = ix0 u j k) := by unfold Hid; rw [HB.out, if_neg e2]
          clear e1 e2
          go_wp2_with fail
          go_roundw
          case rel => exact ⟨k + 1, by omega, by go_num, by rw [HA2.out], by rw [HB2.out], trivial⟩
          case measure => simp [intOf]; omega
    · have hke : k = N := by omega
      have hik : ¬ (k : Int) < (N : Int) := by omega
      obtain ⟨p1, hp1⟩ : ∃ p1 : Nat, p1 = u.idxOf i := ⟨_, rfl⟩
      obtain ⟨p2, hp2⟩ : ∃ p2 : Nat, p2 = u.idxOf j := ⟨_, rfl⟩
      have q1 : ix0 u i k = (p1 : Int) := by unfold ix0; rw [if_pos (by rw [hke, HN.out]; exact HMI.out), hp1]
      have q2 : ix0 u j k = (p2 : Int) := by unfold ix0; rw [if_pos (by rw [hke, HN.out]; exact HMJ.out), hp2]
      have HPL : Hid (plc u i j = if p1 < p2 then -1 else if p2 < p1 then 1 else 0) := by unfold Hid plc; rw [hp1, hp2]
      rw [q1, q2]
      clear q1 q2 hp1 hp2 hke
      by_cases l1 : p1 < p2
      · have l1i : (p1 : Int) < (p2 : Int) := by omega
        have HF : Hid (plc u i j = -1) := by unfold Hid; rw [HPL.out, if_pos l1]
        go_wp2_with fail
        go_ret2
        exact ⟨by rw [HO.out, HF.out]; rfl, HB1.out⟩
      · have l1i : ¬ (p1 : Int) < (p2 : Int) := by omega
        by_cases l2 : p2 < p1
        · have l2i : (p2 : Int) < (p1 : Int) := by omega
          have HF : Hid (plc u i j = 1) := by unfold Hid; rw [HPL.out, if_neg l1, if_pos l2]
          go_wp2_with fail
          go_ret2
          exact ⟨by rw [HO.out, HF.out]; rfl, HB1.out⟩
        · have l2i : ¬ (p2 : Int) < (p1 : Int) := by omega
          have HF : Hid (plc u i j = 0) := by unfold Hid; rw [HPL.out, if_neg l1, if_neg l2]
          go_wp2_with fail
          go_ret2
          exact ⟨by rw [HO.out, HF.out]; rfl, HB1.out⟩
end Go.Proofs.YtimlmekgapdkiaaGreatDoor
