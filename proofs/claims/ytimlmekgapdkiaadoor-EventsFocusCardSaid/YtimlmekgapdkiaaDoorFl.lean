/- the order of focus, plainly; the order of focus: Next; plainly: going on comes round -/
import Derived.Test.YtimlmekgapdkiaaDoorFo
import Derived.Test.YtimlmekgapdkiaaDoorTmm
import Derived.Test.YtimlmekgapdkiaaDoorTmp
namespace Go.Proofs.YtimlmekgapdkiaaDoor
set_option linter.unusedVariables false
set_option linter.unusedSimpArgs false
open Go.RowKit Go.Cas

/-- a stable sort -/
def insS (f : Nat → Int) (x : Nat) : List Nat → List Nat
  | [] => [x]
  | y :: l => if f x ≤ f y then x :: y :: l else y :: insS f x l
def isrt (f : Nat → Int) : List Nat → List Nat
  | [] => []
  | x :: l => insS f x (isrt f l)
theorem insS_filter (f : Nat → Int) (s : Int) (x : Nat) : ∀ l, (insS f x l).filter (fun y => decide (f y = s)) = if f x = s then x :: l.filter (fun y => decide (f y = s)) else l.filter (fun y => decide (f y = s)) := by
  intro l
  induction l with
  | nil => unfold insS; by_cases h : f x = s <;> simp [h]
  | cons y l ih =>
    unfold insS
    by_cases hxy : f x ≤ f y
    · rw [if_pos hxy]
      by_cases h : f x = s <;> simp [List.filter_cons, h]
    · rw [if_neg hxy, List.filter_cons, ih]
      by_cases h : f x = s
      · have : ¬ f y = s := by omega
        simp [h, this]
      · simp [h, List.filter_cons]
theorem insS_mem (f : Nat → Int) (x z : Nat) : ∀ l, z ∈ insS f x l ↔ z = x ∨ z ∈ l := by
  intro l
  induction l with
  | nil => simp [insS]
  | cons y l ih =>
    unfold insS
    split
    · simp
    · simp only [List.mem_cons, ih]
      constructor
      · rintro (h | h | h)
        · exact .inr (.inl h)
        · exact .inl h
        · exact .inr (.inr h)
      · rintro (h | h | h)
        · exact .inr (.inl h)
        · exact .inl h
        · exact .inr (.inr h)
theorem insS_srt (f : Nat → Int) (x : Nat) : ∀ l, l.Pairwise (fun a b => f a ≤ f b) → (insS f x l).Pairwise (fun a b => f a ≤ f b) := by
  intro l
  induction l with
  | nil => intro _; simp [insS]
  | cons y l ih =>
    intro h
    unfold insS
    split
    · rename_i hxy
      refine List.pairwise_cons.2 ⟨fun z hz => ?_, h⟩
      rcases List.mem_cons.1 hz with rfl | hz
      · exact hxy
      · exact Int.le_trans hxy ((List.pairwise_cons.1 h).1 z hz)
    · rename_i hxy
      refine List.pairwise_cons.2 ⟨fun z hz => ?_, ih (List.pairwise_cons.1 h).2⟩
      rcases (insS_mem f x z l).1 hz with rfl | hz
      · omega
      · exact (List.pairwise_cons.1 h).1 z hz
theorem isrt_filter (f : Nat → Int) (s : Int) : ∀ l, (isrt f l).filter (fun y => decide (f y = s)) = l.filter (fun y => decide (f y = s)) := by
  intro l
  induction l with
  | nil => rfl
  | cons x l ih =>
    unfold isrt
    rw [insS_filter, ih, List.filter_cons]
    by_cases h : f x = s <;> simp [h]
theorem isrt_srt (f : Nat → Int) : ∀ l, (isrt f l).Pairwise (fun a b => f a ≤ f b) := by
  intro l
  induction l with
  | nil => exact List.Pairwise.nil
  | cons x l ih => exact insS_srt f x _ ih
theorem isrt_mem (f : Nat → Int) (z : Nat) : ∀ l, z ∈ isrt f l ↔ z ∈ l := by
  intro l
  induction l with
  | nil => simp [isrt]
  | cons x l ih => unfold isrt; rw [insS_mem, ih, List.mem_cons]
/-- two sorted lists of the same buckets are one -/
theorem srt_uniq (f : Nat → Int) : ∀ (a b : List Nat), a.Pairwise (fun x y => f x ≤ f y) → b.Pairwise (fun x y => f x ≤ f y) → (∀ s : Int, a.filter (fun y => decide (f y = s)) = b.filter (fun y => decide (f y = s))) → a = b := by
  intro a
  have mem_of : ∀ (a b : List Nat), (∀ s : Int, a.filter (fun y => decide (f y = s)) = b.filter (fun y => decide (f y = s))) → ∀ x ∈ a, x ∈ b := fun a b h x hx => by
    have h1 : x ∈ a.filter (fun y => decide (f y = f x)) := List.mem_filter.2 ⟨hx, by simp⟩
    rw [h (f x)] at h1
    exact (List.mem_filter.1 h1).1
  induction a with
  | nil =>
    intro b _ _ h
    cases b with
    | nil => rfl
    | cons y b => exact absurd (mem_of _ _ (fun s => (h s).symm) y (by simp)) (by simp)
  | cons x a ih =>
    intro b ha hb h
    cases b with
    | nil => exact absurd (mem_of _ _ h x (by simp)) (by simp)
    | cons y b =>
      have h1 : f y ≤ f x := by
        rcases List.mem_cons.1 (mem_of _ _ h x (by simp)) with e | e
        · rw [e]; exact Int.le_refl _
        · exact (List.pairwise_cons.1 hb).1 x e
      have h2 : f x ≤ f y := by
        rcases List.mem_cons.1 (mem_of _ _ (fun s => (h s).symm) y (by simp)) with e | e
        · rw [e]; exact Int.le_refl _
        · exact (List.pairwise_cons.1 ha).1 y e
      have e : f x = f y := Int.le_antisymm h2 h1
      have h3 := h (f x)
      rw [List.filter_cons, List.filter_cons, if_pos (by simp), if_pos (by simp [e])] at h3
      injection h3 with h3 h4
      subst h3
      congr 1
      refine ih b (List.pairwise_cons.1 ha).2 (List.pairwise_cons.1 hb).2 fun s => ?_
      have h5 := h s
      rw [List.filter_cons, List.filter_cons] at h5
      by_cases hs : f x = s
      · simpa [hs] using h5
      · simpa [hs] using h5
/-- the order of focus -/
def ordL (T : List Nod) (u : List Nat) : List Nat := isrt (fun i => (ixA T i).1) (u.filter (isF T)) ++ u.filter (isR T)
theorem pw_of_srt {f : Nat → Int} {L : List Nat} (h : Srt f L 0 L.length) : L.Pairwise (fun a b => f a ≤ f b) := by
  rw [List.pairwise_iff_getElem]
  intro i j hi hj hij
  have := h i j (Nat.zero_le _) (Nat.le_of_lt hij) hj
  rwa [ky_some (List.getElem?_eq_getElem hi), ky_some (List.getElem?_eq_getElem hj)] at this
theorem ordL_eq {T : List Nod} {u L' : List Nat} (h1 : SM (fun i => (ixA T i).1) (u.filter (isF T)) L' 0 (u.filter (isF T)).length) (h2 : Srt (fun i => (ixA T i).1) L' 0 (u.filter (isF T)).length) : L' ++ u.filter (isR T) = ordL T u := by
  unfold ordL
  congr 1
  rw [← h1.len] at h2
  exact srt_uniq _ _ _ (pw_of_srt h2) (isrt_srt _ _) (fun s => (h1.stb s).trans (isrt_filter _ s _).symm)
theorem insS_nd (f : Nat → Int) (x : Nat) : ∀ l, x ∉ l → l.Nodup → (insS f x l).Nodup := by
  intro l
  induction l with
  | nil => intro _ _; simp [insS]
  | cons y l ih =>
    intro hx h
    rw [List.mem_cons, not_or] at hx
    unfold insS
    split
    · exact List.nodup_cons.2 ⟨by simp [hx.1, hx.2], h⟩
    · refine List.nodup_cons.2 ⟨fun hm => ?_, ih hx.2 (List.nodup_cons.1 h).2⟩
      rcases (insS_mem f x y l).1 hm with e | e
      · exact hx.1 e.symm
      · exact (List.nodup_cons.1 h).1 e
theorem isrt_nd (f : Nat → Int) : ∀ l, l.Nodup → (isrt f l).Nodup := by
  intro l
  induction l with
  | nil => intro _; exact List.nodup_nil
  | cons x l ih =>
    intro h
    exact insS_nd f x _ (fun hm => (List.nodup_cons.1 h).1 ((isrt_mem f x l).1 hm)) (ih (List.nodup_cons.1 h).2)
theorem ordL_nd (T : List Nod) {u : List Nat} (h : u.Nodup) : (ordL T u).Nodup := by
  unfold ordL
  rw [List.nodup_append]
  refine ⟨isrt_nd _ _ (h.filter _), h.filter _, fun a ha b hb e => ?_⟩
  subst e
  have h1 := (List.mem_filter.1 ((isrt_mem _ a _).1 ha)).2
  have h2 := (List.mem_filter.1 hb).2
  unfold isF at h1
  unfold isR at h2
  rw [Bool.and_eq_true] at h1 h2
  rw [h1.2] at h2
  simp at h2
theorem ordL_len (T : List Nod) (u : List Nat) : (ordL T u).length ≤ 2 * u.length := by
  unfold ordL
  have : ∀ l, (isrt (fun i => (ixA T i).1) l).length = l.length := by
    intro l
    induction l with
    | nil => rfl
    | cons x l ih =>
      unfold isrt
      have hi : ∀ m : List Nat, (insS (fun i => (ixA T i).1) x m).length = m.length + 1 := by
        intro m
        induction m with
        | nil => rfl
        | cons y m ih2 =>
          unfold insS
          split
          · simp
          · simp [ih2]
      rw [hi, ih]; rfl
  rw [List.length_append, this]
  have h1 := List.length_filter_le (isF T) u
  have h2 := List.length_filter_le (isR T) u
  omega
end Go.Proofs.YtimlmekgapdkiaaDoor
namespace Go.Proofs.YtimlmekgapdkiaaDoor
set_option linter.unusedVariables false
set_option linter.unusedSimpArgs false
open Go.RowKit Go.Cas

def fnI : List Nat → Int → Int
  | [], _ => -1
  | y :: l, z => if (y : Int) = z then 0 else if fnI l z < 0 then -1 else fnI l z + 1
theorem fnI_hit : ∀ (l : List Nat) (z : Int) (k y : Nat), l[k]? = some y → (y : Int) = z → (∀ (j q : Nat), j < k → l[j]? = some q → (q : Int) ≠ z) → fnI l z = (k : Int) := by
  intro l
  induction l with
  | nil => intro z k y h; simp at h
  | cons a l ih =>
    intro z k y h he hn
    unfold fnI
    cases k with
    | zero => simp at h; subst h; rw [if_pos he]; rfl
    | succ k =>
      rw [if_neg (hn 0 a (by omega) rfl), ih z k y (by simpa using h) he (fun j q hj hq => hn (j + 1) q (by omega) (by simpa using hq)), if_neg (by omega)]
      omega
theorem fnI_none : ∀ (l : List Nat) (z : Int), (∀ (j q : Nat), l[j]? = some q → (q : Int) ≠ z) → fnI l z = -1 := by
  intro l
  induction l with
  | nil => intro z _; rfl
  | cons a l ih =>
    intro z hn
    unfold fnI
    rw [if_neg (hn 0 a rfl), ih z (fun j q hq => hn (j + 1) q (by simpa using hq))]; rfl
theorem fnI_bd (l : List Nat) (z : Int) : -1 ≤ fnI l z ∧ fnI l z < (l.length : Int) ∨ (l = [] ∧ fnI l z = -1) := by
  induction l with
  | nil => exact .inr ⟨rfl, rfl⟩
  | cons a l ih =>
    left
    unfold fnI
    simp only [List.length_cons]
    split
    · omega
    · rcases ih with ⟨h1, h2⟩ | ⟨_, h⟩
      · split <;> omega
      · rw [h]; simp; omega
set_option maxRecDepth 100000 in
set_option maxHeartbeats 4000000 in
theorem c_IndexI {w : World} {lim n : Nat} {v : Value} {l : List Nat} (z : Int) (h : RdS w lim 1 v n (kic l)) (hn : n ≤ 1000000000) (hlim : lim ≤ w.heap.size) :
    Calls Tryd.prog 49 #[v, .int .i64 z] w fun e w' => e = .returned (.int .i64 (fnI l z)) ∧ w = w' := by
  have H := Lib.hid h
  have hll : l.length = n := by have := h.1; rw [kic_len] at this; omega
  obtain ⟨_, A, c, rfl, _, _⟩ := h
  have HL := Lib.hid hll
  clear hll
  go_enter Tryd.func49, Tryd.ntmps49
  go_wp2_with fail
  go_loop [8] (fun i => ∃ (k : Nat), k ≤ n ∧ i = .int .i64 k ∧ Hid (∀ j y, j < k → l[j]? = some y → (y : Int) ≠ z)) (fun i => n - (intOf i).toNat)
  case atStart => exact ⟨0, by omega, rfl, fun j q hj => by omega⟩
  case round =>
    obtain ⟨k, hk, rfl, HA⟩ := hrel
    by_cases hlt : k < n
    · have hik : (k : Int) < (n : Int) := by omega
      obtain ⟨y, hy⟩ : ∃ y, l[k]? = some y := ⟨_, List.getElem?_eq_getElem (by have := HL.out; omega)⟩
      have HY := Lib.hid hy
      obtain ⟨g, o, rfl, hg, hc⟩ := rd_ki H.out hy
      have d0 := hc w (Below.refl _ _)
      by_cases he : (y : Int) = z
      · have HF : Hid (fnI l z = (k : Int)) := fnI_hit l z k y HY.out he HA.out
        have e2 : (z == (y : Int)) = true := by rw [beq_iff_eq]; exact he.symm
        have e1 := he.symm
        clear hy hc he
        go_wp2_with fail
        go_ret
        exact ⟨ret_int (by rw [← e1]; exact HF.out.symm), rfl⟩
      · have HE := Lib.hid he
        have e1 : ¬ z = (y : Int) := fun e => he e.symm
        have e2 : (z == (y : Int)) = false := by rw [beq_eq_false_iff_ne]; exact e1
        clear hy hc he
        go_wp2_with fail
        go_round
        case rel =>
          refine ⟨k + 1, by omega, by go_num, fun j q hj hq => ?_⟩
          by_cases hjk : j = k
          · subst hjk
            have := HY.out
            rw [hq] at this
            rw [Option.some.inj this]; exact HE.out
          · exact HA.out j q (by omega) hq
        case measure => simp [intOf]; omega
    · obtain rfl : k = n := by omega
      have HF : Hid (fnI l z = -1) := fnI_none l z (fun j q hq => HA.out j q (by have := (List.getElem?_eq_some_iff.1 hq).1; have := HL.out; omega) hq)
      have hik : ¬ (k : Int) < (k : Int) := by omega
      go_wp2_with fail
      go_ret
      exact ⟨ret_int HF.out.symm, rfl⟩
/-- who comes next -/
def nxL (l : List Nat) (z : Int) : Int := if l = [] then -1 else ((l.getD ((fnI l z + 1) % (l.length : Int)).toNat 0 : Nat) : Int)
def nxB (l : List Nat) (z : Int) (back : Bool) : Int := nxL (if back then l.reverse else l) z
def NxRet (l : List Nat) (z : Int) (back : Bool) (w : World) (e : Ending) (w' : World) : Prop := e = .returned (.int .i64 (nxB l z back)) ∧ Below w.heap.size w w'
set_option maxRecDepth 100000 in
set_option maxHeartbeats 4000000 in
theorem c_Next {w : World} {R : Nat} {i : Int} {T : List Nod} {u : List Nat} (z : Int) (back : Bool) (hl : u.length ≤ 400) (h : Calls Tryd.prog 33 #[.pointer (some ⟨R, 0, none⟩), .int .i64 (i : Int)] w (FoRet T u w)) :
    Calls Tryd.prog 34 #[.pointer (some ⟨R, 0, none⟩), .int .i64 (i : Int), .int .i64 z, .bool back] w (NxRet (ordL T u) z back w) := by
  have H := Lib.hid h
  have hlen := ordL_len T u
  have HE : Hid (∀ L', SM (fun i => (ixA T i).1) (u.filter (isF T)) L' 0 (u.filter (isF T)).length → Srt (fun i => (ixA T i).1) L' 0 (u.filter (isF T)).length → L' ++ u.filter (isR T) = ordL T u) := fun L' h1 h2 => ordL_eq h1 h2
  obtain ⟨O, hO⟩ : ∃ O, O = ordL T u := ⟨_, rfl⟩
  rw [← hO] at hlen HE ⊢
  have hO8 : O.length ≤ 800 := by omega
  clear hO h hlen
  go_enter Tryd.func34, Tryd.ntmps34
  go_upto_region 2 with (go_at_call 33; refine (H.out).mono ?_; rintro e w1 ⟨v, L', LB, rfl, hLB, h1, h2, h3, h4⟩; have HOW : Hid (w1.ownsRow LB 3 1 v O.length (kic O)) := (by rw [HE.out L' h1 h2] at h3; exact h3); have HB := Lib.hid h4; have HLB := Lib.hid hLB; clear h1 h2 h3 h4 hLB)
  obtain ⟨_, A, c, rfl, hcap, _⟩ := RdS.of_own HOW.out
  by_cases h0 : O.length = 0
  · have hO0 : O = [] := List.eq_nil_of_length_eq_zero h0
    subst hO0
    have HX : Hid (nxB [] z back = -1) := by unfold Hid nxB nxL; cases back <;> rfl
    clear h0
    go_wp2_with fail
    go_ret
    exact ⟨ret_int HX.out.symm, HB.out⟩
  obtain ⟨g, cap, e, hcap2, hg⟩ := HOW.out.form (by omega)
  injection e with e1 e2 e3
  subst e1 e3
  obtain ⟨M, hM⟩ : ∃ M, M = (if back then O.reverse else O) := ⟨_, rfl⟩
  have hML : M.length = O.length := by rw [hM]; cases back <;> simp
  have HMX : Hid (nxB O z back = nxL M z) := by unfold Hid nxB; rw [hM]
  obtain ⟨n, hn⟩ : ∃ n, n = O.length := ⟨_, rfl⟩
  have HRV : Hid (back = true → Calls Tryd.prog 77 #[.slice (some ⟨g, 0, none⟩) n c] w1 (RvRet w1 LB (.slice (some ⟨g, 0, none⟩) n c) O.reverse)) := fun _ => by
    rw [hn]; exact c_Reverse HOW.out (by omega) (by omega)
  have HOM : Hid (back = false → M = O) := fun e => by rw [hM, e]; rfl
  have HOM2 : Hid (back = true → M = O.reverse) := fun e => by rw [hM, e]; rfl
  have HRL : Hid (O.reverse.length = n) := by unfold Hid; rw [hn]; simp
  have hgl : LB ≤ g := (own_lt HOW.out rfl).1
  rw [← hn] at h0 hcap HOW hML hO8 ⊢
  clear hM hn
  have hn0 : ¬ (n : Int) = 0 := by omega
  have HWL : Hid (w.heap.size ≤ g) := Nat.le_trans HLB.out hgl
  go_upto_if 16 with fail
  go_cut [9] (fun v9 wx => v9 = .slice (some ⟨g, 0, none⟩) n c ∧ Hid (wx.ownsRow LB 3 1 (.slice (some ⟨g, 0, none⟩) n c) n (kic M)) ∧ Hid (Below w.heap.size w wx))
  case first =>
    cases back
    · have hMO := HOM.out rfl
      go_wp2_with fail
      go_meet
      exact ⟨rfl, by rw [hMO]; exact HOW.out, HB.out⟩
    · have hMO := HOM2.out rfl
      have HR := Lib.hid (HRV.out rfl)
      go_wp2_with (go_at_call 77; refine (HR.out).mono ?_; rintro e w2 ⟨⟨uu, rfl⟩, ho2, hk2⟩; have HO2 := Lib.hid ho2; have HK2 := Lib.hid hk2; clear ho2 hk2)
      go_meet
      refine ⟨rfl, ?_, ?_⟩
      · rw [hMO]; have := HO2.out; rw [HRL.out] at this; exact this
      · exact HB.out.trans (HK2.out.below fun k hk => ⟨Nat.lt_of_lt_of_le hk HB.out.size, fun e => by injection e with e; have e2 : g = k := e; have := HWL.out; omega⟩)
  case rest =>
    obtain ⟨rfl, HO3, HB3⟩ := hcut
    have HIX := Lib.hid (c_IndexI z (RdS.of_own HO3.out) (by omega) (Nat.le_refl _))
    have hbd := fnI_bd M z
    obtain ⟨r, hr⟩ : ∃ r, r = fnI M z := ⟨_, rfl⟩
    have HRR := Lib.hid hr
    rw [← hr] at HIX hbd
    have hr1 : -1 ≤ r ∧ r < (n : Int) := by
      rcases hbd with h | ⟨h, _⟩
      · omega
      · rw [h] at hML; simp at hML; omega
    obtain ⟨k, hk⟩ : ∃ k : Nat, (r + 1) % (n : Int) = (k : Int) := ⟨((r + 1) % (n : Int)).toNat, by have := Int.emod_nonneg (r + 1) hn0; omega⟩
    have hkn : k < n := by have := Int.emod_lt_of_pos (r + 1) (show (0 : Int) < n by omega); omega
    have htm : (r + 1).tmod (n : Int) = (k : Int) := by rw [Int.tmod_eq_emod_of_nonneg (by omega), hk]
    have v1 : IntKind.i64.wrap (r + 1) = r + 1 := IntWalk.i64_in _ (by omega)
    have v2 : IntKind.i64.wrap (k : Int) = (k : Int) := IntWalk.i64_in _ (by omega)
    obtain ⟨x, hx⟩ : ∃ x, M[k]? = some x := ⟨_, List.getElem?_eq_getElem (by omega)⟩
    have hc : wc.cell? ⟨g, k, none⟩ = some (.int .i64 (x : Int)) := by
      have := HO3.out.cells rfl k _ (kic_get hx)
      rw [add_none, Nat.zero_add] at this
      exact this
    have HRES : Hid (nxB O z back = (x : Int)) := by
      unfold Hid
      rw [HMX.out]
      unfold nxL
      rw [if_neg (by intro h; rw [h] at hML; simp at hML; omega), hML, ← HRR.out, hk]
      have e : ((k : Int)).toNat = k := rfl
      rw [e, List.getD_eq_getElem?_getD, hx]; rfl
    have hki : (k : Int) < (n : Int) := by omega
    have hgs := (own_lt HO3.out rfl).2
    clear hr hbd hx hML
    go_wp2_with (go_at_call 49; refine (HIX.out).mono ?_; rintro e w' ⟨rfl, rfl⟩)
    go_ret
    exact ⟨ret_int HRES.out.symm, HB3.out⟩
end Go.Proofs.YtimlmekgapdkiaaDoor
namespace Go.Proofs.YtimlmekgapdkiaaDoor
set_option linter.unusedVariables false
set_option linter.unusedSimpArgs false
open Go.RowKit Go.Cas

theorem nd_at {O : List Nat} (h : O.Nodup) {i j x : Nat} (hi : O[i]? = some x) (hj : O[j]? = some x) : i = j := by
  have h1 := (List.getElem?_eq_some_iff.1 hi)
  have h2 := (List.getElem?_eq_some_iff.1 hj)
  obtain ⟨a, ha⟩ := h1
  obtain ⟨b, hb⟩ := h2
  have hp := List.pairwise_iff_getElem.1 h
  rcases Nat.lt_trichotomy i j with q | q | q
  · exact absurd (ha.trans hb.symm) (hp i j a b q)
  · exact q
  · exact absurd (hb.trans ha.symm) (hp j i b a q)
theorem fnI_nth {O : List Nat} (h : O.Nodup) {k x : Nat} (hk : O[k]? = some x) : fnI O (x : Int) = (k : Int) :=
  fnI_hit O x k x hk rfl (fun j q hj hq e => by
    have e' : q = x := by omega
    subst e'
    have := nd_at h hq hk
    omega)
theorem nx_first {O : List Nat} {x : Nat} (h0 : O[0]? = some x) : nxB O (-1) false = (x : Int) := by
  have h1 : fnI O (-1) = -1 := fnI_none O (-1) (fun j q _ => by omega)
  have hl := (List.getElem?_eq_some_iff.1 h0).1
  unfold nxB nxL
  simp only [Bool.false_eq_true, if_false]
  rw [if_neg (by intro h; rw [h] at hl; simp at hl), h1]
  have e : ((-1 + 1 : Int) % (O.length : Int)).toNat = 0 := by simp
  rw [e, List.getD_eq_getElem?_getD, h0]; rfl
theorem nx_none : nxB [] (-1) false = -1 := rfl
theorem nx_on {O : List Nat} (h : O.Nodup) {i x y : Nat} (hi : O[i]? = some x) (hy : O[(i + 1) % O.length]? = some y) : nxB O (x : Int) false = (y : Int) := by
  have hl := (List.getElem?_eq_some_iff.1 hi).1
  unfold nxB nxL
  simp only [Bool.false_eq_true, if_false]
  rw [if_neg (by intro h; rw [h] at hl; simp at hl), fnI_nth h hi]
  have e : (((i : Int) + 1) % (O.length : Int)).toNat = (i + 1) % O.length := by
    have : ((i : Int) + 1) % (O.length : Int) = (((i + 1) % O.length : Nat) : Int) := by rw [Int.natCast_emod]; rfl
    rw [this]; rfl
  rw [e, List.getD_eq_getElem?_getD, hy]; rfl
theorem nx_back {O : List Nat} (h : O.Nodup) {i x y : Nat} (hi : O[i]? = some x) (hy : O[(i + 1) % O.length]? = some y) : nxB O (y : Int) true = (x : Int) := by
  have hl := (List.getElem?_eq_some_iff.1 hi).1
  obtain ⟨n, hn⟩ : ∃ n, n = O.length := ⟨_, rfl⟩
  rw [← hn] at hl hy
  have hrl : O.reverse.length = n := by rw [hn]; simp
  have hnd : O.reverse.Nodup := List.pairwise_reverse.2 (List.Pairwise.imp (fun e => Ne.symm e) h)
  have hx' : O.reverse[n - 1 - i]? = some x := by
    rw [List.getElem?_reverse (by omega), ← hi]
    congr 1; omega
  unfold nxB
  rw [if_pos rfl]
  by_cases hi1 : i + 1 < n
  · rw [Nat.mod_eq_of_lt hi1] at hy
    have hy' : O.reverse[n - 2 - i]? = some y := by
      rw [List.getElem?_reverse (by omega), ← hy]
      congr 1; omega
    have := nx_on hnd (i := n - 2 - i) (x := y) (y := x) hy' (by rw [hrl, Nat.mod_eq_of_lt (by omega), ← hx']; congr 1; omega)
    exact this
  · have e : i + 1 = n := by omega
    rw [e, Nat.mod_self] at hy
    have hy' : O.reverse[n - 1]? = some y := by
      rw [List.getElem?_reverse (by omega), ← hy]
      congr 1; omega
    have := nx_on hnd (i := n - 1) (x := y) (y := x) hy' (by rw [hrl, show n - 1 + 1 = n by omega, Nat.mod_self, ← hx']; congr 1; omega)
    exact this
end Go.Proofs.YtimlmekgapdkiaaDoor
