/- the tree: clones; where a name stands among attributes; the tree: where a name stands among attributes; the tree: attributes are set -/
import Derived.Test.YtimlmekgapdkiaaGreatDoorTme
namespace Go.Proofs.YtimlmekgapdkiaaGreatDoor
set_option linter.unusedVariables false
set_option linter.unusedSimpArgs false
open Go.RowKit Go.Cas

theorem own_empty (w : World) (B : Nat) (t : TypeId) (size : Nat) (hB : B ≤ w.heap.size) : (w.alloc (.cells #[] t)).ownsRow B t size (.slice (some ⟨w.heap.size, 0, none⟩) 0 0) 0 [] :=
  ⟨by simp, .inr ⟨w.heap.size, 0, #[], rfl, hB, Bk.new w t #[], Nat.le_refl _, Nat.zero_le _, by simp, by simp⟩⟩
theorem eqn_A (A : Option Addr) (n c : Nat) (w : World) : (binOp .eql 37 (.slice A n c) (.slice none 0 0)).run Tryz.prog w = .ok (.bool A.isNone) w := by
  cases A <;> kernel_rfl
theorem inf_A : (Tryz.prog.info? 79).map (fun i => (i.zero, i.size, i.bytes)) = some (some (.agg #[.string ByteArray.empty, .string ByteArray.empty]), 2, 32) := by kernel_rfl
def ClRetA (w : World) (n : Nat) (xs : List Value) (e : Ending) (w' : World) : Prop := ∃ v, e = .returned v ∧ w'.ownsRow w.heap.size 79 2 v n xs ∧ Below w.heap.size w w'
set_option maxRecDepth 100000 in
set_option maxHeartbeats 4000000 in
theorem c_CloneA {w : World} {v : Value} {n lim : Nat} {xs : List Value} (h : RdS w lim 2 v n xs) (h1 : ∀ u ∈ xs, u.oneCell' = true) (hn : n ≤ 1000000000) (hlim : lim ≤ w.heap.size) : Calls Tryz.prog 46 #[v] w (ClRetA w n xs) := by
  obtain ⟨i0, hi0, hz0, hz1, hz2⟩ := info_parts inf_A
  obtain ⟨hlen, A, c, rfl, hnc, hcc⟩ := h
  rcases A with _ | A
  · have h0 : n = 0 := by
      rcases Nat.eq_zero_or_pos n with h0 | h0
      · exact h0
      · obtain ⟨g, o, e, _⟩ := hcc h0
        cases e
    subst h0
    obtain rfl : xs = [] := List.eq_nil_of_length_eq_zero (by omega)
    have q1 := eqn_A none 0 c
    simp only [Option.isNone_none] at q1
    clear hcc hnc hlen
    go_enter Tryz.func46, Tryz.ntmps46
    go_wp2_with fail
    go_ret
    exact ⟨_, rfl, World.ownsRow_nil _ _ _ _, Below.refl _ _⟩
  · have hcells : ∀ j u, xs[j]? = some u → (w.alloc (.cells #[] 79)).cell? (A.add j) = some u := by
      intro j u hj
      have hj2 := (List.getElem?_eq_some_iff.1 hj).1
      obtain ⟨g, o, e, hg, hc⟩ := hcc (by omega)
      injection e with e
      subst e
      rw [add_none]
      exact ((bl_alloc (Below.refl _ w) _).cell (p := ⟨g, o + j, none⟩) (by show g < w.heap.size; omega)).trans (hc j u hj)
    have HC := Lib.hid hcells
    have HOE := Lib.hid (own_empty w w.heap.size 79 2 (Nat.le_refl _))
    have q1 := eqn_A (some A) n c
    simp only [Option.isNone_some] at q1
    have HLN := Lib.hid hlen
    have HN1 := Lib.hid hn
    have HON := Lib.hid h1
    clear hcc hcells hlen hn h1
    go_enter Tryz.func46, Tryz.ntmps46
    go_wp2_with (at_builtin; refine wpList_append_own_at _ rfl _ _ 37 rfl w.heap.size 79 i0 (.agg #[.string ByteArray.empty, .string ByteArray.empty]) 2 32 Tryz.underlying37 hi0 hz0 hz1 hz2 rfl (by omega) (.slice (some ⟨w.heap.size, 0, none⟩) 0 0) 0 [] rfl HOE.out A n c xs rfl HLN.out HC.out HON.out (by have := HN1.out; unfold maxLen; omega) (by have := HN1.out; omega) (by simp) ?_; intro v' w' hown hgrow hnil hat; have HOWN := Lib.hid hown; have HGR := Lib.hid hgrow; clear hown hgrow hnil hat)
    go_ret
    have := HOWN.out
    rw [Nat.zero_add, List.nil_append] at this
    refine ⟨_, rfl, this, ?_⟩
    exact (bl_alloc (Below.refl _ w) _).grown HGR.out (by simp) (fun k hk => by simp [Value.ownBlock] at hk; omega)
theorem eqn_I (A : Option Addr) (n c : Nat) (w : World) : (binOp .eql 38 (.slice A n c) (.slice none 0 0)).run Tryz.prog w = .ok (.bool A.isNone) w := by
  cases A <;> kernel_rfl
theorem inf_I : (Tryz.prog.info? 3).map (fun i => (i.zero, i.size, i.bytes)) = some (some (.int .i64 0), 1, 8) := by kernel_rfl
def ClRetI (w : World) (n : Nat) (xs : List Value) (e : Ending) (w' : World) : Prop := ∃ v, e = .returned v ∧ w'.ownsRow w.heap.size 3 1 v n xs ∧ Below w.heap.size w w'
set_option maxRecDepth 100000 in
set_option maxHeartbeats 4000000 in
theorem c_CloneI {w : World} {v : Value} {n lim : Nat} {xs : List Value} (h : RdS w lim 1 v n xs) (h1 : ∀ u ∈ xs, u.oneCell' = true) (hn : n ≤ 1000000000) (hlim : lim ≤ w.heap.size) : Calls Tryz.prog 47 #[v] w (ClRetI w n xs) := by
  obtain ⟨i0, hi0, hz0, hz1, hz2⟩ := info_parts inf_I
  obtain ⟨hlen, A, c, rfl, hnc, hcc⟩ := h
  rcases A with _ | A
  · have h0 : n = 0 := by
      rcases Nat.eq_zero_or_pos n with h0 | h0
      · exact h0
      · obtain ⟨g, o, e, _⟩ := hcc h0
        cases e
    subst h0
    obtain rfl : xs = [] := List.eq_nil_of_length_eq_zero (by omega)
    have q1 := eqn_I none 0 c
    simp only [Option.isNone_none] at q1
    clear hcc hnc hlen
    go_enter Tryz.func47, Tryz.ntmps47
    go_wp2_with fail
    go_ret
    exact ⟨_, rfl, World.ownsRow_nil _ _ _ _, Below.refl _ _⟩
  · have hcells : ∀ j u, xs[j]? = some u → (w.alloc (.cells #[] 3)).cell? (A.add j) = some u := by
      intro j u hj
      have hj2 := (List.getElem?_eq_some_iff.1 hj).1
      obtain ⟨g, o, e, hg, hc⟩ := hcc (by omega)
      injection e with e
      subst e
      rw [add_none]
      exact ((bl_alloc (Below.refl _ w) _).cell (p := ⟨g, o + j, none⟩) (by show g < w.heap.size; omega)).trans (hc j u hj)
    have HC := Lib.hid hcells
    have HOE := Lib.hid (own_empty w w.heap.size 3 1 (Nat.le_refl _))
    have q1 := eqn_I (some A) n c
    simp only [Option.isNone_some] at q1
    have HLN := Lib.hid hlen
    have HN1 := Lib.hid hn
    have HON := Lib.hid h1
    clear hcc hcells hlen hn h1
    go_enter Tryz.func47, Tryz.ntmps47
    go_wp2_with (at_builtin; refine wpList_append_own_at _ rfl _ _ 38 rfl w.heap.size 3 i0 (.int .i64 0) 1 8 Tryz.underlying38 hi0 hz0 hz1 hz2 rfl (by omega) (.slice (some ⟨w.heap.size, 0, none⟩) 0 0) 0 [] rfl HOE.out A n c xs rfl HLN.out HC.out HON.out (by have := HN1.out; unfold maxLen; omega) (by have := HN1.out; omega) (by simp) ?_; intro v' w' hown hgrow hnil hat; have HOWN := Lib.hid hown; have HGR := Lib.hid hgrow; clear hown hgrow hnil hat)
    go_ret
    have := HOWN.out
    rw [Nat.zero_add, List.nil_append] at this
    refine ⟨_, rfl, this, ?_⟩
    exact (bl_alloc (Below.refl _ w) _).grown HGR.out (by simp) (fun k hk => by simp [Value.ownBlock] at hk; omega)
theorem one_atc (l : List (ByteArray × ByteArray)) : ∀ u ∈ atc l, u.oneCell' = true := by
  intro u hu
  obtain ⟨x, _, hx⟩ := List.mem_flatMap.1 hu
  simp at hx
  rcases hx with rfl | rfl <;> rfl
theorem one_kic (l : List Nat) : ∀ u ∈ kic l, u.oneCell' = true := by
  intro u hu
  obtain ⟨x, _, rfl⟩ := List.mem_map.1 hu
  rfl
theorem c_Kids {w : World} {B R : Nat} {F : Nat → Prop} {T : List Nod} {D : List (Value × List Nod)} {i : Nat} {x : Nod} (h : TS B R T D F w) (hT : T.length ≤ 400) (hx : T[i]? = some x) (hk : x.ki.length ≤ 1000000) :
    Calls Tryz.prog 17 #[.pointer (some ⟨R, 0, none⟩), .int .i64 (i : Int)] w (ClRetI w x.ki.length (kic x.ki)) := by
  obtain ⟨L, cap, uv, Z, M, h1, hM, _⟩ := h.ns
  obtain ⟨y, hy, rfl⟩ := nv_get hM hx
  have hl : M.length ≤ 400 := by rw [← hM] at hT; simpa using hT
  have hi := (List.getElem?_eq_some_iff.1 hy).1
  have HI := Lib.hid (c_is_yes h1 i hi hl)
  obtain ⟨g0, _⟩ := h1.heads
  have hr := h1.ltR
  have hrL := h1.ltL
  obtain ⟨_, _, _, a5⟩ := h1.cell hy
  have hii : (i : Int) < (M.length : Int) := by omega
  have hrd := (h1.rd y (List.mem_of_getElem? hy)).2.toS (fun k hz => (h1.z k hz).2.1)
  have HC := Lib.hid (c_CloneI hrd (one_kic _) (by omega) (Nat.le_refl _))
  clear h h1 hM hx hy hrd hk
  go_enter Tryz.func17, Tryz.ntmps17
  go_wp2_with (first | (go_at_call 45; refine (HI.out).mono ?_; rintro e w' ⟨rfl, rfl⟩) | (go_at_call 47; refine (HC.out).mono ?_; rintro e w' ⟨v, rfl, h1, h2⟩; have H1 := Lib.hid h1; have H2 := Lib.hid h2; clear h1 h2))
  go_ret
  exact ⟨_, rfl, H1.out, H2.out⟩
end Go.Proofs.YtimlmekgapdkiaaGreatDoor
namespace Go.Proofs.YtimlmekgapdkiaaGreatDoor
set_option linter.unusedVariables false
set_option linter.unusedSimpArgs false
open Go.RowKit Go.Cas

/-- where a name stands -/
def fnd : List (ByteArray × ByteArray) → ByteArray → Int
  | [], _ => -1
  | p :: r, s => if p.1 = s then 0 else if fnd r s < 0 then -1 else fnd r s + 1
theorem fnd_hit : ∀ (l : List (ByteArray × ByteArray)) (s : ByteArray) (k : Nat) (p : ByteArray × ByteArray), l[k]? = some p → p.1 = s → (∀ j q, j < k → l[j]? = some q → q.1 ≠ s) → fnd l s = k := by
  intro l
  induction l with
  | nil => intro s k p h; simp at h
  | cons a l ih =>
    intro s k p h hp hn
    cases k with
    | zero => simp at h; subst h; simp [fnd, hp]
    | succ k =>
      have h0 := hn 0 a (by omega) rfl
      have := ih s k p (by simpa using h) hp (fun j q hj hq => hn (j + 1) q (by omega) (by simpa using hq))
      simp only [fnd, if_neg h0, this]
      rw [if_neg (by omega)]; omega
theorem fnd_miss : ∀ (l : List (ByteArray × ByteArray)) (s : ByteArray), (∀ (j : Nat) (q : ByteArray × ByteArray), l[j]? = some q → q.1 ≠ s) → fnd l s = -1 := by
  intro l
  induction l with
  | nil => intro s _; rfl
  | cons a l ih =>
    intro s hn
    have h0 := hn 0 a rfl
    have := ih s (fun j q hq => hn (j + 1) q (by simpa using hq))
    simp only [fnd, if_neg h0, this]
    rfl
theorem fnd_spec : ∀ (l : List (ByteArray × ByteArray)) (s : ByteArray), (fnd l s = -1 ∧ ∀ p ∈ l, p.1 ≠ s) ∨ (∃ k : Nat, fnd l s = (k : Int) ∧ ∃ p, l[k]? = some p ∧ p.1 = s) := by
  intro l
  induction l with
  | nil => intro s; exact .inl ⟨rfl, by simp⟩
  | cons a l ih =>
    intro s
    by_cases h0 : a.1 = s
    · exact .inr ⟨0, by simp [fnd, h0], a, rfl, h0⟩
    · rcases ih s with ⟨h1, h2⟩ | ⟨k, h1, p, h2, h3⟩
      · refine .inl ⟨by simp [fnd, h0, h1], fun p hp => ?_⟩
        rcases List.mem_cons.1 hp with rfl | hp
        · exact h0
        · exact h2 p hp
      · refine .inr ⟨k + 1, ?_, p, by simpa using h2, h3⟩
        simp only [fnd, if_neg h0, h1]
        rw [if_neg (by omega)]; omega
theorem beq_str (a s : ByteArray) : (a.toList == s.toList) = decide (a = s) := by
  rw [Bool.eq_iff_iff, beq_iff_eq, decide_eq_true_eq, ByteArray.toList_eq, ByteArray.toList_eq]
  constructor
  · intro h
    cases a; cases s
    simp at h
    simp [h]
  · intro h; rw [h]
theorem c_find1 {w : World} {b : Nat} {a v s : ByteArray} (hb : w.cell? ⟨b, 0, none⟩ = some (.string s)) (hl : b < w.heap.size) :
    Calls Tryz.prog 79 #[.agg #[.string a, .string v], .pointer (some ⟨b, 0, none⟩)] w fun e w' => e = .returned (.bool (decide (a = s))) ∧ Below w.heap.size w w' := by
  go_enter Tryz.func79, Tryz.ntmps79
  go_wp2_with fail
  go_ret
  exact ⟨ret_bool (beq_str _ _), bl_alloc (Below.refl _ _) _⟩
theorem rd_at {w : World} {lim n k : Nat} {A : Option Addr} {c : Nat} {l : List (ByteArray × ByteArray)} {p : ByteArray × ByteArray} (h : RdS w lim 2 (.slice A n c) n (atc l)) (hp : l[k]? = some p) : ∃ g o, A = some ⟨g, o, none⟩ ∧ g < lim ∧ ∀ w', Below lim w w' → (w'.cell? ⟨g, o + k * 2, none⟩ = some (.string p.1) ∧ w'.cell? ⟨g, o + k * 2 + 1, none⟩ = some (.string p.2)) := by
  have hl : l.length = n := by have := h.1; rw [atc_len] at this; omega
  have hk := (List.getElem?_eq_some_iff.1 hp).1
  obtain ⟨_, A', c', e, _, hc⟩ := h
  injection e with e1 _ e2
  subst e1 e2
  obtain ⟨g, o, e, hg, hcell⟩ := hc (by omega)
  refine ⟨g, o, e, hg, fun w' hb => ?_⟩
  have key : ∀ j, j < 2 → ∀ u, ([.string p.1, .string p.2] : List Value)[j]? = some u → w'.cell? ⟨g, o + k * 2 + j, none⟩ = some u := fun j hj u hu => by
    have := hcell (k * 2 + j) u (by unfold atc; rw [flat_get (fun p : ByteArray × ByteArray => ([.string p.1, .string p.2] : List Value)) 2 (fun _ => rfl) l k j p hp hj]; exact hu)
    rw [← Nat.add_assoc] at this
    exact (hb.cell (p := ⟨g, _, none⟩) hg).trans this
  exact ⟨key 0 (by omega) _ rfl, key 1 (by omega) _ rfl⟩
set_option maxRecDepth 100000 in
set_option maxHeartbeats 4000000 in
theorem c_IndexFunc {w : World} {lim n b : Nat} {v : Value} {l : List (ByteArray × ByteArray)} {s : ByteArray} (h : RdS w lim 2 v n (atc l)) (hn : n ≤ 1000000000) (hlim : lim ≤ w.heap.size) (hb : w.cell? ⟨b, 0, none⟩ = some (.string s)) (hl : b < w.heap.size) :
    Calls Tryz.prog 78 #[v, .func (.func 79) #[] #[.pointer (some ⟨b, 0, none⟩)]] w fun e w' => e = .returned (.int .i64 (fnd l s)) ∧ Below w.heap.size w w' := by
  have H := Lib.hid h
  have hll : l.length = n := by have := h.1; rw [atc_len] at this; omega
  obtain ⟨_, A, c, rfl, _, _⟩ := h
  have HL := Lib.hid hll
  have HB := Lib.hid hb
  clear hll hb
  go_enter Tryz.func78, Tryz.ntmps78
  go_wp2_with fail
  go_loopw [8] (fun i wr => ∃ (k : Nat), k ≤ n ∧ i = .int .i64 k ∧ Hid (∀ j q, j < k → l[j]? = some q → q.1 ≠ s) ∧ Hid (Below w.heap.size w wr)) (fun i _ => n - (intOf i).toNat)
  case atStart => exact ⟨0, by omega, rfl, fun j q hj => by omega, Below.refl _ _⟩
  case round =>
    obtain ⟨k, hk, rfl, HA, HBL⟩ := hrel
    by_cases hlt : k < n
    · have hik : (k : Int) < (n : Int) := by omega
      obtain ⟨⟨pa, pv⟩, hp⟩ : ∃ p, l[k]? = some p := ⟨_, List.getElem?_eq_getElem (by have := HL.out; omega)⟩
      have HP := Lib.hid hp
      obtain ⟨g, o, rfl, hg, hc⟩ := rd_at H.out hp
      obtain ⟨d0, d1⟩ := hc wr (HBL.out.mono hlim)
      have hbr : wr.cell? ⟨b, 0, none⟩ = some (.string s) := (HBL.out.cell (p := ⟨b, 0, none⟩) hl).trans HB.out
      have hlr : b < wr.heap.size := Nat.lt_of_lt_of_le hl HBL.out.size
      have HC := Lib.hid (c_find1 (a := pa) (v := pv) hbr hlr)
      by_cases he : pa = s
      · have HF : Hid (fnd l s = (k : Int)) := fnd_hit l s k _ HP.out he HA.out
        rw [decide_eq_true he] at HC
        clear hp hc hbr hlr he
        go_wp2_with ((go_at_call 79; refine (HC.out).mono ?_; rintro e w' ⟨rfl, hv⟩; have HV := Lib.hid hv; clear hv))
        go_ret
        exact ⟨ret_int HF.out.symm, bl_trans HBL.out HV.out⟩
      · have HE := Lib.hid he
        rw [decide_eq_false he] at HC
        clear hp hc hbr hlr he
        go_wp2_with ((go_at_call 79; refine (HC.out).mono ?_; rintro e w' ⟨rfl, hv⟩; have HV := Lib.hid hv; clear hv))
        go_roundw
        case rel =>
          refine ⟨k + 1, by omega, by go_num, fun j q hj hq => ?_, bl_trans HBL.out HV.out⟩
          by_cases hjk : j = k
          · subst hjk
            have := HP.out
            rw [hq] at this
            rw [Option.some.inj this]; exact HE.out
          · exact HA.out j q (by omega) hq
        case measure => simp [intOf]; omega
    · obtain rfl : k = n := by omega
      have HF : Hid (fnd l s = -1) := fnd_miss l s (fun j q hq => HA.out j q (by have := (List.getElem?_eq_some_iff.1 hq).1; have := HL.out; omega) hq)
      go_wp2_with fail
      go_ret
      exact ⟨ret_int HF.out.symm, HBL.out⟩
theorem c_find {w : World} {lim n : Nat} {v : Value} {l : List (ByteArray × ByteArray)} {s : ByteArray} (h : RdS w lim 2 v n (atc l)) (hn : n ≤ 1000000000) (hlim : lim ≤ w.heap.size) :
    Calls Tryz.prog 61 #[v, .string s] w fun e w' => e = .returned (.int .i64 (fnd l s)) ∧ Below w.heap.size w w' := by
  have hbl : Below w.heap.size w (w.alloc (.cells #[.string s] 9)) := bl_alloc (Below.refl _ _) _
  have HBL := Lib.hid hbl
  have HC := Lib.hid (c_IndexFunc (b := w.heap.size) (s := s) (h.below' hbl hlim) hn (Nat.le_trans hlim (by simp)) (by simp) (by simp))
  clear h hbl hn hlim
  go_enter Tryz.func61, Tryz.ntmps61
  go_wp2_with ((go_at_call 78; refine (HC.out).mono ?_; rintro e w' ⟨rfl, hv⟩; have HV := Lib.hid hv; clear hv))
  go_ret
  exact ⟨rfl, bl_trans HBL.out HV.out⟩
end Go.Proofs.YtimlmekgapdkiaaGreatDoor
namespace Go.Proofs.YtimlmekgapdkiaaGreatDoor
set_option linter.unusedVariables false
set_option linter.unusedSimpArgs false
open Go.RowKit Go.Cas

/-- element -/
theorem c_element {w : World} {B R : Nat} {F : Nat → Prop} {T : List Nod} {D : List (Value × List Nod)} {i : Nat} {x : Nod} (h : TS B R T D F w) (hT : T.length ≤ 400) (hx : T[i]? = some x) (hk : x.k = 2) :
    Calls Tryz.prog 60 #[.pointer (some ⟨R, 0, none⟩), .int .i64 (i : Int)] w fun e w' => e = .returned .nilIface ∧ w = w' := by
  obtain ⟨L, cap, uv, Z, M, h1, hM, _⟩ := h.ns
  obtain ⟨y, hy, rfl⟩ := nv_get hM hx
  have hl : M.length ≤ 400 := by rw [← hM] at hT; simpa using hT
  have hi := (List.getElem?_eq_some_iff.1 hy).1
  have HI := Lib.hid (c_is_yes h1 i hi hl)
  obtain ⟨g0, _⟩ := h1.heads
  have hr := h1.ltR
  have hrL := h1.ltL
  obtain ⟨⟨a0, _, _⟩, _⟩ := h1.cell hy
  rw [hk] at a0
  have hii : (i : Int) < (M.length : Int) := by omega
  clear h h1 hM hx hy hk
  go_enter Tryz.func60, Tryz.ntmps60
  go_wp2_with (go_at_call 45; refine (HI.out).mono ?_; rintro e w' ⟨rfl, rfl⟩)
  go_ret
  exact ⟨rfl, rfl⟩
def ErrR (p : Nat → Addr) (k : Nat) (w : World) (e : Ending) (w' : World) : Prop := e = .returned (errV p k) ∧ w = w'
theorem c_element_kind {w : World} {B R : Nat} {F : Nat → Prop} {T : List Nod} {D : List (Value × List Nod)} {i : Nat} {x : Nod} {p : Nat → Addr} (h : TS B R T D F w) (hG : GE w B p) (hT : T.length ≤ 400) (hx : T[i]? = some x) (hk : x.k ≠ 2) :
    Calls Tryz.prog 60 #[.pointer (some ⟨R, 0, none⟩), .int .i64 (i : Int)] w (ErrR p 5 w) := by
  obtain ⟨L, cap, uv, Z, M, h1, hM, _⟩ := h.ns
  obtain ⟨y, hy, rfl⟩ := nv_get hM hx
  have hl : M.length ≤ 400 := by rw [← hM] at hT; simpa using hT
  have hi := (List.getElem?_eq_some_iff.1 hy).1
  have HI := Lib.hid (c_is_yes h1 i hi hl)
  obtain ⟨g0, _⟩ := h1.heads
  have hr := h1.ltR
  have hrL := h1.ltL
  obtain ⟨⟨a0, _, _⟩, _⟩ := h1.cell hy
  have hk2 : (y.x.k != 2) = true := by simpa using hk
  obtain ⟨kk, hkk⟩ : ∃ kk, kk = y.x.k := ⟨_, rfl⟩
  rw [← hkk] at a0 hk hk2
  have hii : (i : Int) < (M.length : Int) := by omega
  have e1 := hG.place
  have e2 : 2 < w.heap.size := by have := hG.lt; omega
  clear h h1 hM hx hy hkk hG
  go_enter Tryz.func60, Tryz.ntmps60
  go_wp2_with (go_at_call 45; refine (HI.out).mono ?_; rintro e w' ⟨rfl, rfl⟩)
  go_ret
  exact ⟨rfl, rfl⟩
theorem c_element_no {w : World} {B R : Nat} {F : Nat → Prop} {T : List Nod} {D : List (Value × List Nod)} {a : Int} {p : Nat → Addr} (h : TS B R T D F w) (hG : GE w B p) (hT : T.length ≤ 400) (ha : a < 0 ∨ (T.length : Int) ≤ a) :
    Calls Tryz.prog 60 #[.pointer (some ⟨R, 0, none⟩), .int .i64 a] w (ErrR p 4 w) := by
  obtain ⟨L, cap, uv, Z, M, h1, hM, _⟩ := h.ns
  have hlM : M.length = T.length := by rw [← hM]; simp
  have HI := Lib.hid (c_is_no h1 a (by omega) (by omega))
  have e1 := hG.node
  have e2 : 1 < w.heap.size := by have := hG.lt; omega
  clear h h1 hM hG hlM ha
  go_enter Tryz.func60, Tryz.ntmps60
  go_wp2_with (go_at_call 45; refine (HI.out).mono ?_; rintro e w' ⟨rfl, rfl⟩)
  go_ret
  exact ⟨rfl, rfl⟩
/-- attributes as they were -/
def putV (y : NV) (v : Value) (l : List (ByteArray × ByteArray)) : NV := ⟨{ y.x with at_ := l }, v, y.vk⟩
theorem putV_cells (y : NV) (v : Value) (l : List (ByteArray × ByteArray)) : (nvc y).set 3 v = nvc (putV y v l) := rfl
set_option maxRecDepth 100000 in
set_option maxHeartbeats 4000000 in
theorem c_attrs1 {w : World} {B R L cap b0 b1 b2 i : Nat} {uv v0 : Value} {l0 : List (ByteArray × ByteArray)} {Z : Nat → Prop} {M : List NV} {y : NV} (h : NS B R L cap uv Z M w) (hy : M[i]? = some y) (hM : M.length ≤ 400)
    (hb0 : Bk w b0 23 #[.pointer (some ⟨R, 0, none⟩)]) (hb1 : Bk w b1 3 #[.int .i64 (i : Int)]) (hb2 : Bk w b2 37 #[v0]) (hv : RdZ w Z 2 v0 l0.length (atc l0)) :
    Calls Tryz.prog 80 #[.pointer (some ⟨b2, 0, none⟩), .pointer (some ⟨b0, 0, none⟩), .pointer (some ⟨b1, 0, none⟩)] w fun e w3 => (∃ u, e = .returned u) ∧ NS B R L cap uv Z (M.set i (putV y v0 l0)) w3 ∧ Kept w w3 (fun k => k = R ∨ k = L) := by
  obtain ⟨w2, hw2⟩ : ∃ w2, w2 = w.drew := ⟨_, rfl⟩
  have h2 : NS B R L cap uv Z M w2 := by rw [hw2]; exact h.below (bl_drew (Below.refl _ w))
  have H := Lib.hid h2
  obtain ⟨g0, g1, g2, g3⟩ := h2.heads
  have hr := h2.ltR
  have hrL := h2.ltL
  have e0 : w2.cell? ⟨b0, 0, none⟩ = some (.pointer (some ⟨R, 0, none⟩)) := by rw [hw2]; exact hb0.cell 0
  have e1 : w2.cell? ⟨b1, 0, none⟩ = some (.int .i64 (i : Int)) := by rw [hw2]; exact hb1.cell 0
  have e2 : w2.cell? ⟨b2, 0, none⟩ = some v0 := by rw [hw2]; exact hb2.cell 0
  obtain ⟨_, a3, _, _⟩ := h2.cell hy
  have f3 := h2.free (i * 6 + 3)
  have hi := (List.getElem?_eq_some_iff.1 hy).1
  have hii : (i : Int) < (M.length : Int) := by omega
  have h0i : 0 ≤ (i : Int) := by omega
  have hv2 : RdZ w2 Z 2 v0 l0.length (atc l0) := hv.keep (fun k _ => by rw [hw2]; rfl) (fun _ h => h)
  have HV := Lib.hid hv2
  have HY := Lib.hid hy
  have HW2 := Lib.hid hw2
  obtain ⟨_, A, c, rfl, _, _⟩ := hv
  obtain ⟨va, hva⟩ : ∃ va, va = y.va := ⟨_, rfl⟩
  rw [← hva] at a3
  have hy2 := h2.rd y (List.mem_of_getElem? hy)
  rw [← hva] at hy2
  have HY2 := Lib.hid hy2
  obtain ⟨⟨_, A2, c2, rfl, _, _⟩, _⟩ := hy2
  clear h h2 hb0 hb1 hb2 hv2 hy hw2 hva
  go_enter Tryz.func80, Tryz.ntmps80
  go_wp2_with fail
  refine wp_region_still_tail 8 (by kernel_rfl) (by kernel_rfl) ?_
  simp only [List.take_succ_cons, List.take_zero, List.drop_succ_cons, List.drop_zero]
  change wpStill _ _ (World.drew _) _ _ _
  rw [← HW2.out]
  repeat still_step
  refine wpStill_nil ?_
  change wpList _ _ _ _ _ (World.drew _)
  rw [← HW2.out]
  go_wp2_with fail
  go_end0
  refine ⟨⟨_, rfl⟩, ?_, ?_⟩
  · exact H.out.setN HY.out 3 (by omega) _ rfl ⟨HV.out, (H.out.rd y (List.mem_of_getElem? HY.out)).2⟩
  · rw [HW2.out]; exact ((Kept.refl w _).drew).set_ L _ (fun _ => .inr rfl) _
theorem enter_attrs1 (cs : Array Value) (w : World) : (callFunc 80 cs).run Tryz.prog w = .ok (.enter 80 cs) w := by kernel_rfl
theorem set_back {T : List Nod} {i : Nat} {x y : Nod} (h : T[i]? = some x) : (T.set i y).set i x = T := by
  rw [List.set_set]
  apply List.ext_getElem?
  intro j
  rw [List.getElem?_set]
  split
  · rename_i hi; subst hi; rw [h]; have := (List.getElem?_eq_some_iff.1 h).1; simp [this]
  · rfl
theorem u_attrs {w : World} {B R b0 b1 b2 i : Nat} {v0 : Value} {Z : Nat → Prop} {T : List Nod} {x : Nod} {l' : List (ByteArray × ByteArray)} (hx : T[i]? = some x) (hT : T.length ≤ 400)
    (hb0 : Bk w b0 23 #[.pointer (some ⟨R, 0, none⟩)]) (hb1 : Bk w b1 3 #[.int .i64 (i : Int)]) (hb2 : Bk w b2 37 #[v0]) (hv : RdZ w Z 2 v0 x.at_.length (atc x.at_)) (z0 : Z b0) (z1 : Z b1) (z2 : Z b2) :
    UOk B R Z w (.func (.func 80) #[] #[.pointer (some ⟨b2, 0, none⟩), .pointer (some ⟨b0, 0, none⟩), .pointer (some ⟨b1, 0, none⟩)]) (T.set i { x with at_ := l' }) T := by
  refine ⟨_, _, rfl, enter_attrs1 _, fun w2 L2 cap2 uv2 Z2 M2 h1 h2 h3 => ?_⟩
  have hi := (List.getElem?_eq_some_iff.1 hx).1
  obtain ⟨y, hy, hyx⟩ := nv_get h3 (List.getElem?_set_self (by simpa using hi))
  have hl : M2.length ≤ 400 := by
    have := congrArg List.length h3
    simp at this; omega
  have hv2 : RdZ w2 Z2 2 v0 x.at_.length (atc x.at_) := hv.keep (fun k hz => (h1 k hz).1) (fun k hz => (h1 k hz).2)
  refine (c_attrs1 h2 hy hl ((h1 b0 z0).1.trans hb0) ((h1 b1 z1).1.trans hb1) ((h1 b2 z2).1.trans hb2) hv2).mono fun e w3 ⟨q1, q2, q3⟩ => ⟨q1, _, _, q2, ?_, q3⟩
  rw [List.map_set, h3]
  have : (putV y v0 x.at_).x = x := by
    show ({ y.x with at_ := x.at_ } : Nod) = x
    rw [hyx]
  rw [this]
  exact set_back hx
/-- attributes are put -/
def AtRet (B R : Nat) (T : List Nod) (T0 : List Nod) (D : List (Value × List Nod)) (F : Nat → Prop) (v' : Value) (w : World) (e : Ending) (w' : World) : Prop :=
  (∃ u, e = .returned u) ∧ ∃ u F', TS B R T ((u, T0) :: D) F' w' ∧ (∀ k, k < w.heap.size → F' k → F k ∨ v'.ownBlock = some k) ∧ Kept w w' F
def AtMid (B R L cap : Nat) (uv : Value) (Z : Nat → Prop) (M : List NV) (T : List Nod) (D : List (Value × List Nod)) (F : Nat → Prop) (va : Value) (b i : Nat) (w wx : World) : Prop :=
  TSi B R L cap uv Z M T D F wx ∧ Below w.heap.size w wx ∧ Bk wx b 23 #[.pointer (some ⟨R, 0, none⟩)] ∧ Bk wx (b + 1) 3 #[.int .i64 (i : Int)] ∧ Bk wx (b + 2) 37 #[va]
set_option maxRecDepth 100000 in
set_option maxHeartbeats 8000000 in
theorem c_attrs {w : World} {B R i : Nat} {F : Nat → Prop} {T : List Nod} {D : List (Value × List Nod)} {x : Nod} {v' : Value} {l' : List (ByteArray × ByteArray)} (h : TS B R T D F w) (hD : D.length ≤ 1000000000000) (hT : T.length ≤ 400) (hx : T[i]? = some x)
    (hv : w.ownsRow B 79 2 v' l'.length (atc l')) (hvF : ∀ g, v'.ownBlock = some g → ¬ F g) :
    Calls Tryz.prog 62 #[.pointer (some ⟨R, 0, none⟩), .int .i64 (i : Int), v'] w (AtRet B R (T.set i { x with at_ := l' }) T D F v' w) := by
  obtain ⟨L, cap, uv, Z, M, h1, hM⟩ := h
  obtain ⟨y, hy, rfl⟩ := nv_get hM hx
  have H := Lib.hid h1
  have HM := Lib.hid hM
  have HX := Lib.hid hx
  have HY := Lib.hid hy
  have HV := Lib.hid hv
  have HVF := Lib.hid hvF
  have HD := Lib.hid hD
  have HT := Lib.hid hT
  have hl : M.length ≤ 400 := by rw [← hM] at hT; simpa using hT
  have hi := (List.getElem?_eq_some_iff.1 hy).1
  have hii : (i : Int) < (M.length : Int) := by omega
  have h0i : 0 ≤ (i : Int) := by omega
  obtain ⟨_, A', c', rfl, _, _⟩ := RdS.of_own hv
  obtain ⟨b, hb⟩ : ∃ b, b = w.heap.size := ⟨_, rfl⟩
  obtain ⟨w1, hw1⟩ : ∃ w1, w1 = (w.alloc (.cells #[.pointer (some ⟨R, 0, none⟩)] 23)).alloc (.cells #[.int .i64 (i : Int)] 3) := ⟨_, rfl⟩
  have hbk0 : Bk w1 b 23 #[.pointer (some ⟨R, 0, none⟩)] := by rw [hw1, hb]; exact (Bk.new _ _ _).alloc _
  have hbk1 : Bk w1 (b + 1) 3 #[.int .i64 (i : Int)] := by rw [hw1, hb]; exact bk_new' _ _ _ (by simp)
  have hbl : Below w.heap.size w w1 := by rw [hw1]; exact bl_alloc (bl_alloc (Below.refl _ _) _) _
  have hsz : w1.heap.size = b + 2 := by rw [hw1, hb]; simp
  have h2 := h1.below hbl
  have HS1 := Lib.hid h2
  have HBL := Lib.hid hbl
  have HBK0 := Lib.hid hbk0
  have HBK1 := Lib.hid hbk1
  have HB := Lib.hid hb
  have HSZ := Lib.hid hsz
  have HW1 := Lib.hid hw1
  obtain ⟨va, hva⟩ : ∃ va, va = y.va := ⟨_, rfl⟩
  have HVA := Lib.hid hva
  have hF1 : ∀ W', Below w1.heap.size w1 W' → (W'.cell? ⟨b, 0, none⟩ = some (.pointer (some ⟨R, 0, none⟩)) ∧ W'.cell? ⟨b + 1, 0, none⟩ = some (.int .i64 (i : Int)) ∧ W'.cell? ⟨R, 0, none⟩ = some (.slice (some ⟨L, 0, none⟩) M.length cap) ∧ W'.cell? ⟨L, i * 6 + 3, none⟩ = some va) := fun W' hb => by
    have n1 := h2.ns.below hb
    have q0 := hbk0.below hb hbk0.lt
    have q1 := hbk1.below hb hbk1.lt
    refine ⟨q0.cell 0, q1.cell 0, n1.heads.1, ?_⟩
    rw [hva]
    exact (n1.cell hy).2.1
  have HF1 := Lib.hid hF1
  have hy2 := (h2.ns.rd y (List.mem_of_getElem? hy)).1
  rw [← hva] at hy2
  obtain ⟨_, A2, c2, e2, _, _⟩ := hy2
  subst e2
  clear h1 hM hx hy hv hvF hD hT hb hw1 hbk0 hbk1 hbl hsz h2 hva hF1
  go_enter Tryz.func62, Tryz.ntmps62
  go_upto_region 1 with fail
  rw [← HW1.out, ← HB.out]
  go_cut [6] (fun v6 wx => v6 = .pointer (some ⟨b + 2, 0, none⟩) ∧ Hid (AtMid B R L cap uv Z M T D F (.slice A2 y.x.at_.length c2) b i w wx))
  case first =>
    go_region_held3 (fun w' => w'.cell? ⟨b, 0, none⟩ = some (.pointer (some ⟨R, 0, none⟩)) ∧ w'.cell? ⟨b + 1, 0, none⟩ = some (.int .i64 (i : Int)) ∧ w'.cell? ⟨R, 0, none⟩ = some (.slice (some ⟨L, 0, none⟩) M.length cap) ∧ w'.cell? ⟨L, i * 6 + 3, none⟩ = some (.slice A2 y.x.at_.length c2))
      (first | exact HF1.out _ (Below.refl _ _) | exact HF1.out _ (bl_drew (Below.refl _ _)) | exact HF1.out _ (bl_drew (bl_alloc (Below.refl _ _) _)) | exact HF1.out _ (bl_set (bl_drew (bl_alloc (Below.refl _ _) _)) _ _ (by simp) _))
      (fail)
    all_goals
      go_wp2_with fail
      go_meet
      exact ⟨by rw [HSZ.out], HS1.out.below (bl_drew (bl_alloc (Below.refl _ _) _)), bl_trans HBL.out (bl_drew (bl_alloc (Below.refl _ _) _)), Bk.drew (HBK0.out.alloc _), Bk.drew (HBK1.out.alloc _), Bk.drew (bk_new' _ _ _ HSZ.out.symm)⟩
  case rest =>
    obtain ⟨rfl, hmid⟩ := hcut
    obtain ⟨hSc, hBc, hb0, hb1, hb2⟩ := hmid.out
    obtain ⟨w2, hw2⟩ : ∃ w2, w2 = wc.drew := ⟨_, rfl⟩
    have h2 := hSc.below (bl_drew (Below.refl _ wc))
    rw [← hw2] at h2
    have e0 : w2.cell? ⟨b, 0, none⟩ = some (.pointer (some ⟨R, 0, none⟩)) := by rw [hw2]; exact hb0.cell 0
    have e1 : w2.cell? ⟨b + 1, 0, none⟩ = some (.int .i64 (i : Int)) := by rw [hw2]; exact hb1.cell 0
    have l1 : b + 1 < w2.heap.size := by rw [hw2]; exact hb1.lt
    obtain ⟨g0, g1, g2, g3⟩ := h2.ns.heads
    have hr := h2.ns.ltR
    have hrL := h2.ns.ltL
    obtain ⟨_, a3, _, _⟩ := h2.ns.cell HY.out
    rw [← HVA.out] at a3
    have f3 := h2.ns.free (i * 6 + 3)
    have HS2 := Lib.hid h2
    have HBC := Lib.hid hBc
    have HB0 := Lib.hid hb0
    have HB1 := Lib.hid hb1
    have HB2 := Lib.hid hb2
    have HW2 := Lib.hid hw2
    clear h2 hSc hBc hb0 hb1 hb2 hw2 hmid HF1 HBK0 HBK1 HBL HS1 HW1
    go_upto_region 2 with fail
    refine wp_region_still_tail 8 (by kernel_rfl) (by kernel_rfl) ?_
    simp only [List.take_succ_cons, List.take_zero, List.drop_succ_cons, List.drop_zero]
    change wpStill _ _ (World.drew _) _ _ _
    rw [← HW2.out]
    repeat still_step
    refine wpStill_nil ?_
    change wpList _ _ _ _ _ (World.drew _)
    rw [← HW2.out]
    go_upto_region 3 with fail
    obtain ⟨wn, hwn⟩ : ∃ wn, wn = w2.setCell ⟨L, i * 6 + 3, none⟩ (.slice A' l'.length c') := ⟨_, rfl⟩
    rw [← hwn]
    obtain ⟨P, hP⟩ : ∃ P : Nat → Prop, P = fun k => k = b ∨ k = b + 1 ∨ k = b + 2 ∨ (Value.slice A' l'.length c').ownBlock = some k := ⟨_, rfl⟩
    have hbw : b = w.heap.size := HB.out
    have hBb : B ≤ b := by have := H.out.ns.geo.1; have := H.out.ns.ltR; omega
    have hsz2 : b + 3 ≤ w2.heap.size := by have := HB2.out.lt; have e : w2.heap.size = wc.heap.size := by rw [HW2.out]; rfl
                                           omega
    have hexb : ∀ k, exT R L uv k → k < b := fun k hk => by have := (H.out.ns.ex hk).2; omega
    have hPz : ∀ k, P k → B ≤ k ∧ k < w2.heap.size ∧ ¬ exT R L uv k := fun k hk => by
      rw [hP] at hk
      rcases hk with rfl | rfl | rfl | hk
      · exact ⟨hBb, by omega, fun e => by have := hexb _ e; omega⟩
      · exact ⟨by omega, by omega, fun e => by have := hexb _ e; omega⟩
      · exact ⟨by omega, by omega, fun e => by have := hexb _ e; omega⟩
      · have := own_lt HV.out hk
        exact ⟨this.1, by omega, fun e => HVF.out k hk (H.out.f k (.inl e))⟩
    have hSz := HS2.out.wideZ P hPz
    have hbl2 : Below w.heap.size w w2 := by rw [HW2.out]; exact bl_drew HBC.out
    have hrv : RdZ w2 (fun k => Z k ∨ P k) 2 (.slice A' l'.length c') l'.length (atc l') :=
      RdZ.of_own (own_keep HV.out (fun k hk => hbl2.block k (own_lt HV.out hk).2)) (fun g hg => .inr (by rw [hP]; exact .inr (.inr (.inr hg))))
    have hra := (hSz.ns.rd y (List.mem_of_getElem? HY.out))
    have hSn := hSz.setN HY.out 3 (by omega) (.slice A' l'.length c') (putV_cells y (.slice A' l'.length c') l') ⟨hrv, hra.2⟩
    rw [← hwn] at hSn
    have hkn : ∀ k, k ≠ L → wn.heap[k]? = w2.heap[k]? := fun k hk => by rw [hwn]; exact Below.heap_setCell w2 ⟨L, i * 6 + 3, none⟩ _ k hk
    have hLb : L < b := hexb L (.inr (.inl rfl))
    have hbn0 : Bk wn b 23 #[.pointer (some ⟨R, 0, none⟩)] := (hkn b (by omega)).trans (by rw [HW2.out]; exact HB0.out)
    have hbn1 : Bk wn (b + 1) 3 #[.int .i64 (i : Int)] := (hkn (b + 1) (by omega)).trans (by rw [HW2.out]; exact HB1.out)
    have hbn2 : Bk wn (b + 2) 37 #[.slice A2 y.x.at_.length c2] := (hkn (b + 2) (by omega)).trans (by rw [HW2.out]; exact HB2.out)
    have hran : RdZ wn (fun k => Z k ∨ P k) 2 (.slice A2 y.x.at_.length c2) y.x.at_.length (atc y.x.at_) := by
      have := hra.1
      rw [← HVA.out] at this
      exact this.keep (fun k hk => hkn k (fun e => (hSz.ns.z k hk).2.2 (.inr (.inl e)))) (fun _ h => h)
    have hU := u_attrs (B := B) (l' := l') HX.out HT.out hbn0 hbn1 hbn2 hran (.inr (by rw [hP]; exact .inl rfl)) (.inr (by rw [hP]; exact .inr (.inl rfl))) (.inr (by rw [hP]; exact .inr (.inr (.inl rfl))))
    have hmm : (M.set i (putV y (.slice A' l'.length c') l')).map NV.x = T.set i { y.x with at_ := l' } := by rw [List.map_set, HM.out]; rfl
    rw [← hmm] at hU
    have HDN := Lib.hid (c_done hSn hU HD.out)
    have HEX : Hid (∀ k, exT R L uv k → F k) := fun k hk => H.out.f k (.inl hk)
    have HPP := Lib.hid hP
    have HMM := Lib.hid hmm
    have HKN : Hid (Kept w wn F) := by
      unfold Hid
      rw [hwn]
      exact (Kept.of_below hbl2 F).set_ L _ (fun _ => H.out.f L (.inl (.inr (.inl rfl)))) _
    have c0 : wn.cell? ⟨b, 0, none⟩ = some (.pointer (some ⟨R, 0, none⟩)) := hbn0.cell 0
    have cl := hbn0.lt
    have hszn : Hid (wn.heap.size = w2.heap.size) := by rw [hwn]; simp [World.setCell, Hid]
    have HS3 : Hid (b + 3 ≤ w2.heap.size) := hsz2
    clear hP hbw hBb hsz2 hexb hPz hSz hbl2 hrv hra hSn hkn hLb hbn0 hbn1 hbn2 hran hU hmm hwn e0 e1 l1 g0 g1 g2 g3 hr hrL a3 f3
    go_wp2_with ((go_at_call 55; refine (HDN.out).mono ?_; rintro e w' ⟨⟨u, rfl⟩, uv', F'', hS5, hF5, hK5⟩; have HS5 := Lib.hid hS5; have HF5 := Lib.hid hF5; have HK5 := Lib.hid hK5; clear hS5 hF5 hK5))
    go_end0
    have key := HS5.out
    rw [HMM.out] at key
    refine ⟨⟨_, rfl⟩, _, F'', ⟨L, cap, uv', _, _, key, HMM.out⟩, fun k hk hf => ?_, HKN.out.then_ HK5.out (fun k _ e => HEX.out k e)⟩
    have h1 := HS3.out
    have h2 := hszn.out
    have h3 := HB.out
    rcases HF5.out k (by omega) hf with e | e
    · exact .inl e
    · rw [HPP.out] at e
      rcases e with e | e | e | e
      · omega
      · omega
      · omega
      · exact .inr e
end Go.Proofs.YtimlmekgapdkiaaGreatDoor
