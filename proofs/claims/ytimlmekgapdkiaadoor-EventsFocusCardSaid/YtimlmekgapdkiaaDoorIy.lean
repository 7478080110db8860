/- an attribute's value; a node's turn in the order of focus; a node's turn in the order of focus -/
import Derived.Test.YtimlmekgapdkiaaDoorUa
namespace Go.Proofs.YtimlmekgapdkiaaDoor
set_option linter.unusedVariables false
set_option linter.unusedSimpArgs false
open Go.RowKit Go.Cas

def atv : List (ByteArray × ByteArray) → ByteArray → Option ByteArray
  | [], _ => none
  | p :: r, s => if p.1 = s then some p.2 else atv r s
theorem atv_hit : ∀ (l : List (ByteArray × ByteArray)) (s : ByteArray) (v : ByteArray), atv l s = some v → ∃ k : Nat, fnd l s = (k : Int) ∧ ∃ p, l[k]? = some p ∧ p.2 = v := by
  intro l
  induction l with
  | nil => intro s v h; cases h
  | cons a l ih =>
    intro s v h
    unfold atv at h
    by_cases h0 : a.1 = s
    · rw [if_pos h0] at h
      injection h with h
      exact ⟨0, by simp [fnd, h0], a, rfl, h⟩
    · rw [if_neg h0] at h
      obtain ⟨k, h1, p, h2, h3⟩ := ih s v h
      refine ⟨k + 1, ?_, p, by simpa using h2, h3⟩
      simp only [fnd, if_neg h0, h1]
      rw [if_neg (by omega)]; omega
theorem atv_none : ∀ (l : List (ByteArray × ByteArray)) (s : ByteArray), atv l s = none → fnd l s = -1 := by
  intro l
  induction l with
  | nil => intro s _; rfl
  | cons a l ih =>
    intro s h
    unfold atv at h
    by_cases h0 : a.1 = s
    · rw [if_pos h0] at h; cases h
    · rw [if_neg h0] at h
      have := ih s h
      simp only [fnd, if_neg h0, this]; rfl
def AvRet (o : Option ByteArray) (w : World) (e : Ending) (w' : World) : Prop := e = .returned (.tuple #[.string (o.getD ByteArray.empty), .bool o.isSome]) ∧ Below w.heap.size w w'
set_option maxRecDepth 100000 in
set_option maxHeartbeats 4000000 in
theorem c_Attr {w : World} {B R : Nat} {F : Nat → Prop} {T : List Nod} {D : List (Value × List Nod)} {i : Nat} {x : Nod} (h : TS B R T D F w) (hT : T.length ≤ 400) (hx : T[i]? = some x) (hk : x.at_.length ≤ 1000000) (nm : ByteArray) :
    Calls Tryd.prog 102 #[.pointer (some ⟨R, 0, none⟩), .int .i64 (i : Int), .string nm] w (AvRet (atv x.at_ nm) w) := by
  obtain ⟨L, cap, uv, Z, M, h1, hM, _⟩ := h.ns
  obtain ⟨y, hy, rfl⟩ := nv_get hM hx
  have hl : M.length ≤ 400 := by rw [← hM] at hT; simpa using hT
  have hi := (List.getElem?_eq_some_iff.1 hy).1
  have HI := Lib.hid (c_is_yes h1 i hi hl)
  have hii : (i : Int) < (M.length : Int) := by omega
  have hrd := (h1.rd y (List.mem_of_getElem? hy)).1.toS (fun k hz => (h1.z k hz).2.1)
  have HRD := Lib.hid hrd
  have HF := Lib.hid (c_find (s := nm) hrd (by omega) (Nat.le_refl _))
  obtain ⟨_, A, c, hva, _, _⟩ := id hrd
  have HN : Hid (∀ W', Below w.heap.size w W' → W'.cell? ⟨R, 0, none⟩ = some (.slice (some ⟨L, 0, none⟩) M.length cap) ∧ R < W'.heap.size ∧ L < W'.heap.size ∧ W'.cell? ⟨L, i * 6 + 3, none⟩ = some (.slice A y.x.at_.length c)) := fun W' hb => by
    have n1 := h1.below hb
    exact ⟨n1.heads.1, n1.ltR, n1.ltL, by rw [(n1.cell hy).2.1, hva]⟩
  obtain ⟨g0, hr, hrL, a3⟩ := HN.out w (Below.refl _ _)
  have HVA := Lib.hid hva
  rw [hva] at HF HRD
  clear h h1 hM hx hy hrd hva hT
  cases ha : atv y.x.at_ nm with
  | none =>
    have hf := atv_none _ _ ha
    rw [hf] at HF
    clear ha hf
    go_enter Tryd.func102, Tryd.ntmps102
    go_wp2_with (first | (go_at_call 47; refine (HI.out).mono ?_; rintro e w' ⟨rfl, rfl⟩) | (go_at_call 83; refine (HF.out).mono ?_; rintro e w1 ⟨rfl, hb⟩; have HB := Lib.hid hb; clear hb))
    go_ret2
    exact ⟨rfl, HB.out⟩
  | some v =>
    obtain ⟨k, hf, p, hp, rfl⟩ := atv_hit _ _ _ ha
    rw [hf] at HF
    obtain ⟨m, hm⟩ : ∃ m, m = y.x.at_.length := ⟨_, rfl⟩
    have hkm : k < m := by rw [hm]; exact (List.getElem?_eq_some_iff.1 hp).1
    have hkmi : (k : Int) < (m : Int) := by omega
    have hk0 : (0 : Int) ≤ (k : Int) := by omega
    rw [← hm] at a3 HF HN HRD hk
    obtain ⟨ga, oa, rfl, hga, hca⟩ := rd_at HRD.out (p := p) hp
    have HCA := Lib.hid hca
    clear ha hf hp hm hca
    go_enter Tryd.func102, Tryd.ntmps102
    go_upto_region 4 with (first | (go_at_call 47; refine (HI.out).mono ?_; rintro e w' ⟨rfl, rfl⟩) | (go_at_call 83; refine (HF.out).mono ?_; rintro e w1 ⟨rfl, hb⟩; have HB := Lib.hid hb; clear hb))
    obtain ⟨q0, qr, qL, q3⟩ := HN.out w1 HB.out
    obtain ⟨_, c1⟩ := HCA.out w1 HB.out
    go_wp2_with fail
    go_ret2
    exact ⟨rfl, HB.out⟩
end Go.Proofs.YtimlmekgapdkiaaDoor
namespace Go.Proofs.YtimlmekgapdkiaaDoor
set_option linter.unusedVariables false
set_option linter.unusedSimpArgs false
open Go.RowKit Go.Cas

abbrev bDis : ByteArray := ⟨#[100, 105, 115, 97, 98, 108, 101, 100]⟩
abbrev bTab : ByteArray := ⟨#[116, 97, 98, 105, 110, 100, 101, 120]⟩
abbrev bHref : ByteArray := ⟨#[104, 114, 101, 102]⟩
abbrev bBut : ByteArray := ⟨#[98, 117, 116, 116, 111, 110]⟩
abbrev bInp : ByteArray := ⟨#[105, 110, 112, 117, 116]⟩
abbrev bSel : ByteArray := ⟨#[115, 101, 108, 101, 99, 116]⟩
abbrev bA : ByteArray := ⟨#[97]⟩
def digC (c : UInt8) : Bool := decide (48 ≤ (c.toNat : Int)) && decide ((c.toNat : Int) ≤ 57)
def numL (l : List UInt8) : Int := l.foldl (fun n c => n * 10 + ((c.toNat : Int) - 48)) 0
def negL (l : List UInt8) : Bool := decide (l.head? = some 45)
def ixL (neg : Bool) (l : List UInt8) : Int × Bool :=
  if l.length < 1 ∨ 9 < l.length then (0, false) else if l.all digC then (numL l, !neg || decide (numL l = 0)) else (0, false)
def ixS (s : ByteArray) : Int × Bool := ixL (negL s.data.toList) (if negL s.data.toList then s.data.toList.drop 1 else s.data.toList)
def ixN (x : Nod) : Int × Bool :=
  if x.k ≠ 2 then (0, false) else if (atv x.at_ bDis).isSome then (0, false) else
  match atv x.at_ bTab with
  | some s => ixS s
  | none => if x.tag = bBut ∨ x.tag = bInp ∨ x.tag = bSel then (0, true) else if x.tag = bA then (0, (atv x.at_ bHref).isSome) else (0, false)
theorem numL_snoc (l : List UInt8) (c : UInt8) : numL (l ++ [c]) = numL l * 10 + ((c.toNat : Int) - 48) := by simp [numL]
theorem numL_bd : ∀ (n : Nat) (l : List UInt8), l.length = n → l.all digC = true → 0 ≤ numL l ∧ numL l < 10 ^ n := by
  intro n
  induction n with
  | zero => intro l h _; obtain rfl := List.eq_nil_of_length_eq_zero h; simp [numL]
  | succ n ih =>
    intro l h hd
    obtain ⟨l', c, rfl⟩ : ∃ l' c, l = l' ++ [c] := ⟨l.dropLast, l.getLast (by intro e; subst e; simp at h), (List.dropLast_concat_getLast _).symm⟩
    rw [List.all_append, Bool.and_eq_true] at hd
    obtain ⟨h1, h2⟩ := ih l' (by simpa using h) hd.1
    have h3 : digC c = true := by simpa using hd.2
    unfold digC at h3
    rw [Bool.and_eq_true, decide_eq_true_eq, decide_eq_true_eq] at h3
    rw [numL_snoc]
    have e : (10 : Int) ^ (n + 1) = 10 ^ n * 10 := by rw [Int.pow_succ]
    rw [e]
    omega
theorem tst_str (tg b : ByteArray) (l : List UInt8) (hl : b.data.toList = l) : (tg.toList == l) = decide (tg = b) := by
  rw [← beq_str, ByteArray.toList_eq b, hl]
def IxRet (p : Int × Bool) (w : World) (e : Ending) (w' : World) : Prop := e = .returned (.tuple #[.int .i64 p.1, .bool p.2]) ∧ Below w.heap.size w w'
set_option maxRecDepth 100000 in
set_option maxHeartbeats 8000000 in
theorem c_index {w : World} {B R : Nat} {F : Nat → Prop} {T : List Nod} {D : List (Value × List Nod)} {i : Nat} {x : Nod} (h : TS B R T D F w) (hT : T.length ≤ 400) (hx : T[i]? = some x) (hk : x.at_.length ≤ 1000000) (hv : ∀ nm v, atv x.at_ nm = some v → v.size ≤ 20000) :
    Calls Tryd.prog 74 #[.pointer (some ⟨R, 0, none⟩), .int .i64 (i : Int)] w (IxRet (ixN x) w) := by
  have HKI := Lib.hid (c_Kind h hT hx)
  have HAT : Hid (∀ nm W', Below w.heap.size w W' → Calls Tryd.prog 102 #[.pointer (some ⟨R, 0, none⟩), .int .i64 (i : Int), .string nm] W' (AvRet (atv x.at_ nm) W')) := fun nm W' hb => c_Attr (h.below hb) hT hx hk nm
  have HTG : Hid (∀ W', Below w.heap.size w W' → Calls Tryd.prog 56 #[.pointer (some ⟨R, 0, none⟩), .int .i64 (i : Int)] W' fun e w' => e = .returned (.string x.tag) ∧ W' = w') := fun W' hb => c_Tag (h.below hb) hT hx
  clear h hT hx hk
  by_cases h2 : x.k = 2
  case neg =>
    have HX : Hid (ixN x = (0, false)) := by unfold Hid ixN; rw [if_pos h2]
    have b2 : (x.k != 2) = true := by rw [bne_iff_ne]; exact h2
    rw [HX.out]
    obtain ⟨xk, hxk⟩ : ∃ xk, xk = x.k := ⟨_, rfl⟩
    rw [← hxk] at b2 h2 HKI
    clear hxk
    go_enter Tryd.func74, Tryd.ntmps74
    go_wp2_with (go_at_call 55; refine (HKI.out).mono ?_; rintro e w' ⟨rfl, rfl⟩)
    go_ret2
    exact ⟨rfl, Below.refl _ _⟩
  rw [h2] at HKI
  cases hdis : atv x.at_ bDis with
  | some dv =>
    have HX : Hid (ixN x = (0, false)) := by unfold Hid ixN; rw [if_neg (fun h => h h2), hdis]; rfl
    have HA := Lib.hid (HAT.out bDis w (Below.refl _ _))
    rw [hdis] at HA
    rw [HX.out]
    clear h2 hdis
    go_enter Tryd.func74, Tryd.ntmps74
    go_wp2_with (first | (go_at_call 55; refine (HKI.out).mono ?_; rintro e w' ⟨rfl, rfl⟩) | (go_at_call 102; refine (HA.out).mono ?_; rintro e w1 ⟨rfl, hb⟩; have HB := Lib.hid hb; clear hb))
    go_ret2
    exact ⟨rfl, HB.out⟩
  | none =>
    have HA := Lib.hid (HAT.out bDis w (Below.refl _ _))
    rw [hdis] at HA
    cases htab : atv x.at_ bTab with
    | none =>
      have HXN : Hid (ixN x = if x.tag = bBut ∨ x.tag = bInp ∨ x.tag = bSel then (0, true) else if x.tag = bA then (0, (atv x.at_ bHref).isSome) else (0, false)) := by
        unfold Hid ixN; rw [if_neg (fun h => h h2), hdis, htab]; rfl
      have HAB : Hid (∀ W', Below w.heap.size w W' → Calls Tryd.prog 102 #[.pointer (some ⟨R, 0, none⟩), .int .i64 (i : Int), .string bTab] W' (AvRet none W')) := fun W' hb => by rw [← htab]; exact HAT.out bTab W' hb
      have HAH : Hid (∀ W', Below w.heap.size w W' → Calls Tryd.prog 102 #[.pointer (some ⟨R, 0, none⟩), .int .i64 (i : Int), .string bHref] W' (AvRet (atv x.at_ bHref) W')) := fun W' hb => HAT.out bHref W' hb
      obtain ⟨hr, hhr⟩ : ∃ hr, hr = atv x.at_ bHref := ⟨_, rfl⟩
      rw [← hhr] at HXN HAH
      obtain ⟨tg, htg⟩ : ∃ tg, tg = x.tag := ⟨_, rfl⟩
      rw [← htg] at HXN HTG
      obtain ⟨ix, hix⟩ : ∃ ix, ix = ixN x := ⟨_, rfl⟩
      rw [← hix] at HXN ⊢
      clear h2 hdis htab HAT hhr htg hix
      go_enter Tryd.func74, Tryd.ntmps74
      go_upto_region 22 with (first
        | (go_at_call 55; refine (HKI.out).mono ?_; rintro e w' ⟨rfl, rfl⟩)
        | (go_at_call 102; (with_reducible refine (HA.out).mono ?_); rintro e w1 ⟨rfl, hb⟩; have HB1 := Lib.hid hb; clear hb)
        | (go_at_call 102; refine (HAB.out _ HB1.out).mono ?_; rintro e w2 ⟨rfl, hb⟩; have HB2 := Lib.hid (bl_trans HB1.out hb); clear hb)
        | (go_at_call 56; refine (HTG.out _ HB2.out).mono ?_; rintro e w' ⟨rfl, rfl⟩))
      have t1 := tst_str tg bBut [98, 117, 116, 116, 111, 110] rfl
      have t2 := tst_str tg bInp [105, 110, 112, 117, 116] rfl
      have t3 := tst_str tg bSel [115, 101, 108, 101, 99, 116] rfl
      have t4 := tst_str tg bA [97] rfl
      by_cases c1 : tg = bBut
      · rw [decide_eq_true c1] at t1
        have HI : Hid (ix = (0, true)) := by unfold Hid; rw [HXN.out, if_pos (.inl c1)]
        clear t2 t3 t4 c1 HXN
        obtain rfl := HI.out
        go_wp2_with fail
        go_ret2
        exact ⟨rfl, HB2.out⟩
      rw [decide_eq_false c1] at t1
      by_cases c2 : tg = bInp
      · rw [decide_eq_true c2] at t2
        have HI : Hid (ix = (0, true)) := by unfold Hid; rw [HXN.out, if_pos (.inr (.inl c2))]
        clear t3 t4 c1 c2 HXN
        obtain rfl := HI.out
        go_wp2_with fail
        go_ret2
        exact ⟨rfl, HB2.out⟩
      rw [decide_eq_false c2] at t2
      by_cases c3 : tg = bSel
      · rw [decide_eq_true c3] at t3
        have HI : Hid (ix = (0, true)) := by unfold Hid; rw [HXN.out, if_pos (.inr (.inr c3))]
        clear t4 c1 c2 c3 HXN
        obtain rfl := HI.out
        go_wp2_with fail
        go_ret2
        exact ⟨rfl, HB2.out⟩
      rw [decide_eq_false c3] at t3
      have hno : ¬ (tg = bBut ∨ tg = bInp ∨ tg = bSel) := fun h => h.elim c1 (fun h => h.elim c2 c3)
      by_cases c4 : tg = bA
      · rw [decide_eq_true c4] at t4
        have HI : Hid (ix = (0, hr.isSome)) := by unfold Hid; rw [HXN.out, if_neg hno, if_pos c4]
        clear c1 c2 c3 c4 hno HXN
        obtain rfl := HI.out
        go_wp2_with (go_at_call 102; refine (HAH.out _ HB2.out).mono ?_; rintro e w3 ⟨rfl, hb⟩; have HB3 := Lib.hid (bl_trans HB2.out hb); clear hb)
        go_ret2
        exact ⟨rfl, HB3.out⟩
      · rw [decide_eq_false c4] at t4
        have HI : Hid (ix = (0, false)) := by unfold Hid; rw [HXN.out, if_neg hno, if_neg c4]
        clear c1 c2 c3 c4 hno HXN
        obtain rfl := HI.out
        go_wp2_with fail
        go_ret2
        exact ⟨rfl, HB2.out⟩
    | some s =>
      have HXS : Hid (ixN x = ixS s) := by unfold Hid ixN; rw [if_neg (fun h => h h2), hdis, htab]; rfl
      have HAB : Hid (∀ W', Below w.heap.size w W' → Calls Tryd.prog 102 #[.pointer (some ⟨R, 0, none⟩), .int .i64 (i : Int), .string bTab] W' (AvRet (some s) W')) := fun W' hb => by rw [← htab]; exact HAT.out bTab W' hb
      obtain ⟨ix, hix⟩ : ∃ ix, ix = ixN x := ⟨_, rfl⟩
      rw [← hix] at HXS ⊢
      have hsz : s.size ≤ 20000 := hv _ _ htab
      have hszi : (s.size : Int) ≤ 20000 := by omega
      clear h2 hdis htab HAT hix hv
      go_enter Tryd.func74, Tryd.ntmps74
      go_upto_region 9 with (first
        | (go_at_call 55; refine (HKI.out).mono ?_; rintro e w' ⟨rfl, rfl⟩)
        | (go_at_call 102; (with_reducible refine (HA.out).mono ?_); rintro e w1 ⟨rfl, hb⟩; have HB1 := Lib.hid hb; clear hb)
        | (go_at_call 102; refine (HAB.out _ HB1.out).mono ?_; rintro e w2 ⟨rfl, hb⟩; have HB2 := Lib.hid (bl_trans HB1.out hb); clear hb))
      by_cases h0 : s.size = 0
      · have hse : s = ByteArray.empty := by
          rw [← ByteArray.size_eq_zero_iff]; exact h0
        subst hse
        have HI : Hid (ix = (0, false)) := by unfold Hid; rw [HXS.out]; decide
        clear HXS h0 hsz hszi
        obtain rfl := HI.out
        go_wp2_with fail
        go_ret2
        exact ⟨rfl, HB2.out⟩
      have hp : 0 < s.size := by omega
      have hpi : ¬ (s.size : Int) = 0 := by omega
      have q5 : ¬ s = ByteArray.empty := fun e => h0 (by rw [e]; rfl)
      have HE : Hid (s.data.toList.head? = some s[0]) := by
        unfold Hid
        rw [List.head?_eq_getElem?, List.getElem?_eq_getElem (by simpa using hp)]; rfl
      have q6 : ¬ s.toList = [] := fun e => q5 (by
        rw [ByteArray.toList_eq] at e
        obtain ⟨d⟩ := s
        simp at e; subst e; rfl)
      have q7 : s.toList.isEmpty = false := by rw [List.isEmpty_eq_false_iff]; exact q6
      have HNG : Hid (negL s.data.toList = decide (s[0].toNat = 45)) := by
        unfold Hid negL
        rw [HE.out, Bool.eq_iff_iff, decide_eq_true_eq, decide_eq_true_eq, Option.some.injEq]
        constructor
        · intro h; rw [h]; rfl
        · intro h; exact UInt8.toNat_inj.1 h
      go_cut [39] (fun v39 wx => v39 = .bool (negL s.data.toList) ∧ wx = w2)
      case first =>
        by_cases h45 : s[0].toNat = 45
        · have b45 : ((s[0].toNat : Int) == 45) = true := by rw [beq_iff_eq]; omega
          have b46 : (s[0].toNat : Int) = 45 := by omega
          go_wp2_with fail
          go_meet
          exact ⟨by rw [HNG.out, decide_eq_true h45], rfl⟩
        · have b45 : ((s[0].toNat : Int) == 45) = false := by rw [beq_eq_false_iff_ne]; omega
          have b46 : ¬ (s[0].toNat : Int) = 45 := by omega
          go_wp2_with fail
          go_meet
          exact ⟨by rw [HNG.out, decide_eq_false h45], rfl⟩
      case rest =>
        obtain ⟨rfl, hwc⟩ := hcut
        obtain rfl : w2 = wc := hwc.symm
        obtain ⟨nb, hnb⟩ : ∃ nb, nb = negL s.data.toList := ⟨_, rfl⟩
        rw [← hnb]
        have HNB := Lib.hid hnb
        clear hnb
        go_upto_if 39 with fail
        go_cut [8, 11] (fun v8 v11 wx => ∃ t, v8 = .string t ∧ v11 = .bool nb ∧ Hid (ixS s = ixL nb t.data.toList) ∧ t.size ≤ 20000 ∧ Hid (Below w.heap.size w wx))
        case first =>
          cases nb
          · go_wp2_with fail
            go_meet
            refine ⟨s, rfl, rfl, ?_, hsz, HB2.out⟩
            unfold ixS
            rw [← HNB.out]; rfl
          · have h1s : 1 ≤ s.size := hp
            have h1i : (1 : Int) ≤ (s.size : Int) := by omega
            go_wp2_with fail
            go_quiet (fail)
            go_wp2_with fail
            go_meet
            refine ⟨s.extract 1 s.size, rfl, rfl, ?_, by simp; omega, bl_drewN HB2.out _⟩
            unfold ixS
            rw [← HNB.out]
            simp only [Lib.extract_data, if_pos]
            unfold Hid
            congr 1
            simp
            exact (List.take_of_length_le (by simp)).symm
        case rest =>
          obtain ⟨t, rfl, rfl, HIX, ht20, HBw⟩ := hcut
          have hti : (t.size : Int) ≤ 20000 := by omega
          have htl : t.data.toList.length = t.size := by simp
          have HXT : Hid (ix = ixL nb t.data.toList) := by unfold Hid; rw [HXS.out, HIX.out]
          clear HXS HIX HB2 HB1 HA HAB HKI HTG HE HNG HNB q5 q6 q7 hp hpi h0 hsz hszi
          by_cases c1 : t.size < 1
          · have c1i : (t.size : Int) < 1 := by omega
            have HI : Hid (ix = (0, false)) := by unfold Hid; rw [HXT.out]; unfold ixL; rw [if_pos (.inl (by omega))]
            clear HXT htl
            obtain rfl := HI.out
            go_wp2_with fail
            go_ret2
            exact ⟨rfl, HBw.out⟩
          have c1i : ¬ (t.size : Int) < 1 := by omega
          by_cases c9 : 9 < t.size
          · have c9i : (9 : Int) < (t.size : Int) := by omega
            have HI : Hid (ix = (0, false)) := by unfold Hid; rw [HXT.out]; unfold ixL; rw [if_pos (.inr (by omega))]
            clear HXT htl
            obtain rfl := HI.out
            go_wp2_with fail
            go_ret2
            exact ⟨rfl, HBw.out⟩
          have c9i : ¬ (9 : Int) < (t.size : Int) := by omega
          have HXT2 : Hid (ix = if t.data.toList.all digC then (numL t.data.toList, !nb || decide (numL t.data.toList = 0)) else (0, false)) := by
            unfold Hid; rw [HXT.out]; unfold ixL; rw [if_neg (by omega)]
          have hp1 : 1 ≤ t.size := by omega
          have h9 : t.size ≤ 9 := by omega
          have h9i : (t.size : Int) ≤ 9 := by omega
          clear HXT
          go_wp2_with fail
          clear c1 c9 c1i c9i
          go_loop [10, 52] (fun n j => ∃ k : Nat, k ≤ t.size ∧ n = .int .i64 (numL (t.data.toList.take k)) ∧ j = .int .i64 (k : Int) ∧ Hid ((t.data.toList.take k).all digC = true)) (fun _ j => t.size - (intOf j).toNat)
          case atStart => exact ⟨0, by omega, rfl, rfl, rfl⟩
          case round =>
            obtain ⟨k, hk, rfl, rfl, HAL⟩ := hrel
            by_cases hlt : k < t.size
            case neg =>
              obtain rfl : k = t.size := by omega
              have HT : Hid (t.data.toList.take t.size = t.data.toList) := by unfold Hid; rw [List.take_of_length_le (by omega)]
              have HI : Hid (ix = (numL t.data.toList, !nb || decide (numL t.data.toList = 0))) := by
                unfold Hid; rw [HXT2.out]
                have := HAL.out
                rw [HT.out] at this
                rw [if_pos this]
              rw [HT.out]
              obtain ⟨n, hn⟩ : ∃ n, n = numL t.data.toList := ⟨_, rfl⟩
              rw [← hn] at HI ⊢
              clear hn HXT2 HAL HT htl
              obtain rfl := HI.out
              cases nb
              · go_wp2_with fail
                go_ret2
                exact ⟨rfl, HBw.out⟩
              · by_cases hn0 : n = 0
                · go_wp2_with fail
                  go_ret2
                  exact ⟨rfl, HBw.out⟩
                · have b0 : (n == 0) = false := beq_eq_false_iff_ne.2 hn0
                  go_wp2_with fail
                  go_ret2
                  exact ⟨rfl, HBw.out⟩
            case pos =>
              have hik : (k : Int) < (t.size : Int) := by omega
              have hts : t.data.toList.take (k + 1) = t.data.toList.take k ++ [t[k]] := by
                rw [List.take_succ_eq_append_getElem (by omega)]; rfl
              obtain ⟨hb1, hb2⟩ := numL_bd k (t.data.toList.take k) (by simp; omega) HAL.out
              have hb3 : numL (t.data.toList.take k) < 100000000 := Int.lt_of_lt_of_le hb2 (by
                have hq : ∀ m : Nat, m < 9 → (10 : Int) ^ m ≤ 100000000 := by decide
                exact hq k (by omega))
              have HNX : Hid (numL (t.data.toList.take (k + 1)) = numL (t.data.toList.take k) * 10 + ((t[k].toNat : Int) - 48)) := by
                unfold Hid; rw [hts, numL_snoc]
              have HAX : Hid (digC t[k] = true → (t.data.toList.take (k + 1)).all digC = true) := by
                intro h
                rw [hts, List.all_append, HAL.out]; simp [h]
              have HBX : Hid (digC t[k] = false → ix = (0, false)) := by
                intro h
                rw [HXT2.out, if_neg]
                intro h2
                rw [List.all_eq_true] at h2
                have := h2 t[k] (by rw [show t[k] = t.data.toList[k]'(by omega) from rfl]; exact List.getElem_mem _)
                rw [h] at this; cases this
              obtain ⟨n, hn⟩ : ∃ n, n = numL (t.data.toList.take k) := ⟨_, rfl⟩
              rw [← hn] at hb1 hb3 HNX ⊢
              clear hb2 hn htl hts
              by_cases hd : 48 ≤ (t[k].toNat : Int) ∧ (t[k].toNat : Int) ≤ 57
              · have HD : Hid (digC t[k] = true) := by unfold Hid digC; simp only [Bool.and_eq_true, decide_eq_true_eq]; omega
                obtain ⟨d1, d2⟩ := hd
                have d3 : ¬ (t[k].toNat : Int) < 48 := by omega
                have d4 : ¬ (57 : Int) < (t[k].toNat : Int) := by omega
                go_wp2_with fail
                go_round
                case rel => exact ⟨k + 1, by omega, by rw [HNX.out], by go_num, HAX.out HD.out⟩
                case measure => simp [intOf]; omega
              · have HD : Hid (digC t[k] = false) := by unfold Hid digC; simp only [Bool.and_eq_false_iff, decide_eq_false_iff_not]; omega
                have HI : Hid (ix = (0, false)) := HBX.out HD.out
                obtain rfl := HI.out
                clear HI HXT2 HBX HNX HAX
                by_cases d1 : (t[k].toNat : Int) < 48
                · clear hd
                  go_wp2_with fail
                  go_ret2
                  exact ⟨rfl, HBw.out⟩
                · have d3 : (57 : Int) < (t[k].toNat : Int) := by omega
                  clear hd
                  go_wp2_with fail
                  go_ret2
                  exact ⟨rfl, HBw.out⟩
end Go.Proofs.YtimlmekgapdkiaaDoor
