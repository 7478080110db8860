/- the tree: Put and Take, whatever they are asked -/
import Derived.Test.YtimlmekgapdkiaaGreatDoorVi
namespace Go.Proofs.YtimlmekgapdkiaaGreatDoor
set_option linter.unusedVariables false
set_option linter.unusedSimpArgs false
open Go.RowKit Go.Cas

theorem c_cut_any {w : World} {B R i : Nat} {F : Nat → Prop} {T : List Nod} {d : Nat → Nat} {D : List (Value × List Nod)} (h : TS B R T D F w) (hW : WF T d) (hT : T.length ≤ 400) (hi : i < T.length) :
    Calls Tryz.prog 53 #[.pointer (some ⟨R, 0, none⟩), .int .i64 (i : Int)] w (CtRet B R i T D F w) := by
  rcases hW.pa i hi with e | ⟨e, _⟩
  · exact c_cut_none h hT (ndA_get hi) e
  · obtain ⟨q, hq⟩ := Int.eq_ofNat_of_zero_le e
    exact c_cut_held h hW hT hi hq
theorem c_PutAny {w : World} {B R p i at_ : Nat} {F : Nat → Prop} {T : List Nod} {d : Nat → Nat} {D : List (Value × List Nod)} (h : TS B R T D F w) (hW : WF T d) (hD : D.length ≤ 1000000000000) (hT : T.length ≤ 400) (hp : p < T.length) (hi : i < T.length) (hi0 : i ≠ 0)
    (hk : (ndA T p).k = 1 ∨ (ndA T p).k = 2) (ha : ¬ Anc T i p) (hat : at_ ≤ (ndA (cutE T i) p).ki.length) :
    Calls Tryz.prog 25 #[.pointer (some ⟨R, 0, none⟩), .int .i64 (p : Int), .int .i64 (i : Int), .int .i64 (at_ : Int)] w (StRet B R (putG T p i at_) T D F w) := by
  have hWc := hW.cut hi
  have hl := nodup_lt _ _ (hWc.nd p (by rw [cutE_len]; exact hp)) (fun x hx => (hWc.ki p (by rw [cutE_len]; exact hp) x hx).1)
  rw [cutE_len] at hl
  exact c_Put h hW hD hT (ndA_get hp) hi hi0 hk ha hat (fun w2 h2 => c_cut_any h2 hW hT hi) (insOk_any _ _ _ (by omega) hat)
/-- how many may stand among a node's kids beside another one -/
def kLen (T : List Nod) (p i : Nat) : Nat := (ndA (cutE T i) p).ki.length
theorem kLen_eq {T : List Nod} {d : Nat → Nat} (hW : WF T d) {p i : Nat} (hi : i < T.length) (hne : p ≠ i) : (ndA T p).ki.length = if (ndA T i).pa = (p : Int) then kLen T p i + 1 else kLen T p i := by
  unfold kLen
  by_cases hq : 0 ≤ (ndA T i).pa
  · obtain ⟨q, hpa⟩ := Int.eq_ofNat_of_zero_le hq
    have hpa : (ndA T i).pa = (q : Int) := hpa
    rw [cutE_nd hW hi hpa, if_neg hne]
    by_cases hpq : p = q
    · subst hpq
      rw [if_pos rfl, if_pos hpa]
      have hm := hW.up i hi hq
      rw [hpa] at hm
      have e : ((p : Int)).toNat = p := rfl
      rw [e] at hm
      show (ndA T p).ki.length = ((ndA T p).ki.erase i).length + 1
      rw [List.length_erase_of_mem hm]
      have := List.length_pos_of_mem hm
      omega
    · rw [if_neg hpq, if_neg (by omega)]
  · rw [if_neg (by omega), cutE_none (by omega)]
theorem c_Put_no {w : World} {B R : Nat} {F : Nat → Prop} {T : List Nod} {D : List (Value × List Nod)} {a i at_ : Int} {pe : Nat → Addr} (h : TS B R T D F w) (hG : GE w B pe) (hT : T.length ≤ 400) (hn : (a < 0 ∨ (T.length : Int) ≤ a) ∨ (i < 0 ∨ (T.length : Int) ≤ i)) :
    Calls Tryz.prog 25 #[.pointer (some ⟨R, 0, none⟩), .int .i64 a, .int .i64 i, .int .i64 at_] w (ErrB pe 4 w) := by
  obtain ⟨w1, hw1⟩ : ∃ w1, w1 = (w.alloc (.cells #[.pointer (some ⟨R, 0, none⟩)] 23)).alloc (.cells #[.int .i64 a] 3) := ⟨_, rfl⟩
  obtain ⟨b, hb⟩ : ∃ b, b = w.heap.size := ⟨_, rfl⟩
  have hbk0 : Bk w1 b 23 #[.pointer (some ⟨R, 0, none⟩)] := by rw [hw1, hb]; exact (Bk.new _ _ _).alloc _
  have hbk1 : Bk w1 (b + 1) 3 #[.int .i64 a] := by rw [hw1, hb]; exact bk_new' _ _ _ (by simp)
  have hbl : Below w.heap.size w w1 := by rw [hw1]; exact bl_alloc (bl_alloc (Below.refl _ _) _) _
  have h2 := h.below hbl
  obtain ⟨L, cap, uv, Z, M, h1, hM, _⟩ := h2.ns
  have hlM : M.length = T.length := by rw [← hM]; simp
  have e0 : w1.cell? ⟨b, 0, none⟩ = some (.pointer (some ⟨R, 0, none⟩)) := hbk0.cell 0
  have e1 : w1.cell? ⟨b + 1, 0, none⟩ = some (.int .i64 a) := hbk1.cell 0
  have l1 := hbk1.lt
  have HG := Lib.hid (hG.below (hbl.mono hG.lt.2))
  have z1 := HG.out.node
  have z2 : 1 < w1.heap.size := by have := HG.out.lt; omega
  have HBL := Lib.hid hbl
  have HB := Lib.hid hb
  have HW1 := Lib.hid hw1
  by_cases ha : a < 0 ∨ (T.length : Int) ≤ a
  · have HI := Lib.hid (c_is_no h1 a (by omega) (by omega))
    clear h hG hT hw1 hb hbk0 hbk1 hbl h2 h1 hM hlM hn ha
    go_enter Tryz.func25, Tryz.ntmps25
    go_upto_region 1 with fail
    rw [← HW1.out, ← HB.out]
    go_wp2_with (go_at_call 45; refine (HI.out).mono ?_; rintro e w' ⟨rfl, rfl⟩)
    go_ret
    exact ⟨rfl, HBL.out⟩
  · obtain ⟨p, rfl⟩ : ∃ p : Nat, a = (p : Int) := ⟨a.toNat, by omega⟩
    have HI := Lib.hid (c_is_yes h1 p (by omega) (by omega))
    have HJ := Lib.hid (c_is_no h1 i (by omega) (by omega))
    clear h hG hT hw1 hb hbk0 hbk1 hbl h2 h1 hM hlM hn ha
    go_enter Tryz.func25, Tryz.ntmps25
    go_upto_region 1 with fail
    rw [← HW1.out, ← HB.out]
    go_wp2_with (go_at_call 45; (first | (with_reducible refine (HI.out).mono ?_) | (with_reducible refine (HJ.out).mono ?_)); rintro e w' ⟨rfl, rfl⟩)
    go_ret
    exact ⟨rfl, HBL.out⟩
set_option maxRecDepth 100000 in
set_option maxHeartbeats 8000000 in
/-- a node that may not be put, or not there -/
theorem c_Put_place {w : World} {B R p i : Nat} {F : Nat → Prop} {T : List Nod} {d : Nat → Nat} {D : List (Value × List Nod)} {at_ : Int} {pe : Nat → Addr} (h : TS B R T D F w) (hG : GE w B pe) (hW : WF T d) (hT : T.length ≤ 400) (hp : p < T.length) (hi : i < T.length)
    (hn : i = 0 ∨ ¬ ((ndA T p).k = 1 ∨ (ndA T p).k = 2) ∨ Anc T i p ∨ at_ < 0 ∨ (kLen T p i : Int) < at_) :
    Calls Tryz.prog 25 #[.pointer (some ⟨R, 0, none⟩), .int .i64 (p : Int), .int .i64 (i : Int), .int .i64 at_] w (ErrB pe 5 w) := by
  obtain ⟨w1, hw1⟩ : ∃ w1, w1 = (w.alloc (.cells #[.pointer (some ⟨R, 0, none⟩)] 23)).alloc (.cells #[.int .i64 (p : Int)] 3) := ⟨_, rfl⟩
  obtain ⟨b, hb⟩ : ∃ b, b = w.heap.size := ⟨_, rfl⟩
  have hbk0 : Bk w1 b 23 #[.pointer (some ⟨R, 0, none⟩)] := by rw [hw1, hb]; exact (Bk.new _ _ _).alloc _
  have hbk1 : Bk w1 (b + 1) 3 #[.int .i64 (p : Int)] := by rw [hw1, hb]; exact bk_new' _ _ _ (by simp)
  have hbl : Below w.heap.size w w1 := by rw [hw1]; exact bl_alloc (bl_alloc (Below.refl _ _) _) _
  have h2 := h.below hbl
  have hTS1 := Lib.hid h2
  have HWI : Hid (∀ n, Calls Tryz.prog 52 #[.pointer (some ⟨R, 0, none⟩), .int .i64 (p : Int), .int .i64 (i : Int)] (w1.drewN n) fun e w' => e = .returned (.bool (ancB T i p)) ∧ w1.drewN n = w') := fun n => c_within (i := i) (hTS1.out.drewN n) hW hT hp
  have hLen : p ≠ i → (ndA T p).ki.length = if (ndA T i).pa = (p : Int) then kLen T p i + 1 else kLen T p i := kLen_eq hW hi
  have hkl4 : (ndA T p).ki.length ≤ 400 := by
    have := nodup_lt _ _ (hW.nd p hp) (fun x hx => (hW.ki p hp x hx).1)
    omega
  obtain ⟨L, cap, uv, Z, M, h1, hM, _⟩ := h2.ns
  obtain ⟨y, hy, hyx⟩ := nv_get hM (ndA_get hp)
  obtain ⟨yi, hyi, hyix⟩ := nv_get hM (ndA_get hi)
  have hlM : M.length = T.length := by rw [← hM]; simp
  have HIS1 := Lib.hid (c_is_yes h1 p (by omega) (by omega))
  have HIS2 := Lib.hid (c_is_yes h1 i (by omega) (by omega))
  have e0 : w1.cell? ⟨b, 0, none⟩ = some (.pointer (some ⟨R, 0, none⟩)) := hbk0.cell 0
  have e1 : w1.cell? ⟨b + 1, 0, none⟩ = some (.int .i64 (p : Int)) := hbk1.cell 0
  have l1 := hbk1.lt
  obtain ⟨g0, _⟩ := h1.heads
  have hr := h1.ltR
  have hrL := h1.ltL
  obtain ⟨⟨a0, _, _⟩, _, _, a5⟩ := h1.cell hy
  obtain ⟨_, _, a4i, _⟩ := h1.cell hyi
  rw [hyx] at a0
  rw [hyix] at a4i
  have hrk := (h1.rd y (List.mem_of_getElem? hy)).2
  rw [hyx] at hrk
  obtain ⟨vk, hvk⟩ : ∃ vk, vk = y.vk := ⟨_, rfl⟩
  rw [← hvk] at a5 hrk
  obtain ⟨_, A2, c2, rfl, _, _⟩ := hrk
  have hpM : (p : Int) < (M.length : Int) := by omega
  have h0p : 0 ≤ (p : Int) := by omega
  have hiM : (i : Int) < (M.length : Int) := by omega
  have h0i : 0 ≤ (i : Int) := by omega
  have hl4 : M.length ≤ 400 := by omega
  obtain ⟨xk, hxk⟩ : ∃ xk, xk = (ndA T p).k := ⟨_, rfl⟩
  rw [← hxk] at a0 hn
  obtain ⟨nk, hnk⟩ : ∃ nk, nk = (ndA T p).ki.length := ⟨_, rfl⟩
  rw [← hnk] at a5 hLen hkl4
  obtain ⟨pi, hpi⟩ : ∃ pi, pi = (ndA T i).pa := ⟨_, rfl⟩
  rw [← hpi] at a4i hLen
  obtain ⟨kl, hkl⟩ : ∃ kl, kl = kLen T p i := ⟨_, rfl⟩
  rw [← hkl] at hLen hn
  have HG := Lib.hid (hG.below (hbl.mono hG.lt.2))
  have z1 := HG.out.place
  have z2 : 2 < w1.heap.size := by have := HG.out.lt; omega
  have HBL := Lib.hid hbl
  have HB := Lib.hid hb
  have HW1 := Lib.hid hw1
  have hself : i = p → Anc T i p := fun e => e ▸ .refl
  obtain ⟨ab, hab⟩ : ∃ ab, ab = ancB T i p := ⟨_, rfl⟩
  rw [← hab] at HWI
  have hab1 : ab = false → ¬ Anc T i p := fun e => ancB_false.1 (by rw [← hab]; exact e)
  have hab2 : ab = true → Anc T i p := fun e => ancB_true.1 (by rw [← hab]; exact e)
  have hab3 : Anc T i p → ab = true := fun e => by rw [hab]; exact ancB_true.2 e
  clear h hG hT hw1 hb hbk0 hbk1 hbl h2 h1 hM hy hyx hyi hyix hlM hp hi hvk hxk hnk hpi hkl hab
  by_cases hi0 : i = 0
  · subst hi0
    have HIS3 : Hid (Calls Tryz.prog 45 #[.pointer (some ⟨R, 0, none⟩), .int .i64 0] w1 fun e w' => e = .returned (.bool true) ∧ w1 = w') := HIS2.out
    clear hn hLen hab1 hab2 hab3 hself
    go_enter Tryz.func25, Tryz.ntmps25
    go_upto_region 1 with fail
    rw [← HW1.out, ← HB.out]
    go_upto_region 3 with (go_at_call 45; (first | (with_reducible refine (HIS1.out).mono ?_) | (with_reducible refine (HIS3.out).mono ?_)); rintro e w' ⟨rfl, rfl⟩)
    go_quiet (fail)
    go_wp2_with fail
    go_ret
    exact ⟨rfl, bl_drewN HBL.out _⟩
  have hii0 : ¬ (i : Int) = 0 := by omega
  have hii1 : ((i : Int) == 0) = false := by rw [beq_eq_false_iff_ne]; exact hii0
  by_cases hk : xk = 1 ∨ xk = 2
  case neg =>
    have hk1 : ¬ xk = 1 := fun e => hk (.inl e)
    have hk2 : ¬ xk = 2 := fun e => hk (.inr e)
    have b1 : (xk != 1) = true := by rw [bne_iff_ne]; exact hk1
    have b2 : (xk != 2) = true := by rw [bne_iff_ne]; exact hk2
    clear hn hLen hab1 hab2 hab3 hself hk
    go_enter Tryz.func25, Tryz.ntmps25
    go_upto_region 1 with fail
    rw [← HW1.out, ← HB.out]
    go_upto_region 3 with (go_at_call 45; (first | (with_reducible refine (HIS1.out).mono ?_) | (with_reducible refine (HIS2.out).mono ?_)); rintro e w' ⟨rfl, rfl⟩)
    go_quiet (fail)
    go_wp2_with fail
    go_ret
    exact ⟨rfl, bl_drewN HBL.out _⟩
  cases ab with
  | true =>
    clear hn hLen hab1 hab2 hab3 hself
    rcases hk with rfl | rfl
    all_goals
      go_enter Tryz.func25, Tryz.ntmps25
      go_upto_region 1 with fail
      rw [← HW1.out, ← HB.out]
      go_upto_region 3 with (go_at_call 45; (first | (with_reducible refine (HIS1.out).mono ?_) | (with_reducible refine (HIS2.out).mono ?_)); rintro e w' ⟨rfl, rfl⟩)
      go_quiet (fail)
      go_wp2_with (go_at_call 52; refine (HWI.out _).mono ?_; rintro e w' ⟨rfl, rfl⟩)
      go_ret
      exact ⟨rfl, bl_drewN HBL.out _⟩
  | false =>
    have hna := hab1 rfl
    have hat : at_ < 0 ∨ (kl : Int) < at_ := by
      rcases hn with e | e | e | e | e
      · exact absurd e hi0
      · exact absurd hk e
      · exact absurd e hna
      · exact .inl e
      · exact .inr e
    have hnk : pi = (p : Int) ∧ nk = kl + 1 ∨ ¬ pi = (p : Int) ∧ (pi == (p : Int)) = false ∧ nk = kl := by
      have := hLen (fun e => hna (hself e.symm))
      by_cases hpp : pi = (p : Int)
      · exact .inl ⟨hpp, by rw [if_pos hpp] at this; exact this⟩
      · exact .inr ⟨hpp, by rw [beq_eq_false_iff_ne]; exact hpp, by rw [if_neg hpp] at this; exact this⟩
    clear hn hLen hab1 hab2 hab3 hself hna
    have hat2 : at_ < 0 ∨ (¬ at_ < 0 ∧ (kl : Int) < at_) := by omega
    clear hat
    rcases hat2 with ha1 | ⟨ha1, ha2⟩
    all_goals
      rcases hnk with ⟨rfl, rfl⟩ | ⟨hpp, hpp2, rfl⟩
      all_goals
        rcases hk with rfl | rfl
        all_goals
          go_enter Tryz.func25, Tryz.ntmps25
          go_upto_region 1 with fail
          rw [← HW1.out, ← HB.out]
          go_upto_region 3 with (go_at_call 45; (first | (with_reducible refine (HIS1.out).mono ?_) | (with_reducible refine (HIS2.out).mono ?_)); rintro e w' ⟨rfl, rfl⟩)
          go_quiet (fail)
          go_upto_region 6 with (go_at_call 52; refine (HWI.out _).mono ?_; rintro e w' ⟨rfl, rfl⟩)
          go_quiet (fail)
          go_upto_region 7 with fail
          go_quiet (fail)
          go_wp2_with fail
          go_ret
          exact ⟨rfl, bl_drewN HBL.out _⟩
end Go.Proofs.YtimlmekgapdkiaaGreatDoor
