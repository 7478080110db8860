/- an attribute's value (the program's tree); the document's order: of numbers that are no nodes; the program's tree asked for what is no node -/
import Derived.Test.YtimlmekgapdkiaaGreatDoorUa
import Derived.Test.YtimlmekgapdkiaaGreatDoorWo
namespace Go.Proofs.YtimlmekgapdkiaaGreatDoor
set_option linter.unusedVariables false
set_option linter.unusedSimpArgs false
open Go.RowKit Go.Cas

def atv : List (ByteArray × ByteArray) → ByteArray → Option ByteArray
  | [], _ => none
  | p :: r, s => if p.1 = s then some p.2 else atv r s
theorem atv_hit : ∀ (l : List (ByteArray × ByteArray)) (s : ByteArray) (v : ByteArray), atv l s = some v → ∃ k : Nat, fnd l s = (k : Int) ∧ ∃ p, l[k]? = some p ∧ p.2 = v := by
  intro l
  induction l with
  | nil => intro s v h; cases h
  | cons a l ih =>
    intro s v h
    unfold atv at h
    by_cases h0 : a.1 = s
    · rw [if_pos h0] at h
      injection h with h
      exact ⟨0, by simp [fnd, h0], a, rfl, h⟩
    · rw [if_neg h0] at h
      obtain ⟨k, h1, p, h2, h3⟩ := ih s v h
      refine ⟨k + 1, ?_, p, by simpa using h2, h3⟩
      simp only [fnd, if_neg h0, h1]
      rw [if_neg (by omega)]; omega
theorem atv_none : ∀ (l : List (ByteArray × ByteArray)) (s : ByteArray), atv l s = none → fnd l s = -1 := by
  intro l
  induction l with
  | nil => intro s _; rfl
  | cons a l ih =>
    intro s h
    unfold atv at h
    by_cases h0 : a.1 = s
    · rw [if_pos h0] at h; cases h
    · rw [if_neg h0] at h
      have := ih s h
      simp only [fnd, if_neg h0, this]; rfl
def AvRet (o : Option ByteArray) (w : World) (e : Ending) (w' : World) : Prop := e = .returned (.tuple #[.string (o.getD ByteArray.empty), .bool o.isSome]) ∧ Below w.heap.size w w'
set_option maxRecDepth 100000 in
set_option maxHeartbeats 4000000 in
theorem c_Attr {w : World} {B R : Nat} {F : Nat → Prop} {T : List Nod} {D : List (Value × List Nod)} {i : Nat} {x : Nod} (h : TS B R T D F w) (hT : T.length ≤ 400) (hx : T[i]? = some x) (hk : x.at_.length ≤ 1000000) (nm : ByteArray) :
    Calls Tryz.prog 42 #[.pointer (some ⟨R, 0, none⟩), .int .i64 (i : Int), .string nm] w (AvRet (atv x.at_ nm) w) := by
  obtain ⟨L, cap, uv, Z, M, h1, hM, _⟩ := h.ns
  obtain ⟨y, hy, rfl⟩ := nv_get hM hx
  have hl : M.length ≤ 400 := by rw [← hM] at hT; simpa using hT
  have hi := (List.getElem?_eq_some_iff.1 hy).1
  have HI := Lib.hid (c_is_yes h1 i hi hl)
  have hii : (i : Int) < (M.length : Int) := by omega
  have hrd := (h1.rd y (List.mem_of_getElem? hy)).1.toS (fun k hz => (h1.z k hz).2.1)
  have HRD := Lib.hid hrd
  have HF := Lib.hid (c_find (s := nm) hrd (by omega) (Nat.le_refl _))
  obtain ⟨_, A, c, hva, _, _⟩ := id hrd
  have HN : Hid (∀ W', Below w.heap.size w W' → W'.cell? ⟨R, 0, none⟩ = some (.slice (some ⟨L, 0, none⟩) M.length cap) ∧ R < W'.heap.size ∧ L < W'.heap.size ∧ W'.cell? ⟨L, i * 6 + 3, none⟩ = some (.slice A y.x.at_.length c)) := fun W' hb => by
    have n1 := h1.below hb
    exact ⟨n1.heads.1, n1.ltR, n1.ltL, by rw [(n1.cell hy).2.1, hva]⟩
  obtain ⟨g0, hr, hrL, a3⟩ := HN.out w (Below.refl _ _)
  have HVA := Lib.hid hva
  rw [hva] at HF HRD
  clear h h1 hM hx hy hrd hva hT
  cases ha : atv y.x.at_ nm with
  | none =>
    have hf := atv_none _ _ ha
    rw [hf] at HF
    clear ha hf
    go_enter Tryz.func42, Tryz.ntmps42
    go_wp2_with (first | (go_at_call 45; refine (HI.out).mono ?_; rintro e w' ⟨rfl, rfl⟩) | (go_at_call 61; refine (HF.out).mono ?_; rintro e w1 ⟨rfl, hb⟩; have HB := Lib.hid hb; clear hb))
    go_ret2
    exact ⟨rfl, HB.out⟩
  | some v =>
    obtain ⟨k, hf, p, hp, rfl⟩ := atv_hit _ _ _ ha
    rw [hf] at HF
    obtain ⟨m, hm⟩ : ∃ m, m = y.x.at_.length := ⟨_, rfl⟩
    have hkm : k < m := by rw [hm]; exact (List.getElem?_eq_some_iff.1 hp).1
    have hkmi : (k : Int) < (m : Int) := by omega
    have hk0 : (0 : Int) ≤ (k : Int) := by omega
    rw [← hm] at a3 HF HN HRD hk
    obtain ⟨ga, oa, rfl, hga, hca⟩ := rd_at HRD.out (p := p) hp
    have HCA := Lib.hid hca
    clear ha hf hp hm hca
    go_enter Tryz.func42, Tryz.ntmps42
    go_upto_region 4 with (first | (go_at_call 45; refine (HI.out).mono ?_; rintro e w' ⟨rfl, rfl⟩) | (go_at_call 61; refine (HF.out).mono ?_; rintro e w1 ⟨rfl, hb⟩; have HB := Lib.hid hb; clear hb))
    obtain ⟨q0, qr, qL, q3⟩ := HN.out w1 HB.out
    obtain ⟨_, c1⟩ := HCA.out w1 HB.out
    go_wp2_with fail
    go_ret2
    exact ⟨rfl, HB.out⟩
end Go.Proofs.YtimlmekgapdkiaaGreatDoor
namespace Go.Proofs.YtimlmekgapdkiaaGreatDoor
set_option linter.unusedVariables false
set_option linter.unusedSimpArgs false
open Go.RowKit Go.Cas

def isNd (T : List Nod) (z : Int) : Bool := decide (0 ≤ z ∧ z < (T.length : Int))
theorem c_rHasZ {w : World} {B R n : Nat} {τ : Nat → Nat} {T : List Nod} (h : RS B R T n τ w) (hT : T.length ≤ 400) (z : Int) :
    Calls Tryz.prog 43 #[.pointer (some ⟨R, 0, none⟩), .int .i64 z] w fun e w' => e = .returned (.bool (isNd T z)) ∧ w = w' := by
  by_cases hz : 0 ≤ z ∧ z < (T.length : Int)
  · obtain ⟨q, rfl⟩ := Int.eq_ofNat_of_zero_le hz.1
    rw [show isNd T (q : Int) = true from decide_eq_true hz]
    exact c_rHas h q (by omega) hT
  · rw [show isNd T z = false from decide_eq_false hz]
    exact c_rHasNo h z (by omega) hT
theorem c_rOrder_no {w : World} {B R n : Nat} {τ : Nat → Nat} {T : List Nod} (h : RS B R T n τ w) (hT : T.length ≤ 400) (a b : Int) (hn : a < 0 ∨ (T.length : Int) ≤ a ∨ b < 0 ∨ (T.length : Int) ≤ b) :
    Calls Tryz.prog 41 #[.pointer (some ⟨R, 0, none⟩), .int .i64 a, .int .i64 b] w (OrRet w (0, false)) := by
  have HA := Lib.hid (c_rHasZ h hT a)
  have HB := Lib.hid (c_rHasZ h hT b)
  have hab : isNd T a = false ∨ (isNd T a = true ∧ isNd T b = false) := by
    unfold isNd
    by_cases h1 : 0 ≤ a ∧ a < (T.length : Int)
    · right; exact ⟨decide_eq_true h1, decide_eq_false (by omega)⟩
    · left; exact decide_eq_false h1
  clear h hn
  rcases hab with h1 | ⟨h1, h2⟩
  · rw [h1] at HA
    clear h1
    obtain ⟨bb, hbb⟩ : ∃ bb, bb = isNd T b := ⟨_, rfl⟩
    rw [← hbb] at HB
    clear hbb
    cases bb
    all_goals
      go_enter Tryz.func41, Tryz.ntmps41
      go_wp2_with (go_at_call 43; first | ((with_reducible refine (HA.out).mono ?_); rintro e w' ⟨rfl, rfl⟩) | ((with_reducible refine (HB.out).mono ?_); rintro e w' ⟨rfl, rfl⟩))
      go_ret2
      exact ⟨rfl, Below.refl _ _⟩
  · rw [h1] at HA
    rw [h2] at HB
    clear h1 h2
    go_enter Tryz.func41, Tryz.ntmps41
    go_wp2_with (go_at_call 43; first | ((with_reducible refine (HA.out).mono ?_); rintro e w' ⟨rfl, rfl⟩) | ((with_reducible refine (HB.out).mono ?_); rintro e w' ⟨rfl, rfl⟩))
    go_ret2
    exact ⟨rfl, Below.refl _ _⟩
section
variable {w : World} {B R : Nat} {F : Nat → Prop} {T : List Nod} {D : List (Value × List Nod)} {z : Int}
theorem c_KindZ (h : TS B R T D F w) (hT : T.length ≤ 400) (hz : z < 0 ∨ (T.length : Int) ≤ z) : Calls Tryz.prog 10 #[.pointer (some ⟨R, 0, none⟩), .int .i64 z] w fun e w' => e = .returned (.int .i64 0) ∧ w = w' := by
  obtain ⟨L, cap, uv, Z, M, h1, hM, _⟩ := h.ns
  have hlM : M.length = T.length := by rw [← hM]; simp
  have HI := Lib.hid (c_is_no h1 z (by omega) (by omega))
  clear h h1 hM hlM hz
  go_enter Tryz.func10, Tryz.ntmps10
  go_wp2_with (go_at_call 45; refine (HI.out).mono ?_; rintro e w' ⟨rfl, rfl⟩)
  go_ret
  exact ⟨rfl, rfl⟩
theorem c_TagZ (h : TS B R T D F w) (hT : T.length ≤ 400) (hz : z < 0 ∨ (T.length : Int) ≤ z) : Calls Tryz.prog 11 #[.pointer (some ⟨R, 0, none⟩), .int .i64 z] w fun e w' => e = .returned (.string ByteArray.empty) ∧ w = w' := by
  obtain ⟨L, cap, uv, Z, M, h1, hM, _⟩ := h.ns
  have hlM : M.length = T.length := by rw [← hM]; simp
  have HI := Lib.hid (c_is_no h1 z (by omega) (by omega))
  clear h h1 hM hlM hz
  go_enter Tryz.func11, Tryz.ntmps11
  go_wp2_with (go_at_call 45; refine (HI.out).mono ?_; rintro e w' ⟨rfl, rfl⟩)
  go_ret
  exact ⟨rfl, rfl⟩
theorem c_WordsZ (h : TS B R T D F w) (hT : T.length ≤ 400) (hz : z < 0 ∨ (T.length : Int) ≤ z) : Calls Tryz.prog 12 #[.pointer (some ⟨R, 0, none⟩), .int .i64 z] w fun e w' => e = .returned (.string ByteArray.empty) ∧ w = w' := by
  obtain ⟨L, cap, uv, Z, M, h1, hM, _⟩ := h.ns
  have hlM : M.length = T.length := by rw [← hM]; simp
  have HI := Lib.hid (c_is_no h1 z (by omega) (by omega))
  clear h h1 hM hlM hz
  go_enter Tryz.func12, Tryz.ntmps12
  go_wp2_with (go_at_call 45; refine (HI.out).mono ?_; rintro e w' ⟨rfl, rfl⟩)
  go_ret
  exact ⟨rfl, rfl⟩
theorem c_ParentZ (h : TS B R T D F w) (hT : T.length ≤ 400) (hz : z < 0 ∨ (T.length : Int) ≤ z) : Calls Tryz.prog 13 #[.pointer (some ⟨R, 0, none⟩), .int .i64 z] w fun e w' => e = .returned (.int .i64 (-1)) ∧ w = w' := by
  obtain ⟨L, cap, uv, Z, M, h1, hM, _⟩ := h.ns
  have hlM : M.length = T.length := by rw [← hM]; simp
  have HI := Lib.hid (c_is_no h1 z (by omega) (by omega))
  clear h h1 hM hlM hz
  go_enter Tryz.func13, Tryz.ntmps13
  go_wp2_with (go_at_call 45; refine (HI.out).mono ?_; rintro e w' ⟨rfl, rfl⟩)
  go_ret
  exact ⟨rfl, rfl⟩
theorem c_KidsZ (h : TS B R T D F w) (hT : T.length ≤ 400) (hz : z < 0 ∨ (T.length : Int) ≤ z) : Calls Tryz.prog 17 #[.pointer (some ⟨R, 0, none⟩), .int .i64 z] w fun e w' => e = .returned (.slice none 0 0) ∧ w = w' := by
  obtain ⟨L, cap, uv, Z, M, h1, hM, _⟩ := h.ns
  have hlM : M.length = T.length := by rw [← hM]; simp
  have HI := Lib.hid (c_is_no h1 z (by omega) (by omega))
  clear h h1 hM hlM hz
  go_enter Tryz.func17, Tryz.ntmps17
  go_wp2_with (go_at_call 45; refine (HI.out).mono ?_; rintro e w' ⟨rfl, rfl⟩)
  go_ret
  exact ⟨rfl, rfl⟩
theorem c_AttrsZ (h : TS B R T D F w) (hT : T.length ≤ 400) (hz : z < 0 ∨ (T.length : Int) ≤ z) : Calls Tryz.prog 15 #[.pointer (some ⟨R, 0, none⟩), .int .i64 z] w fun e w' => e = .returned (.slice none 0 0) ∧ w = w' := by
  obtain ⟨L, cap, uv, Z, M, h1, hM, _⟩ := h.ns
  have hlM : M.length = T.length := by rw [← hM]; simp
  have HI := Lib.hid (c_is_no h1 z (by omega) (by omega))
  clear h h1 hM hlM hz
  go_enter Tryz.func15, Tryz.ntmps15
  go_wp2_with (go_at_call 45; refine (HI.out).mono ?_; rintro e w' ⟨rfl, rfl⟩)
  go_ret
  exact ⟨rfl, rfl⟩
theorem c_UnderZ (h : TS B R T D F w) (hT : T.length ≤ 400) (hz : z < 0 ∨ (T.length : Int) ≤ z) : Calls Tryz.prog 18 #[.pointer (some ⟨R, 0, none⟩), .int .i64 z] w fun e w' => e = .returned (.slice none 0 0) ∧ w = w' := by
  obtain ⟨L, cap, uv, Z, M, h1, hM, _⟩ := h.ns
  have hlM : M.length = T.length := by rw [← hM]; simp
  have HI := Lib.hid (c_is_no h1 z (by omega) (by omega))
  clear h h1 hM hlM hz
  go_enter Tryz.func18, Tryz.ntmps18
  go_wp2_with (go_at_call 45; refine (HI.out).mono ?_; rintro e w' ⟨rfl, rfl⟩)
  go_ret
  exact ⟨rfl, rfl⟩
end
end Go.Proofs.YtimlmekgapdkiaaGreatDoor
