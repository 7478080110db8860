/- sheets: what a token opens; components: the document's -/
import Derived.Test.YtmhejppfjngbhaaDoorZb
namespace Go.Proofs.YtmhejppfjngbhaaDoor
set_option linter.unusedVariables false
set_option linter.unusedSimpArgs false
open Go.RowKit Go.Cas

abbrev tC : TypeId := 50
theorem inf_rc : (Tryd.prog.info? tC).map (fun i => (i.zero, i.size, i.bytes)) = some (some (.agg #[.string ⟨#[]⟩, .string ⟨#[]⟩, .string ⟨#[]⟩, .int .i64 0, .int .i64 0, .string ⟨#[]⟩, .slice none 0 0, .bool false]), 8, 112) := by kernel_rfl
theorem kdS_fn (k : Nat) (hk : k ≤ 10) : ((kdS k).toList == [102, 117, 110, 99]) = decide (k = 7) := by
  have : ∀ k : Fin 11, ((kdS k).data.toList == [102, 117, 110, 99]) = decide (k.val = 7) := by decide
  rw [ByteArray.toList_eq]
  exact this ⟨k, by omega⟩
theorem kdS_sg (k : Nat) (hk : k ≤ 10) : ((kdS k).toList == [115, 105, 103, 110]) = decide (k = 10) := by
  have : ∀ k : Fin 11, ((kdS k).data.toList == [115, 105, 103, 110]) = decide (k.val = 10) := by decide
  rw [ByteArray.toList_eq]
  exact this ⟨k, by omega⟩
theorem kdS_nm (k : Nat) (hk : k ≤ 10) : ((kdS k).toList == [110, 97, 109, 101]) = decide (k = 6) := by
  have : ∀ k : Fin 11, ((kdS k).data.toList == [110, 97, 109, 101]) = decide (k.val = 6) := by decide
  rw [ByteArray.toList_eq]
  exact this ⟨k, by omega⟩
theorem kdS_dm (k : Nat) (hk : k ≤ 10) : ((kdS k).toList == [100, 105, 109]) = decide (k = 5) := by
  have : ∀ k : Fin 11, ((kdS k).data.toList == [100, 105, 109]) = decide (k.val = 5) := by decide
  rw [ByteArray.toList_eq]
  exact this ⟨k, by omega⟩
set_option maxHeartbeats 4000000 in
set_option maxRecDepth 100000 in
theorem c_ends (t : Tk) (w : World) (hk : t.k ≤ 10) : Calls Tryd.prog 20 #[.agg #[.string (kdS t.k), .string t.t, .string t.u, .int .i64 (t.a : Int), .int .i64 (t.b : Int)]] w fun e w' => e = .returned (.string (opS (clz t))) ∧ Below w.heap.size w w' := by
  have b7 := kdS_fn t.k hk
  have b10 := kdS_sg t.k hk
  have hcz := clz_is t
  have q40 := beq_list t.t ⟨#[40]⟩
  have q91 := beq_list t.t ⟨#[91]⟩
  have q123 := beq_list t.t ⟨#[123]⟩
  rw [show (⟨#[40]⟩ : ByteArray).toList = [40] by rw [ByteArray.toList_eq]] at q40
  rw [show (⟨#[91]⟩ : ByteArray).toList = [91] by rw [ByteArray.toList_eq]] at q91
  rw [show (⟨#[123]⟩ : ByteArray).toList = [123] by rw [ByteArray.toList_eq]] at q123
  unfold isS at hcz
  obtain ⟨Z, hZ⟩ : ∃ Z, Z = clz t := ⟨_, rfl⟩
  rw [← hZ] at hcz ⊢
  generalize t.t = T at *
  generalize t.u = U at *
  generalize kdS t.k = K at *
  clear hZ hk
  by_cases h7 : t.k = 7
  · rw [decide_eq_true h7] at b7
    rw [if_pos h7] at hcz
    have HC := Lib.hid hcz
    clear hcz h7 b10 q40 q91 q123
    go_enter Tryd.func20, Tryd.ntmps20
    go_wp2_with fail
    go_ret
    exact ⟨by rw [HC.out]; rfl, bl_alloc (Below.refl _ _) _⟩
  · rw [decide_eq_false h7] at b7
    rw [if_neg h7] at hcz
    by_cases h10 : t.k = 10
    · rw [decide_eq_true h10] at b10
      simp only [decide_eq_true h10, Bool.true_and, decide_eq_true_eq] at hcz
      by_cases e40 : T = ⟨#[40]⟩
      · rw [decide_eq_true e40] at q40
        rw [if_pos e40] at hcz
        have HC := Lib.hid hcz
        clear hcz h7 h10 q91 q123 e40
        go_enter Tryd.func20, Tryd.ntmps20
        go_wp2_with fail
        go_ret
        exact ⟨by rw [HC.out]; rfl, bl_alloc (Below.refl _ _) _⟩
      · rw [decide_eq_false e40] at q40
        rw [if_neg e40] at hcz
        by_cases e91 : T = ⟨#[91]⟩
        · rw [decide_eq_true e91] at q91
          rw [if_pos e91] at hcz
          have HC := Lib.hid hcz
          clear hcz h7 h10 q123 e40 e91
          go_enter Tryd.func20, Tryd.ntmps20
          go_wp2_with fail
          go_ret
          exact ⟨by rw [HC.out]; rfl, bl_alloc (Below.refl _ _) _⟩
        · rw [decide_eq_false e91] at q91
          rw [if_neg e91] at hcz
          by_cases e123 : T = ⟨#[123]⟩
          · rw [decide_eq_true e123] at q123
            rw [if_pos e123] at hcz
            have HC := Lib.hid hcz
            clear hcz h7 h10 e40 e91 e123
            go_enter Tryd.func20, Tryd.ntmps20
            go_wp2_with fail
            go_ret
            exact ⟨by rw [HC.out]; rfl, bl_alloc (Below.refl _ _) _⟩
          · rw [decide_eq_false e123] at q123
            rw [if_neg e123] at hcz
            have HC := Lib.hid hcz
            clear hcz h7 h10 e40 e91 e123
            go_enter Tryd.func20, Tryd.ntmps20
            go_wp2_with fail
            go_ret
            exact ⟨by rw [HC.out]; rfl, bl_alloc (Below.refl _ _) _⟩
    · rw [decide_eq_false h10] at b10
      simp only [decide_eq_false h10, Bool.false_and, Bool.false_eq_true, if_false] at hcz
      have HC := Lib.hid hcz
      clear hcz h7 h10 q40 q91 q123
      go_enter Tryd.func20, Tryd.ntmps20
      go_wp2_with fail
      go_ret
      exact ⟨by rw [HC.out]; rfl, bl_alloc (Below.refl _ _) _⟩
theorem opS_nil (e : Nat) : ((opS e).toList == []) = decide (e = 0) := by
  unfold opS
  by_cases h : e = 0
  · rw [if_pos h, decide_eq_true h, ByteArray.toList_eq]; rfl
  · rw [if_neg h, decide_eq_false h, ByteArray.toList_eq]; rfl
set_option maxHeartbeats 4000000 in
set_option maxRecDepth 100000 in
theorem c_isSign (t : Tk) (e : Nat) (kv : Value) (c : Bool) (s : ByteArray) (w : World) (hk : t.k ≤ 10) : Calls Tryd.prog 43 #[.agg #[.string (kdS t.k), .string t.t, .string t.u, .int .i64 (t.a : Int), .int .i64 (t.b : Int), .string (opS e), kv, .bool c], .string s] w fun ev w' => ev = .returned (.bool (isS t s && decide (e = 0))) ∧ Below w.heap.size w w' := by
  have b10 := kdS_sg t.k hk
  have be := opS_nil e
  have q := beq_list t.t s
  obtain ⟨z, hz⟩ : ∃ z, z = (isS t s && decide (e = 0)) := ⟨_, rfl⟩
  have hz2 := hz
  unfold isS at hz2
  rw [← hz]
  generalize opS e = E at *
  generalize t.t = T at *
  generalize t.u = U at *
  generalize kdS t.k = K at *
  clear hz hk
  by_cases h10 : t.k = 10
  · rw [decide_eq_true h10] at b10
    by_cases hs : T = s
    · rw [decide_eq_true hs] at q
      rw [decide_eq_true h10, decide_eq_true hs, Bool.true_and, Bool.true_and] at hz2
      have HZ := Lib.hid hz2
      have HE := Lib.hid be
      clear hz2 h10 hs be
      go_enter Tryd.func43, Tryd.ntmps43
      go_wp2_with fail
      go_ret
      exact ⟨ret_bool (by rw [HZ.out, ← HE.out]; cases E.toList <;> rfl), bl_alloc (Below.refl _ _) _⟩
    · rw [decide_eq_false hs] at q
      rw [decide_eq_true h10, decide_eq_false hs, Bool.true_and, Bool.false_and] at hz2
      have HZ := Lib.hid hz2
      clear hz2 h10 hs be
      go_enter Tryd.func43, Tryd.ntmps43
      go_wp2_with fail
      go_ret
      exact ⟨ret_bool HZ.out.symm, bl_alloc (Below.refl _ _) _⟩
  · rw [decide_eq_false h10] at b10
    rw [decide_eq_false h10, Bool.false_and, Bool.false_and] at hz2
    have HZ := Lib.hid hz2
    clear hz2 h10 be q
    go_enter Tryd.func43, Tryd.ntmps43
    go_wp2_with fail
    go_ret
    exact ⟨ret_bool HZ.out.symm, bl_alloc (Below.refl _ _) _⟩
end Go.Proofs.YtmhejppfjngbhaaDoor
