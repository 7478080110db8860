/- widths of texts: the program's and the reference's -/
import Derived.Test.YtnjckpgacbibhaaIc
import Derived.Laws.RangeAny
namespace Go.Proofs.Ytnjckpgacbibhaa
set_option linter.unusedVariables false
set_option linter.unusedSimpArgs false
open Go.RowKit

def wSum (z : Int) : List (Int × Nat) → Int
  | [] => 0
  | (r, _) :: l => z * adv r / 1000 + wSum z l
def wid (z : Int) (s : ByteArray) : Int := wSum z (runesFrom s 0)
theorem term_bd (z r : Int) (h0 : 0 ≤ z) (h1 : z ≤ 16777216) : 0 ≤ z * adv r ∧ z * adv r ≤ 16777216000 := by
  have := adv_bd r
  constructor
  · exact Int.mul_nonneg h0 this.1
  · have := Int.mul_le_mul h1 this.2 this.1 (by omega); omega

set_option maxHeartbeats 1000000 in
theorem c_Width (n : Int) (s : ByteArray) (w : World) (hs : s.size ≤ 100000) : Calls Try.prog 22 #[.int .i64 n, .string s] w fun e w' => e = .returned (.int .i64 (wid (zOf n) s)) ∧ Below w.heap.size w w' := by
  have hz := zOf_bd n
  go_enter Try.func22, Try.ntmps22
  go_wp2_with (go_at_call 59; refine (c_bounded _ _).mono ?_; rintro e w' ⟨rfl, rfl⟩)
  go_loopw [5] (fun a wr => ∃ (pos : Nat) (acc : Int), pos ≤ s.size + 4 ∧ wr = w.iter s pos ∧ a = .int .i64 acc ∧ Hid (acc + wSum (zOf n) (runesFrom s pos) = wid (zOf n) s) ∧ 0 ≤ acc ∧ acc ≤ 16777216 * pos) (fun _ wr => s.size + 4 - wr.iterPos w.heap.size)
  case atStart => exact ⟨0, 0, by omega, rfl, rfl, by unfold wid Hid; omega, by omega, by omega⟩
  case round =>
    obtain ⟨pos, acc, hp, rfl, rfl, H, h0, h1⟩ := hrel
    have hN := dN_pos s pos
    by_cases hlt : pos < s.size
    · have hnx := fun ty => run_next_any (P := Try.prog) w s pos ty hlt
      have hb := term_bd (zOf n) (dR s pos) hz.1 hz.2
      have hT : Hid (zOf n * adv (dR s pos) / 1000 + wSum (zOf n) (runesFrom s (pos + dN s pos)) = wSum (zOf n) (runesFrom s pos)) := by rw [runesFrom_in s pos hlt]; rfl
      obtain ⟨hb1, hb2⟩ := hb
      unfold dR at hb1 hb2
      unfold dN at hN
      go_wp2_with (go_at_call 60; refine (c_Advance _ _).mono ?_; rintro e w' ⟨rfl, rfl⟩)
      go_roundw
      case rel => exact ⟨pos + (Utf8.decode s pos).2, acc + zOf n * adv ((Utf8.decode s pos).1 : Int) / 1000, by omega, rfl, by go_num, by have h1 := hT.out; have h2 := H.out; unfold dR dN at h1; unfold Hid; omega, by omega, by omega⟩
      case measure => simp; omega
    · have hne := fun ty => run_next_end (P := Try.prog) w s pos ty hlt
      go_wp2_with fail
      go_ret
      have e : acc = wid (zOf n) s := by have := H.out; rw [runesFrom_out s pos hlt] at this; simpa [wSum] using this
      exact ⟨ret_int e, (Below.refl _ _).alloc (Nat.le_refl _) _⟩
end Go.Proofs.Ytnjckpgacbibhaa
