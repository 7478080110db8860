/- contracts of the little functions on runes -/
import Derived.Test.YtnjckpgacbibhaaIa
import Derived.Test.YtnjckpgacbibhaaRune
namespace Go.Proofs.Ytnjckpgacbibhaa
set_option linter.unusedVariables false
set_option linter.unusedSimpArgs false
open Go.RowKit

def wide (r : Int) : Bool := decide (0x2E80 ≤ r ∧ r ≤ 0xD7FF ∨ 0xF900 ≤ r ∧ r ≤ 0xFAFF ∨ 0xFF01 ≤ r ∧ r ≤ 0xFF60)
def letB (r : Int) : Bool := decide (97 ≤ r ∧ r ≤ 122 ∨ 65 ≤ r ∧ r ≤ 90 ∨ 0xC0 ≤ r ∧ r < 0x250 ∧ r ≠ 0xD7 ∧ r ≠ 0xF7)
def glueB (r : Int) : Bool := decide (r = 0xA0 ∨ r = 0x2060)
def hypB (r : Int) : Bool := decide (r = 45 ∨ r = 0x2010)
def opensB (r : Int) : Bool := decide (r = 0x300C ∨ r = 0x300E ∨ r = 0xFF08)
def closesB (r : Int) : Bool := decide (r = 0x3001 ∨ r = 0x3002 ∨ r = 0x300D ∨ r = 0x300F ∨ r = 0xFF09 ∨ r = 0xFF0C)
def wAdv (b : Bool) : Int := if b then 1000 else 500
theorem wAdv_t {b : Bool} (h : b = true) : wAdv b = 1000 := by rw [h]; rfl
theorem wAdv_f {b : Bool} (h : b = false) : wAdv b = 500 := by rw [h]; rfl
def adv (r : Int) : Int :=
  if r < 32 ∨ r = 0x200B ∨ r = 0xAD ∨ r = 0x2060 ∨ 0x300 ≤ r ∧ r < 0x370 then 0
  else if r = 32 ∨ r = 0xA0 then 250
  else if r = 105 ∨ r = 106 ∨ r = 108 ∨ r = 39 ∨ r = 46 ∨ r = 44 ∨ r = 58 ∨ r = 59 ∨ r = 33 ∨ r = 124 then 300
  else if r = 109 ∨ r = 119 ∨ r = 77 ∨ r = 87 ∨ r = 64 ∨ r = 37 then 800
  else if 65 ≤ r ∧ r ≤ 90 then 650
  else wAdv (wide r)
theorem adv_bd (r : Int) : 0 ≤ adv r ∧ adv r ≤ 1000 := by
  have h : 0 ≤ wAdv (wide r) ∧ wAdv (wide r) ≤ 1000 := by cases wide r <;> simp [wAdv]
  unfold adv; omega
theorem c_Wide (r : Int) (w : World) : Calls Try.prog 66 #[.int .i32 r] w fun e w' => e = .returned (.bool (wide r)) ∧ w = w' := by
  go_enter Try.func66, Try.ntmps66
  go_wp2
  all_goals (go_ret; refine ⟨ret_bool (Bool.eq_iff_iff.2 ?_), rfl⟩; (try simp only [beq_iff_eq, beq_eq_false_iff_ne, ne_eq] at *); first | (simp [wide]; done) | (simp [wide]; omega))
theorem c_glue (r : Int) (w : World) : Calls Try.prog 63 #[.int .i32 r] w fun e w' => e = .returned (.bool (glueB r)) ∧ w = w' := by
  go_enter Try.func63, Try.ntmps63
  go_wp2
  all_goals (go_ret; refine ⟨ret_bool (Bool.eq_iff_iff.2 ?_), rfl⟩; (try simp only [beq_iff_eq, beq_eq_false_iff_ne, ne_eq] at *); first | (simp [glueB]; done) | (simp [glueB]; omega))
theorem c_letter (r : Int) (w : World) : Calls Try.prog 65 #[.int .i32 r] w fun e w' => e = .returned (.bool (letB r)) ∧ w = w' := by
  go_enter Try.func65, Try.ntmps65
  go_wp2
  all_goals (go_ret; refine ⟨ret_bool (Bool.eq_iff_iff.2 ?_), rfl⟩; (try simp only [beq_iff_eq, beq_eq_false_iff_ne, ne_eq] at *); first | (simp [letB]; done) | (simp [letB]; omega))
theorem c_hyphen (r : Int) (w : World) : Calls Try.prog 64 #[.int .i32 r] w fun e w' => e = .returned (.bool (hypB r)) ∧ w = w' := by
  go_enter Try.func64, Try.ntmps64
  go_wp2
  all_goals (go_ret; refine ⟨ret_bool (Bool.eq_iff_iff.2 ?_), rfl⟩; (try simp only [beq_iff_eq, beq_eq_false_iff_ne, ne_eq] at *); first | (simp [hypB]; done) | (simp [hypB]; omega))
theorem c_opens (r : Int) (w : World) : Calls Try.prog 67 #[.int .i32 r] w fun e w' => e = .returned (.bool (opensB r)) ∧ w = w' := by
  go_enter Try.func67, Try.ntmps67
  go_wp2
  all_goals (go_ret; refine ⟨ret_bool (Bool.eq_iff_iff.2 ?_), rfl⟩; (try simp only [beq_iff_eq, beq_eq_false_iff_ne, ne_eq] at *); first | (simp [opensB]; done) | (simp [opensB]; omega))
theorem c_closes (r : Int) (w : World) : Calls Try.prog 68 #[.int .i32 r] w fun e w' => e = .returned (.bool (closesB r)) ∧ w = w' := by
  go_enter Try.func68, Try.ntmps68
  go_wp2
  all_goals (go_ret; refine ⟨ret_bool (Bool.eq_iff_iff.2 ?_), rfl⟩; (try simp only [beq_iff_eq, beq_eq_false_iff_ne, ne_eq] at *); first | (simp [closesB]; done) | (simp [closesB]; omega))
theorem c_isLetter (r : Int) (w : World) : Calls Try.prog 90 #[.int .i64 r] w fun e w' => e = .returned (.bool (letB r)) ∧ w = w' := by
  go_enter Try.func90, Try.ntmps90
  go_wp2
  all_goals (go_ret; refine ⟨ret_bool (Bool.eq_iff_iff.2 ?_), rfl⟩; (try simp only [beq_iff_eq, beq_eq_false_iff_ne, ne_eq] at *); first | (simp [letB]; done) | (simp [letB]; omega))
theorem c_Advance (r : Int) (w : World) : Calls Try.prog 60 #[.int .i32 r] w fun e w' => e = .returned (.int .i64 (adv r)) ∧ w = w' := by
  go_enter Try.func60, Try.ntmps60
  go_wp2_with (go_at_call 66; refine (c_Wide _ _).mono ?_; rintro e w' ⟨rfl, rfl⟩)
  all_goals (go_ret; refine ⟨ret_int ?_, rfl⟩; unfold adv; (try simp only [beq_iff_eq, beq_eq_false_iff_ne, ne_eq] at *); first | omega | (have hv := wAdv_t (by assumption : wide r = true); omega) | (have hv := wAdv_f (by assumption : wide r = false); omega))
theorem c_between1 (n a b : Int) (w : World) : Calls Try.prog 88 #[.int .i64 n, .int .i64 a, .int .i64 b] w fun e w' => e = .returned (.bool (btw n a b)) ∧ w = w' := by
  go_enter Try.func88, Try.ntmps88
  go_wp2
  all_goals (go_ret; refine ⟨ret_bool (Bool.eq_iff_iff.2 ?_), rfl⟩; (try simp only [beq_iff_eq, beq_eq_false_iff_ne, ne_eq] at *); first | (simp [btw]; done) | (simp [btw]; omega))
theorem wrap_byte (c : UInt8) : wrap64 (c.toNat : Int) = (c.toNat : Int) := by have := c.toNat_lt; rw [IntWalk.wrap64_in _ ⟨by omega, by omega⟩]
theorem byteAt_in (s : ByteArray) (i : Nat) (h : i < s.size) : (s[i].toNat : Int) = byteAt s i := by
  unfold byteAt; rw [if_pos h]; congr 2
  show _ = s.get! i
  simp [ByteArray.get!, getElem!_pos, h]; rfl
theorem c_byteAt (s : ByteArray) (i : Int) (w : World) (_ : s.size ≤ 9223372036854775807) (hi : 0 ≤ i) : Calls Try.prog 87 #[.string s, .int .i64 i] w fun e w' => e = .returned (.int .i64 (byteAt s i.toNat)) ∧ w = w' := by
  go_enter Try.func87, Try.ntmps87
  go_wp2
  · go_ret; exact ⟨ret_int (by unfold byteAt; rw [if_neg (by omega)]), rfl⟩
  · go_ret; exact ⟨ret_int ((wrap_byte _).trans (byteAt_in s _ (by omega))), rfl⟩
end Go.Proofs.Ytnjckpgacbibhaa
