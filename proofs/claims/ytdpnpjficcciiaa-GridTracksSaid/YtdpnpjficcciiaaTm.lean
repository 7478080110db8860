/- Times: a times b over c, rounded down: the library's Mul64, LeadingZeros64, Div64 -/
import Derived.Test.YtdpnpjficcciiaaProg
import Derived.Test.YtdpnpjficcciiaaDv
import Derived.WalkKit
import Derived.Shelf.Bits.Mul64
import Derived.Shelf.Small.Bits
import Derived.Lib.Hide
namespace Go.Proofs.Ytdpnpjficcciiaa
set_option linter.unusedVariables false
set_option linter.unusedSimpArgs false
open Go.RowKit Go.Cas Go.Shelf

def rnB : Go.Shelf.Ren := ⟨fun x => if x = 129 then 50 else if x = 134 then 48 else if x = 264 then 42 else 0,
  fun x => if x = 3 then 3 else if x = 4 then 4 else if x = 5 then 5 else if x = 9 then 9 else if x = 46 then 78 else if x = 53 then 72 else 0, fun x => x⟩
theorem layMul : Lays.n264 Try.prog rnB := { mixed := by kernel_rfl, f264 := by kernel_rfl, t46 := by kernel_rfl, a46 := fun w => by kernel_rfl, z46 := fun w => by kernel_rfl, v46 := fun w => by kernel_rfl, t53 := by kernel_rfl, a53 := fun w => by kernel_rfl, z53 := fun w => by kernel_rfl, v53 := fun w => by kernel_rfl }
theorem layLZ : Lays.n134 Try.prog rnB := { mixed := by kernel_rfl, f129 := by kernel_rfl, f134 := by kernel_rfl, t3 := by kernel_rfl, a3 := fun w => by kernel_rfl, z3 := fun w => by kernel_rfl, v3 := fun w => by kernel_rfl, t4 := by kernel_rfl, a4 := fun w => by kernel_rfl, z4 := fun w => by kernel_rfl, v4 := fun w => by kernel_rfl, t5 := by kernel_rfl, a5 := fun w => by kernel_rfl, z5 := fun w => by kernel_rfl, v5 := fun w => by kernel_rfl, t9 := by kernel_rfl, a9 := fun w => by kernel_rfl, z9 := fun w => by kernel_rfl, v9 := fun w => by kernel_rfl, t46 := by kernel_rfl, a46 := fun w => by kernel_rfl, z46 := fun w => by kernel_rfl, v46 := fun w => by kernel_rfl, t53 := by kernel_rfl, a53 := fun w => by kernel_rfl, z53 := fun w => by kernel_rfl, v53 := fun w => by kernel_rfl }
end Go.Proofs.Ytdpnpjficcciiaa
