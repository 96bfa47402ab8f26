/- The kit's proved slices.Compact of strings, laid on this program. -/
import Derived.Test.YtcipfbabjbcfkaaSc
import Derived.Test.YtcipfbabjbcfkaaChecked
set_option linter.unusedVariables false
set_option maxRecDepth 100000
set_option maxHeartbeats 4000000
namespace Hyp
open Go Go.Proofs Go.Shelf
def ρV : Ren := ⟨fun k => match k with | 44 => 41 | k => k, fun k => match k with | 0 => 0 | 3 => 3 | 4 => 4 | 25 => 40 | 26 => 9 | k => k, fun k => k⟩
theorem layV : SlLaysN.n44 Try.prog ρV where
  mixed := by kernel_rfl
  f44 := ⟨"slices.Compact[[]string,string]", by kernel_rfl, by kernel_rfl⟩
  i26 := by kernel_rfl
  t0 := by kernel_rfl
  a0 := fun w => by kernel_rfl
  z0 := fun w => by kernel_rfl
  v0 := fun w => by kernel_rfl
  t3 := by kernel_rfl
  a3 := fun w => by kernel_rfl
  z3 := fun w => by kernel_rfl
  v3 := fun w => by kernel_rfl
  t4 := by kernel_rfl
  a4 := fun w => by kernel_rfl
  z4 := fun w => by kernel_rfl
  v4 := fun w => by kernel_rfl
  t25 := by kernel_rfl
  a25 := fun w => by kernel_rfl
  z25 := fun w => by kernel_rfl
  v25 := fun w => by kernel_rfl
  t26 := by kernel_rfl
  a26 := fun w => by kernel_rfl
  z26 := fun w => by kernel_rfl
  v26 := fun w => by kernel_rfl
theorem ok_compactStrC : CallOK Try.prog 41 S_compactStr := (ok_compactStr layV).callOK (fn := Try.f41) Try.func41 (by kernel_rfl)
end Hyp
