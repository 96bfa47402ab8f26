/- The kit's proved slices.SortFunc at structs, laid on this program. -/
import Derived.Test.YtcipfbabjbcfkaaSf
import Derived.Test.YtcipfbabjbcfkaaChecked
set_option linter.unusedVariables false
set_option maxRecDepth 100000
set_option maxHeartbeats 4000000
namespace Hyp
open Go Go.Proofs Go.Shelf
def ρQ : Ren := ⟨fun k => match k with | 6 => 28 | 14 => 47 | 15 => 48 | 20 => 57 | 21 => 58 | 22 => 59 | 23 => 60 | 24 => 61 | 25 => 62 | 26 => 63 | 27 => 64 | 28 => 65 | 29 => 66 | 46 => 77 | 47 => 78 | 48 => 79 | 49 => 80 | 50 => 81 | 57 => 86 | k => k, fun k => match k with | 0 => 0 | 3 => 3 | 4 => 4 | 5 => 5 | 9 => 9 | 22 => 22 | 24 => 51 | 25 => 68 | 39 => 92 | 45 => 102 | 46 => 103 | 50 => 107 | 53 => 110 | 55 => 112 | 66 => 119 | 70 => 123 | 76 => 127 | 77 => 128 | k => k, fun k => k⟩
theorem layQ : SlLaysF0.n6 Try.prog ρQ where
  mixed := by kernel_rfl
  f6 := ⟨"slices.SortFunc[[]hypogeum/api.Known,hypogeum/api.Known]", by kernel_rfl, by kernel_rfl⟩
  f14 := ⟨"slices.pdqsortCmpFunc[hypogeum/api.Known]", by kernel_rfl, by kernel_rfl⟩
  f15 := by kernel_rfl
  f20 := ⟨"slices.insertionSortCmpFunc[hypogeum/api.Known]", by kernel_rfl, by kernel_rfl⟩
  f21 := ⟨"slices.heapSortCmpFunc[hypogeum/api.Known]", by kernel_rfl, by kernel_rfl⟩
  f22 := ⟨"slices.breakPatternsCmpFunc[hypogeum/api.Known]", by kernel_rfl, by kernel_rfl⟩
  f23 := ⟨"slices.choosePivotCmpFunc[hypogeum/api.Known]", by kernel_rfl, by kernel_rfl⟩
  f24 := ⟨"slices.reverseRangeCmpFunc[hypogeum/api.Known]", by kernel_rfl, by kernel_rfl⟩
  f25 := ⟨"slices.partialInsertionSortCmpFunc[hypogeum/api.Known]", by kernel_rfl, by kernel_rfl⟩
  f26 := ⟨"slices.partitionEqualCmpFunc[hypogeum/api.Known]", by kernel_rfl, by kernel_rfl⟩
  f27 := ⟨"slices.partitionCmpFunc[hypogeum/api.Known]", by kernel_rfl, by kernel_rfl⟩
  f28 := by kernel_rfl
  f29 := by kernel_rfl
  f46 := ⟨"slices.siftDownCmpFunc[hypogeum/api.Known]", by kernel_rfl, by kernel_rfl⟩
  f47 := by kernel_rfl
  f48 := by kernel_rfl
  f49 := ⟨"slices.medianAdjacentCmpFunc[hypogeum/api.Known]", by kernel_rfl, by kernel_rfl⟩
  f50 := ⟨"slices.medianCmpFunc[hypogeum/api.Known]", by kernel_rfl, by kernel_rfl⟩
  f57 := ⟨"slices.order2CmpFunc[hypogeum/api.Known]", by kernel_rfl, by kernel_rfl⟩
  t0 := by kernel_rfl
  a0 := fun w => by kernel_rfl
  z0 := fun w => by kernel_rfl
  v0 := fun w => by kernel_rfl
  t3 := by kernel_rfl
  a3 := fun w => by kernel_rfl
  z3 := fun w => by kernel_rfl
  v3 := fun w => by kernel_rfl
  t4 := by kernel_rfl
  a4 := fun w => by kernel_rfl
  z4 := fun w => by kernel_rfl
  v4 := fun w => by kernel_rfl
  t5 := by kernel_rfl
  a5 := fun w => by kernel_rfl
  z5 := fun w => by kernel_rfl
  v5 := fun w => by kernel_rfl
  t9 := by kernel_rfl
  a9 := fun w => by kernel_rfl
  z9 := fun w => by kernel_rfl
  v9 := fun w => by kernel_rfl
  t22 := by kernel_rfl
  a22 := fun w => by kernel_rfl
  z22 := fun w => by kernel_rfl
  v22 := fun w => by kernel_rfl
  t25 := by kernel_rfl
  a25 := fun w => by kernel_rfl
  z25 := fun w => by kernel_rfl
  v25 := fun w => by kernel_rfl
  t39 := by kernel_rfl
  a39 := fun w => by kernel_rfl
  z39 := fun w => by kernel_rfl
  v39 := fun w => by kernel_rfl
  t45 := by kernel_rfl
  a45 := fun w => by kernel_rfl
  z45 := fun w => by kernel_rfl
  v45 := fun w => by kernel_rfl
  t46 := by kernel_rfl
  a46 := fun w => by kernel_rfl
  z46 := fun w => by kernel_rfl
  v46 := fun w => by kernel_rfl
  t50 := by kernel_rfl
  a50 := fun w => by kernel_rfl
  z50 := fun w => by kernel_rfl
  v50 := fun w => by kernel_rfl
  t53 := by kernel_rfl
  a53 := fun w => by kernel_rfl
  z53 := fun w => by kernel_rfl
  v53 := fun w => by kernel_rfl
  t55 := by kernel_rfl
  a55 := fun w => by kernel_rfl
  z55 := fun w => by kernel_rfl
  v55 := fun w => by kernel_rfl
  t66 := by kernel_rfl
  a66 := fun w => by kernel_rfl
  z66 := fun w => by kernel_rfl
  v66 := fun w => by kernel_rfl
  t70 := by kernel_rfl
  a70 := fun w => by kernel_rfl
  z70 := fun w => by kernel_rfl
  v70 := fun w => by kernel_rfl
  t76 := by kernel_rfl
  a76 := fun w => by kernel_rfl
  z76 := fun w => by kernel_rfl
  v76 := fun w => by kernel_rfl
  t77 := by kernel_rfl
  a77 := fun w => by kernel_rfl
  z77 := fun w => by kernel_rfl
  v77 := fun w => by kernel_rfl
end Hyp
