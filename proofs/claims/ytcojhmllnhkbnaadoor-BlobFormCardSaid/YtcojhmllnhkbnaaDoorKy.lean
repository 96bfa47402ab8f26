/- The laws of blob, of arguments whose sizes are told. -/
import Derived.Test.YtcojhmllnhkbnaaDoorKx
import Derived.Test.YtcojhmllnhkbnaaDoorNz
set_option linter.unusedVariables false
namespace Hyp
open Go Go.Proofs
theorem u8_len {x : List UInt8} (h : (Ty.list .u8).okW x) : x.length ≤ 140737488355328 := by
  have h1 : x.length * 1 ≤ reachBytes := h.1.2
  have h2 : reachBytes ≤ 140737488355328 := by decide
  omega
theorem masters_len {l : List (Int × List UInt8)} (h : (Ty.list (.rcd (.pair (.sint .i64) (.list .u8)))).okW l) : ∀ p ∈ l, p.2.length ≤ 140737488355328 := fun p hp => u8_len (h.2 p hp).2
end Hyp
