/- StoreNames in plain words: what the printed functions come to. -/
import Derived.Test.YtdlbmjbbnplpjaaSL
set_option linter.unusedVariables false
set_option linter.unusedSimpArgs false
namespace Go.Proofs.Ytdlbmjbbnplpjaa
open Hyp
theorem awake_run (n : Nat) : (F_hypogeumlaw16_awake (n + 1000)).run = some true := by kernel_rfl
theorem names_run (x : List UInt8) (hx : x.length ≤ Go.maxLen) : (F_hypogeumlaw16_StoreNames (x.length + 1000) x).run = some true := by
  have hm : Go.maxLen ≤ 9223372036854775807 := by decide
  unfold F_hypogeumlaw16_StoreNames
  simp only [Tree.run, named_run (n := x.length + 1000) (by omega), named_ref (n := x.length + 1000) x (by omega) (by omega), Option.bind_some, beq_self_eq_true, cond_true, awake_run]
end Go.Proofs.Ytdlbmjbbnplpjaa
