/- StoreNobody in plain words. -/
import Derived.Test.YtdlbmjbbnplpjaaNB
import Derived.Test.YtdlbmjbbnplpjaaZD
set_option linter.unusedVariables false
set_option linter.unusedSimpArgs false
namespace Go.Proofs.Ytdlbmjbbnplpjaa
open Hyp
theorem awake_run (n : Nat) : (F_w16_awake (n + 1000)).run = some true := by kernel_rfl
theorem nobody_run (b : List UInt8) (h : b.length ≤ 140737488351232) : (F_w16_StoreNobody (0 + 1000) b).run = some true := by
  have a : appI 140737488355328 ([] : List UInt8) b = some b := by
    unfold appI
    rw [if_pos (by simp only [List.length_nil]; omega)]; rfl
  have o : (F_w16_own (0 + 1000) b).run = some b := by
    unfold F_w16_own
    simp only [Tree.run, a, Option.bind_some]
  have u : ∀ t : Tree Unit, t = .ret () → t.run = some () := fun t h => by rw [h]; rfl
  unfold F_w16_StoreNobody
  simp only [Tree.run, o, Option.bind_some, awake_run, cond_true, F_store_Store_Script, F_store_Store_Revive, F_store_Store_Get, F_store_Store_List, F_store_Store_Cell, F_store_Store_Put, F_store_Store_Del, F_store_Store_Raise, F_store_Store_Dead, F_store_Store_Calls, F_store_Store_Copy]
end Go.Proofs.Ytdlbmjbbnplpjaa
