/- The digest's table, as a row lists it: what it gives a walk. -/
import Derived.Test.YtcojhmllnhkbnaaDoorRows
import Derived.Test.YtcojhmllnhkbnaaDoorZD
import Derived.Lib.LaidTab
import Derived.LaidLaws
import Derived.LaidHandle
set_option linter.unusedVariables false
set_option maxRecDepth 100000
namespace Go.Proofs.YtcojhmllnhkbnaaDoor
open Go
abbrev laidL : List (String × DataW Unit) := [("hypogeum/digest.rounds", Rows.laid_hypogeum_digest_rounds)]
def roundsZ : List Int := (Hyp.gl.headD (0, [])).2.map fun x => (x.toNat : Int)
theorem gN : Tryd.prog.globalNamed "hypogeum/digest.rounds" = some 0 := by kernel_rfl
theorem gT : (Tryd.prog.globals[0]?).map (·.type) = some 250 := by kernel_rfl
theorem laidIs : Rows.laid_hypogeum_digest_rounds (H := Unit) = Lib.tabData .u32 roundsZ := by kernel_rfl
theorem glIs : Hyp.gl = [(0, (Hyp.gl.headD (0, [])).2)] := by kernel_rfl
theorem glb_of_laid {W : World} (h : laidMetH Tryd.prog laidL W) : ∀ p ∈ Hyp.gl, Hyp.globF ((Hyp.topB W).Z (Hyp.ents Hyp.nu0 [] ++ [])) W p := by
  have h1 : laidMet Tryd.prog laidL W := h
  rw [show laidL = [("hypogeum/digest.rounds", Lib.tabData .u32 roundsZ)] from congrArg (fun d => [("hypogeum/digest.rounds", d)]) laidIs] at h1
  have h2 : Lib.TabIs Tryd.prog W "hypogeum/digest.rounds" .u32 roundsZ := Lib.tabIs_of_head (rest := []) gN gT Tryd.underlying250 Tryd.underlying135 (by kernel_rfl) (by kernel_rfl) h1
  intro p hp
  rw [glIs, List.mem_singleton] at hp
  subst hp
  refine ⟨Hyp.topZ W _, ?_⟩
  unfold Lib.TabIs World.var? at h2
  rw [gN, Option.bind_some] at h2
  split at h2
  · rename_i cs T z hc
    refine ⟨T, z, hc.trans ?_⟩
    rw [Option.some.inj h2]
    unfold roundsZ
    rw [List.map_map]
    rfl
  · cases h2
end Go.Proofs.YtcojhmllnhkbnaaDoor
