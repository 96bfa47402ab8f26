/- What the pack's law asks of the program in every case: it is awake. -/
import Derived.Test.YtcojhmllnhkbnaaDoorPB
set_option maxRecDepth 100000
namespace Go.Proofs.YtcojhmllnhkbnaaDoor
open Hyp
theorem awake19 (m : Nat) : (F_w19_awake (m + 600)).run = some true := by kernel_rfl
end Go.Proofs.YtcojhmllnhkbnaaDoor
