/- The one-time tag, the document's: digits to the base 256. -/
import Derived.Test.YtcojhmllnhkbnaaDoorPA
import Derived.Test.YtcojhmllnhkbnaaDoorKc
import Derived.Test.YtcojhmllnhkbnaaDoorKf
set_option linter.unusedVariables false
set_option linter.unusedSimpArgs false
set_option maxRecDepth 100000
namespace Hyp
open Go Go.Proofs
def dI (b : List UInt8) : List Int := b.map fun c => (c.toNat : Int)
def padT (a : List Int) : Nat → Nat → List Int
  | _, 0 => []
  | i, k + 1 => hd0 (a.drop i) :: padT a (i + 1) k
def all255 (a : List Int) : Nat → Nat → Bool
  | _, 0 => true
  | i, k + 1 => decide (¬ hd0 (a.drop i) < 255) && all255 a (i + 1) k
def byS (a : List Int) : Nat → Nat → List UInt8
  | _, 0 => []
  | i, k + 1 => int8 (hd0 (a.drop i)) :: byS a (i + 1) k
end Hyp
