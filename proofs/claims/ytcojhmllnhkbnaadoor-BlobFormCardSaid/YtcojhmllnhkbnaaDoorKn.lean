/- The id of the empty text, of a master of noughts: it is not nought. -/
import Derived.Test.YtcojhmllnhkbnaaDoorPB
import Derived.Test.YtcojhmllnhkbnaaDoorKq
set_option linter.unusedVariables false
set_option maxRecDepth 100000
namespace Hyp
open Go Go.Proofs
theorem keyN_run (m : Nat) : (F_label_Key (m + 600) (zs 32) nameP 1).run = some (.inr [17, 49, 46, 246, 35, 219, 157, 204, 235, 102, 219, 11, 223, 214, 237, 125, 88, 252, 49, 206, 217, 79, 198, 82, 111, 159, 6, 115, 21, 144, 64, 1]) := by kernel_rfl
theorem idN_run (m : Nat) : (F_label_ID (m + 600) [17, 49, 46, 246, 35, 219, 157, 204, 235, 102, 219, 11, 223, 214, 237, 125, 88, 252, 49, 206, 217, 79, 198, 82, 111, 159, 6, 115, 21, 144, 64, 1] 1 []).run = some ([176, 249, 67, 85, 134, 38, 171, 166, 125, 241, 247, 209, 63, 172, 90, 210, 161, 67, 191, 181, 138, 240, 255, 192, 237, 93, 195, 160, 53, 120, 190, 12], 0) := by kernel_rfl
theorem keyN : keyL (zs 32) nameP 1 = [17, 49, 46, 246, 35, 219, 157, 204, 235, 102, 219, 11, 223, 214, 237, 125, 88, 252, 49, 206, 217, 79, 198, 82, 111, 159, 6, 115, 21, 144, 64, 1] := by
  have h := lkey_run (n := 0 + 600) (by omega) (master := zs 32) (p := nameP) (e := 1) (by simp) (by decide) (by decide) (by omega)
  have h2 := (show (F_label_Key (0 + 600) (zs 32) nameP ((1 : Nat) : Int)).run = _ from keyN_run 0)
  rw [h] at h2
  simpa using h2
theorem idN : idS (keyL (zs 32) nameP 1) 1 [] = [176, 249, 67, 85, 134, 38, 171, 166, 125, 241, 247, 209, 63, 172, 90, 210, 161, 67, 191, 181, 138, 240, 255, 192, 237, 93, 195, 160, 53, 120, 190, 12] := by
  rw [keyN]
  have h := lid_run (n := 0 + 600) (by omega) (key := [17, 49, 46, 246, 35, 219, 157, 204, 235, 102, 219, 11, 223, 214, 237, 125, 88, 252, 49, 206, 217, 79, 198, 82, 111, 159, 6, 115, 21, 144, 64, 1]) (text := []) (k := 1) (by decide) (by omega) (by simp) (by simp)
  have h2 := (show (F_label_ID (0 + 600) [17, 49, 46, 246, 35, 219, 157, 204, 235, 102, 219, 11, 223, 214, 237, 125, 88, 252, 49, 206, 217, 79, 198, 82, 111, 159, 6, 115, 21, 144, 64, 1] ((1 : Nat) : Int) []).run = _ from idN_run 0)
  rw [h] at h2
  simpa using h2
theorem idN_ne : idS (keyL (zs 32) nameP 1) 1 [] ≠ zs 32 := by rw [idN]; decide
end Hyp
