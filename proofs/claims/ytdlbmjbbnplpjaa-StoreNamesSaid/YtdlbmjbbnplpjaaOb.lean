/- Where nothing is chosen. -/
import Derived.Test.YtdlbmjbbnplpjaaMm
import Derived.Test.YtdlbmjbbnplpjaaOa
set_option linter.unusedVariables false
set_option linter.unusedSimpArgs false
namespace Hyp
open Go
theorem d_ret {α : Type} (a : α) : (Tree.ret a).Det := trivial
theorem d_fail {α : Type} : (Tree.fail : Tree α).Det := trivial
theorem d_get {α β : Type} {o : Option β} {k : β → Tree α} (h : ∀ y, (k y).Det) : (Tree.get o k).Det := h
theorem d_ite {α : Type} {b : Bool} {x y : Tree α} (h : x.Det) (g : y.Det) : (Tree.ite b x y).Det := ⟨h, g⟩
theorem d_bif {α : Type} {b : Bool} {x y : Tree α} (h : x.Det) (g : y.Det) : (bif b then x else y).Det := by cases b <;> assumption
theorem d_guard {α : Type} {c bad : Bool} {t : Tree α} (h : t.Det) : (guardT c bad t).Det := by unfold guardT; exact d_bif (d_bif d_fail h) (d_get fun _ => h)
theorem d_getT {α β : Type} {c : Bool} {o : Option β} {k : β → Tree α} (h : ∀ y, (k y).Det) : (getT c o k).Det := by
  unfold getT
  refine d_bif ?_ (d_get h)
  split
  · exact h _
  · exact d_fail
theorem d_count {c : Bool} {y : AV} {k : Nat → Tree AV} (h : ∀ n, (k n).Det) : (countT c y k).Det := by
  unfold countT
  split <;> first | exact h _ | exact d_guard (h _) | exact d_fail
theorem d_bnd {α : Type} {lo hi : Int} {n : Nat} {k : Nat → Nat → Tree α} (h : ∀ x y, (k x y).Det) : (bndT lo hi n k).Det := d_get fun _ => h _ _
section
variable {P : Program} {T U : TypeId} {op : BinOp} {uo : UnOp} {c : Bool} {x y p q : AV} {L : List En} {b : Nat} {r : Operand → AV}
theorem d_shift : (shiftT op c x y).Det := by
  refine d_count fun n => ?_
  split <;> trivial
theorem d_num : (numT op c x y).Det := by
  unfold numT
  repeat' first | exact d_ret _ | exact d_fail | exact d_guard (d_ret _) | refine d_get fun _ => ?_ | refine d_bif ?_ ?_ | split
theorem d_nil : (nilT P T op x y).Det := by
  unfold nilT
  split <;> first | exact d_bif (d_ret _) d_fail | exact d_fail
theorem d_bin : (binT P T op c x y).Det := by
  unfold binT
  split
  · exact d_shift
  · exact d_shift
  · split
    · exact d_nil
    · exact d_num
theorem d_extract {i : Nat} : (extractT x i).Det := by
  unfold extractT
  repeat' first | exact d_ret _ | exact d_fail | split
theorem d_un : (unT uo x).Det := by
  unfold unT notT negT comT
  repeat' first | exact d_ret _ | exact d_fail | split
theorem d_fieldAddr {i : Nat} : (fieldAddrT P T x i).Det := by
  unfold fieldAddrT
  repeat' first | exact d_ret _ | exact d_fail | split
theorem d_nilCheck : (nilCheckT x).Det := by
  unfold nilCheckT
  repeat' first | exact d_ret _ | exact d_fail | split
theorem d_slice {lo hi mx : Option Operand} : (sliceT P r T x lo hi mx).Det := by
  unfold sliceT sliceStrT sliceRoT sliceRo3T
  repeat' first | exact d_ret _ | exact d_fail | refine d_get fun _ => ?_ | refine d_bnd fun _ _ => ?_ | refine d_bif ?_ ?_ | split
theorem d_len : (lenT P T x).Det := by
  unfold lenT
  repeat' first | exact d_ret _ | exact d_fail | refine d_get fun _ => ?_ | refine d_bif ?_ ?_ | split
theorem d_build {ps : List (Nat × Operand)} : (buildT P T r ps).Det := by
  unfold buildT
  repeat' first | exact d_ret _ | exact d_fail | refine d_get fun _ => ?_ | refine d_bif ?_ ?_ | split
theorem d_int : (intT P T U x).Det := by
  unfold intT
  repeat' first | exact d_ret _ | exact d_fail | refine d_get fun _ => ?_ | refine d_bif ?_ ?_ | split
theorem d_index {i : AV} : (indexT P T x i).Det := by
  unfold indexT
  repeat' first | exact d_ret _ | exact d_fail | refine d_get fun _ => ?_ | refine d_bif ?_ ?_ | split
theorem d_part {a : AV} {o : Nat} : (partT P T a o).Det := by
  unfold partT
  repeat' first | exact d_ret _ | exact d_fail | refine d_get fun _ => ?_ | refine d_bif ?_ ?_ | split
theorem d_load : (loadT P T x L).Det := by
  unfold loadT
  repeat' first | exact d_ret _ | exact d_fail | exact d_part | refine d_get fun _ => ?_ | refine d_getT fun _ => ?_ | refine d_bif ?_ ?_ | split
theorem d_alloc : (allocT P T L b).Det := by
  unfold allocT
  repeat' first | exact d_ret _ | exact d_fail | refine d_get fun _ => ?_ | refine d_bif ?_ ?_ | split
theorem d_box : (boxT x L b).Det := by
  unfold boxT
  repeat' first | exact d_ret _ | exact d_fail | refine d_get fun _ => ?_ | refine d_bif ?_ ?_ | split
theorem d_store : (storeT P T x p L b).Det := by
  unfold storeT
  repeat' first | exact d_ret _ | exact d_fail | refine d_get fun _ => ?_ | refine d_getT fun _ => ?_ | refine d_bif ?_ ?_ | split
theorem d_indexAddr {i : AV} : (indexAddrT P T c x i L).Det := by
  unfold indexAddrT
  repeat' first | exact d_ret _ | exact d_fail | refine d_get fun _ => ?_ | refine d_getT fun _ => ?_ | refine d_bif ?_ ?_ | split
theorem d_append : (appendT P T x y L b).Det := by
  unfold appendT
  repeat' first | exact d_ret _ | exact d_fail | refine d_get fun _ => ?_ | refine d_getT fun _ => ?_ | refine d_bif ?_ ?_ | split
theorem d_buildSlice {n : Nat} {ps : List (Nat × Operand)} : (buildSliceT P T n r ps L b).Det := by
  unfold buildSliceT
  repeat' first | exact d_ret _ | exact d_fail | refine d_get fun _ => ?_ | refine d_getT fun _ => ?_ | refine d_bif ?_ ?_ | split
theorem d_bytesStr : (bytesStrT P T U x L).Det := by
  unfold bytesStrT
  repeat' first | exact d_ret _ | exact d_fail | refine d_get fun _ => ?_ | refine d_getT fun _ => ?_ | refine d_bif ?_ ?_ | split
end
end Hyp
