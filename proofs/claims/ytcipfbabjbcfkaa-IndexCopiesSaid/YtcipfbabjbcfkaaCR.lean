/- The laws of the index in plain words: the packs, once each, in order. -/
import Derived.Test.YtcipfbabjbcfkaaCK
set_option linter.unusedVariables false
set_option linter.unusedSimpArgs false
namespace Go.Proofs.Ytcipfbabjbcfkaa
open Hyp
theorem cAux_len : ∀ (l : List St) (p : St), (cAux p l).length ≤ l.length
  | [], p => Nat.le_refl _
  | x :: l, p => by
    rw [cAux_cons]
    have := cAux_len l x
    split
    · exact Nat.le_succ_of_le this
    · exact Nat.succ_le_succ this
theorem compact_len (l : List St) : (Go.Lib.compact l).length ≤ l.length := by
  cases l with
  | nil => exact Nat.le_refl _
  | cons a l => rw [compact_eq]; exact Nat.succ_le_succ (cAux_len l a)
/-- The packs of what is listed. -/
def packs (l : List St) : List St := Go.Lib.compact (l.mergeSort fun x y => decide (x ≤ y))
theorem packs_len (l : List St) : (packs l).length ≤ l.length := Nat.le_trans (compact_len _) (Nat.le_of_eq (List.length_mergeSort _))
theorem packs_ok (l : List St) : Str (packs l) ∧ ∀ y, y ∈ packs l ↔ y ∈ l := by
  have h := List.pairwise_mergeSort (le := fun x y : List UInt8 => decide (x ≤ y)) (fun a b c h1 h2 => by
    simp only [decide_eq_true_eq] at h1 h2 ⊢; exact List.le_trans h1 h2) (fun a b => by
    simp only [Bool.or_eq_true, decide_eq_true_eq]; exact List.le_total a b) l
  have ha : Asc (l.mergeSort fun x y => decide (x ≤ y)) := h.imp fun {a b} h => by simpa using h
  obtain ⟨h1, h2⟩ := compact_ok ha
  exact ⟨h1, fun y => (h2 y).trans (List.mergeSort_perm _ _).mem_iff⟩
theorem ppacks_run {n : Nat} {m : Mp} (hm : m.length < n) (h : m.length ≤ 60) : (F_index_Index_Packs n m).run = some (packs ((flat m).map fun e => e.2.2.1)) := by
  unfold F_index_Index_Packs D_packs
  rw [if_pos ⟨hm, by omega⟩]
  have e : ((flat m).map fun e => e.2.2.1) = m.map fun p => p.2.1 := by unfold flat; rw [List.map_map]; rfl
  rw [e]
  unfold sortI compactI
  rw [if_pos (by rw [List.length_map]; omega)]
  simp only [Tree.run, Option.bind_some, Option.bind]
  rw [if_pos (by rw [List.length_mergeSort, List.length_map]; omega)]
  rfl
end Go.Proofs.Ytcipfbabjbcfkaa
