/- The laws of the index in plain words: in which packs blobs lie. -/
import Derived.Test.YtcipfbabjbcfkaaCL
set_option linter.unusedVariables false
set_option linter.unusedSimpArgs false
namespace Go.Proofs.Ytcipfbabjbcfkaa
open Hyp
abbrev St := List UInt8
/-- What is left behind one, runs taken once. -/
def cAux (prev : St) : List St → List St
  | [] => []
  | x :: l => if x = prev then cAux x l else x :: cAux x l
theorem cAux_cons (prev x : St) (l : List St) : cAux prev (x :: l) = if x = prev then cAux x l else x :: cAux x l := rfl
theorem range_tail (f : Nat → Bool) (g : Nat → St) (n : Nat) : ((List.range (n + 1)).filter f).map g = (if f 0 = true then [g 0] else []) ++ ((List.range n).filter fun j => f (j + 1)).map fun j => g (j + 1) := by
  rw [List.range_succ_eq_map, List.filter_cons]
  have e : ((List.map Nat.succ (List.range n)).filter f).map g = ((List.range n).filter fun j => f (j + 1)).map fun j => g (j + 1) := by
    rw [List.filter_map, List.map_map]; rfl
  split
  · rw [List.map_cons, e]; rfl
  · rw [e]; rfl
theorem cAux_eq : ∀ (l : List St) (prev : St), ((List.range l.length).filter fun j => decide ((prev :: l)[j + 1]! ≠ (prev :: l)[j]!)).map (fun j => (prev :: l)[j + 1]!) = cAux prev l
  | [], prev => rfl
  | x :: l, prev => by
    rw [List.length_cons, range_tail]
    have ih := cAux_eq l x
    have e1 : (prev :: x :: l)[0 + 1]! = x := rfl
    have e2 : (prev :: x :: l)[0]! = prev := rfl
    have e3 : ((List.range l.length).filter fun j => decide ((prev :: x :: l)[j + 1 + 1]! ≠ (prev :: x :: l)[j + 1]!)).map (fun j => (prev :: x :: l)[j + 1 + 1]!) = ((List.range l.length).filter fun j => decide ((x :: l)[j + 1]! ≠ (x :: l)[j]!)).map (fun j => (x :: l)[j + 1]!) := by
      simp only [List.getElem!_cons_succ]
    rw [e3, ih, e1, e2]
    rw [cAux_cons]
    by_cases h : x = prev
    · rw [if_neg (by simp [h]), if_pos h]; rfl
    · rw [if_pos (by simp [h]), if_neg h]; rfl
theorem compact_eq (a : St) (l : List St) : Go.Lib.compact (a :: l) = a :: cAux a l := by
  unfold Go.Lib.compact Go.Lib.compactUpTo
  rw [List.length_cons, range_tail, ← cAux_eq l a]
  have e0 : Go.Lib.keeps (a :: l).toArray 0 = true := rfl
  rw [if_pos e0]
  have e1 : ∀ j, Go.Lib.keeps (a :: l).toArray (j + 1) = decide ((a :: l)[j + 1]! ≠ (a :: l)[j]!) := by
    intro j
    unfold Go.Lib.keeps
    simp
  simp only [e1, List.getElem!_toArray]
  rfl
abbrev Asc (l : List St) : Prop := l.Pairwise fun a b => a ≤ b
abbrev Str (l : List St) : Prop := l.Pairwise fun a b => a < b
theorem lt_of_le_ne {a b : St} (h : a ≤ b) (hn : a ≠ b) : a < b := by
  rcases List.le_iff_lt_or_eq.1 h with h | h
  · exact h
  · exact absurd h hn
theorem cAux_ok : ∀ (l : List St) (prev : St), Asc (prev :: l) → Str (prev :: cAux prev l) ∧ ∀ y, y ∈ prev :: cAux prev l ↔ y ∈ prev :: l
  | [], prev, h => ⟨List.pairwise_singleton _ _, fun y => Iff.rfl⟩
  | x :: l, prev, h => by
    obtain ⟨h1, h2⟩ := List.pairwise_cons.1 h
    obtain ⟨g1, g2⟩ := cAux_ok l x h2
    rw [cAux_cons]
    by_cases e : x = prev
    · subst e
      rw [if_pos rfl]
      refine ⟨g1, fun y => ?_⟩
      rw [g2 y]
      simp
    · rw [if_neg e]
      refine ⟨List.pairwise_cons.2 ⟨fun y hy => ?_, g1⟩, fun y => ?_⟩
      · have hx : prev < x := lt_of_le_ne (h1 x (.head _)) (fun h => e h.symm)
        rcases List.mem_cons.1 hy with rfl | hy
        · exact hx
        · exact List.lt_trans hx ((List.pairwise_cons.1 g1).1 y hy)
      · rw [List.mem_cons, g2 y, ← List.mem_cons]
/-- What is listed once, in order: strictly ascending, and the same names. -/
theorem compact_ok {l : List St} (h : Asc l) : Str (Go.Lib.compact l) ∧ ∀ y, y ∈ Go.Lib.compact l ↔ y ∈ l := by
  cases l with
  | nil => exact ⟨.nil, fun y => Iff.rfl⟩
  | cons a l => rw [compact_eq]; exact cAux_ok l a h
theorem str_uniq {l m : List St} (h1 : Str l) (h2 : Str m) (h : ∀ y, y ∈ l ↔ y ∈ m) : l = m := by
  have nd : ∀ {l : List St}, Str l → l.Nodup := fun h => h.imp fun {a b} hab e => by subst e; exact List.lt_irrefl _ hab
  exact List.Perm.eq_of_pairwise (le := fun a b : St => a < b) (fun a b _ _ h1 h2 => absurd (List.lt_trans h1 h2) (List.lt_irrefl _)) h1 h2 ((List.perm_ext_iff_of_nodup (nd h1) (nd h2)).2 h)
end Go.Proofs.Ytcipfbabjbcfkaa
