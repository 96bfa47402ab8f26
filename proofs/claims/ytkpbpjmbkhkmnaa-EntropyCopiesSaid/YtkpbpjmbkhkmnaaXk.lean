/- Plain words for what the printed functions come to. -/
import Derived.Test.YtkpbpjmbkhkmnaaXj
set_option linter.unusedVariables false
set_option linter.unusedSimpArgs false
namespace Hyp
open Go
/-- From some fuel on it comes to r. -/
def Ev {α : Type} (f : Nat → Option α) (r : α) : Prop := ∃ k0, ∀ k, k0 ≤ k → f k = some r
section
variable {α β : Type}
theorem Ev.get {f : Nat → Option α} {r : α} (h : Ev f r) : ∃ k, f k = some r := let ⟨k, hk⟩ := h; ⟨k, hk k (Nat.le_refl _)⟩
theorem Ev.of {f : Nat → Option α} {r : α} (h : ∀ k, f k = some r) : Ev f r := ⟨0, fun k _ => h k⟩
theorem Ev.bind {f : Nat → Option α} {g : Nat → α → Option β} {a : α} {b : β} (h : Ev f a) (h2 : Ev (fun k => g k a) b) : Ev (fun k => (f k).bind fun x => g k x) b := by
  obtain ⟨k1, h1⟩ := h
  obtain ⟨k2, h2⟩ := h2
  refine ⟨max k1 k2, fun k hk => ?_⟩
  show (f k).bind _ = _
  rw [h1 k (by omega)]
  exact h2 k (by omega)
theorem Ev.congr {f g : Nat → Option α} {r : α} (h : Ev g r) (hf : ∀ k, f k = g k) : Ev f r := by
  obtain ⟨k0, h0⟩ := h
  exact ⟨k0, fun k hk => (hf k).trans (h0 k hk)⟩
theorem Ev.succ {f g : Nat → Option α} {r : α} (h : Ev g r) (hf : ∀ k, f (k + 1) = g k) : Ev f r := by
  obtain ⟨k0, h0⟩ := h
  refine ⟨k0 + 1, fun k hk => ?_⟩
  obtain ⟨j, rfl⟩ : ∃ j, k = j + 1 := ⟨k - 1, by omega⟩
  rw [hf, h0 j (by omega)]
theorem w64_id {n : Int} (h1 : -9223372036854775808 ≤ n) (h2 : n ≤ 9223372036854775807) : w64 n = n := by
  show (if (true && decide (n % 18446744073709551616 ≥ 9223372036854775808)) = true then n % 18446744073709551616 - 18446744073709551616 else n % 18446744073709551616) = n
  by_cases h : n % 18446744073709551616 ≥ 9223372036854775808
  · rw [if_pos (by simp [h])]; omega
  · rw [if_neg (by simp [h])]; omega
theorem getI_nat {l : List α} {j : Nat} {x : α} (h : l[j]? = some x) : getI l (j : Int) = some x := by
  unfold getI
  rw [if_pos (by omega)]
  simpa using h
theorem getI_lt {l : List α} {j : Nat} (h : j < l.length) : getI l (j : Int) = some l[j] := getI_nat (List.getElem?_eq_getElem h)
theorem subI_nat {l : List α} {a b : Nat} (h1 : a ≤ b) (h2 : b ≤ l.length) : subI l (a : Int) (b : Int) = some ((l.drop a).take (b - a)) := by
  unfold subI
  rw [if_pos ⟨by omega, by omega, by omega⟩]
  simp
theorem appI_le {N : Nat} {l m : List α} (h : l.length + m.length ≤ N) : appI N l m = some (l ++ m) := by
  unfold appI
  rw [if_pos h]
end
end Hyp
