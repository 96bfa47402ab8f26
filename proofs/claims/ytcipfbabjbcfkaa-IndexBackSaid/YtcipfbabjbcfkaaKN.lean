/- What a name is: the store's test and the document's, in plain words. -/
import Derived.Test.YtcipfbabjbcfkaaIK
import Derived.Test.YtcipfbabjbcfkaaZD
set_option linter.unusedVariables false
set_option linter.unusedSimpArgs false
namespace Go.Proofs.Ytcipfbabjbcfkaa
open Hyp
theorem wrap_id {n : Int} (h1 : -9223372036854775808 ≤ n) (h2 : n ≤ 9223372036854775807) : w64 n = n := Hyp.wrapSelf ⟨h1, h2⟩
theorem wrap_succ {i m : Nat} (h : i < m) (hm : m ≤ 9223372036854775807) : w64 ((i : Int) + 1) = ((i + 1 : Nat) : Int) := by
  rw [wrap_id (by omega) (by omega)]; omega
theorem inI_nat {i m : Nat} (h : i < m) : inI m (i : Int) = some i := by
  unfold inI; rw [if_pos (by omega)]; simp
theorem getI_at' {α : Type} {l : List α} {j : Nat} (h : j < l.length) : getI l (j : Int) = some l[j] := by
  unfold getI; rw [if_pos (by omega)]; simp [List.getElem?_eq_getElem h]
/-- May it stand in a name? -/
def okc (c : UInt8) : Bool := (decide (97 ≤ c) && decide (c ≤ 122)) || (decide (48 ≤ c) && decide (c ≤ 57))
def named (x : List UInt8) : Bool := decide (1 ≤ x.length) && (decide (x.length ≤ 32) && x.all okc)
theorem okc_not (y : UInt8) : (bif (decide (y < (97 : UInt8))) then ((decide (y < (48 : UInt8))) || (decide ((57 : UInt8) < y))) else ((decide ((122 : UInt8) < y)) && ((decide (y < (48 : UInt8))) || (decide ((57 : UInt8) < y))))) = !okc y := by
  unfold okc
  rw [Bool.cond_eq_ite, Bool.eq_iff_iff]
  split <;> rename_i h <;> simp [UInt8.lt_iff_toNat_lt, UInt8.le_iff_toNat_le] at h ⊢ <;> omega
theorem drop_all {x : List UInt8} {i : Nat} (h : i < x.length) : (x.drop i).all okc = (okc x[i] && (x.drop (i + 1)).all okc) := by
  rw [List.drop_eq_getElem_cons h]; rfl
theorem named_loop (n : Nat) (x : List UInt8) (hx : x.length ≤ 9223372036854775807) : ∀ (k i : Nat), x.length < i + k → i ≤ x.length → (F_store_Named_l0 n k (x.length : Int) (i : Int) x).run = some (bif (x.drop i).all okc then .inr () else .inl ())
  | 0, i, h, h' => by omega
  | k + 1, i, h, h' => by
    unfold F_store_Named_l0
    by_cases hi : i < x.length
    · have e1 : decide ((i : Int) < (x.length : Int)) = true := by simp; omega
      have e2 : x[0 + i]? = some x[i] := by rw [Nat.zero_add]; exact List.getElem?_eq_getElem hi
      simp only [Tree.run, e1, cond_true, inI_nat hi, Option.bind_some, e2, okc_not, drop_all hi]
      cases hc : okc x[i]
      · rfl
      · simp only [Bool.not_true, cond_false, Bool.true_and]
        rw [wrap_succ hi hx, named_loop n x hx k (i + 1) (by omega) hi]
        cases (x.drop (i + 1)).all okc <;> rfl
    · have e1 : decide ((i : Int) < (x.length : Int)) = false := by simp; omega
      have e2 : x.drop i = [] := List.drop_eq_nil_iff.2 (by omega)
      simp only [Tree.run, e1, cond_false, e2]; rfl
theorem named_run {n : Nat} (hn : 33 ≤ n) (x : List UInt8) : (F_store_Named n x).run = some (named x) := by
  unfold F_store_Named named
  by_cases h : 1 ≤ x.length ∧ x.length ≤ 32
  · have e1 : (decide ((Nat.cast x.length : Int) < 1) || decide ((32 : Int) < (Nat.cast x.length : Int))) = false := by simp; omega
    have e2 : bytesI x = some x := by unfold bytesI; rw [if_pos (by omega)]
    have e3 := named_loop n x (by omega) n 0 (by omega) (by omega)
    simp only [Tree.run, e1, cond_false, e2, Option.bind_some]
    rw [show ((0 : Int)) = ((0 : Nat) : Int) from rfl, e3, List.drop_zero, decide_eq_true h.1, decide_eq_true h.2]
    cases x.all okc <;> rfl
  · have e1 : (decide ((Nat.cast x.length : Int) < 1) || decide ((32 : Int) < (Nat.cast x.length : Int))) = true := by simp; omega
    simp only [Tree.run, e1, cond_true]
    by_cases h1 : 1 ≤ x.length
    · rw [decide_eq_false (p := x.length ≤ 32) (by omega)]; simp
    · rw [decide_eq_false h1]; simp
theorem ref_loop (n : Nat) (x : List UInt8) (hx : x.length ≤ 9223372036854775807) : ∀ (k i : Nat), x.length < i + k → i ≤ x.length → (F_r16_Named_l0 n k x (i : Int)).run = some (bif (x.drop i).all okc then .inr () else .inl ())
  | 0, i, h, h' => by omega
  | k + 1, i, h, h' => by
    unfold F_r16_Named_l0
    by_cases hi : i < x.length
    · have e1 : decide ((i : Int) < (Nat.cast x.length : Int)) = true := by simp; omega
      have e2 : getI x (i : Int) = some x[i] := getI_at' hi
      have e3 : (F_r16_Named_l0 n k x (w64 ((i : Int) + 1))).run = some (bif (x.drop (i + 1)).all okc then .inr () else .inl ()) := by
        rw [wrap_succ hi hx]; exact ref_loop n x hx k (i + 1) (by omega) hi
      simp only [Tree.run, e1, cond_true, e2, e3, Option.bind_some, drop_all hi, okc]
      cases decide (97 ≤ x[i]) <;> cases decide (48 ≤ x[i]) <;> cases decide (x[i] ≤ 122) <;> cases decide (x[i] ≤ 57) <;> cases (x.drop (i + 1)).all okc <;> rfl
    · have e1 : decide ((i : Int) < (Nat.cast x.length : Int)) = false := by simp; omega
      have e2 : x.drop i = [] := List.drop_eq_nil_iff.2 (by omega)
      simp only [Tree.run, e1, cond_false, e2]; rfl
theorem named_ref {n : Nat} (x : List UInt8) (hn : x.length < n) (hx : x.length ≤ 9223372036854775807) : (F_r16_Named n x).run = some (named x) := by
  unfold F_r16_Named named
  have e3 := ref_loop n x hx n 0 (by omega) (by omega)
  simp only [Tree.run]
  rw [show ((0 : Int)) = ((0 : Nat) : Int) from rfl, e3, List.drop_zero]
  have a1 : decide ((1 : Int) ≤ (Nat.cast x.length : Int)) = decide (1 ≤ x.length) := by
    rw [Bool.eq_iff_iff]; simp only [decide_eq_true_eq]; omega
  have a2 : decide ((Nat.cast x.length : Int) ≤ (32 : Int)) = decide (x.length ≤ 32) := by
    rw [Bool.eq_iff_iff]; simp only [decide_eq_true_eq]; omega
  cases x.all okc
  · simp only [Bool.and_false, cond_false, Option.bind_some, Tree.run]
  · simp only [Bool.and_true, cond_true, Option.bind_some, a1, a2, Tree.run]
end Go.Proofs.Ytcipfbabjbcfkaa
